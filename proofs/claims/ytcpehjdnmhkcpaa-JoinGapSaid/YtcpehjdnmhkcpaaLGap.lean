/- JoinGap, the walk. -/
import Derived.Test.YtcpehjdnmhkcpaaLGapP
namespace Go.Proofs.Ytcpehjdnmhkcpaa.LGap
open Go Go.RowKit Go.Maps Go.Proofs.Ytcpehjdnmhkcpaa.Mem Go.Proofs.Ytcpehjdnmhkcpaa.Plain Go.Proofs.Ytcpehjdnmhkcpaa.Ring Go.Proofs.Ytcpehjdnmhkcpaa.IMap Go.Proofs.Ytcpehjdnmhkcpaa.JoinP Go.Proofs.Ytcpehjdnmhkcpaa.JoinA Go.Proofs.Ytcpehjdnmhkcpaa.Mv Go.Proofs.Ytcpehjdnmhkcpaa.RowAt Go.Proofs.Ytcpehjdnmhkcpaa.JoinE Go.Proofs.Ytcpehjdnmhkcpaa.JoinR Go.Proofs.Ytcpehjdnmhkcpaa.JoinF Go.Proofs.Ytcpehjdnmhkcpaa.JoinG Go.Proofs.Ytcpehjdnmhkcpaa.JoinH Go.Proofs.Ytcpehjdnmhkcpaa.JoinI Go.Proofs.Ytcpehjdnmhkcpaa.JoinK Go.Proofs.Ytcpehjdnmhkcpaa.LGapP

set_option maxHeartbeats 2000000 in
set_option maxRecDepth 100000 in
theorem gap_walk (a0 a1 : Int) (w : World) : Calls Try.prog 6 #[.int .i64 a0, .int .i64 a1] w fun e w' => e = .returned (.bool true) ∧ Below w.heap.size w w' := by
  obtain ⟨r, hr, hr4⟩ : ∃ r : Nat, bits .and .i64 a1 3 = (r : Int) ∧ r < 4 := by
    have h0 : 0 ≤ a1 % 4 := Int.emod_nonneg _ (by omega)
    have h1 : a1 % 4 < 4 := Int.emod_lt_of_pos _ (by omega)
    exact ⟨(a1 % 4).toNat, by rw [and3]; omega, by omega⟩
  obtain ⟨g, hg, hg10⟩ : ∃ g : Nat, wrap64 ((IntKind.u64.wrap a0).tmod 10) = (g : Int) ∧ g < 10 := by
    rw [u64_wrap]
    have h0 : 0 ≤ a0 % 18446744073709551616 := Int.emod_nonneg _ (by omega)
    rw [Int.tmod_eq_emod_of_nonneg h0]
    have h1 : 0 ≤ a0 % 18446744073709551616 % 10 := Int.emod_nonneg _ (by omega)
    have h2 : a0 % 18446744073709551616 % 10 < 10 := Int.emod_lt_of_pos _ (by omega)
    refine ⟨(a0 % 18446744073709551616 % 10).toNat, ?_, by omega⟩
    rw [wrap_i64 (by omega) (by omega)]
    omega
  go_enter Try.func6, Try.ntmps6
  go_wp2_with fail
  refine (awake_calls _).mono ?_
  rintro e w0 ⟨rfl, hb0⟩
  go_wp2_with fail
  refine (new_calls true 64 _ (by omega)).mono ?_
  rintro e w1 ⟨J, bl, bh, rfl, hr1, hb1, hJ, hl, hh⟩
  have HR1 : Hid (JRep w1 J bl bh (adds 0)) := Lib.hid hr1
  have hB1 : Below w.heap.size w w1 := hb0.trans (hb1.mono hb0.size)
  have hJ1 := hr1.blk.lt
  have hl1 := hr1.links.lt
  have hh1 := hr1.held.lt
  clear hr1
  go_wp2_with (first | (go_at_call 14; ((with_reducible refine (num_calls _ _).mono ?_); rintro e w' ⟨rfl, rfl⟩)))
  go_loopw [9] (fun i wr => ∃ k : Nat, i = .int .i64 k ∧ k ≤ r + 1 ∧ JRep wr J bl bh (adds k) ∧ Mv J bl bh w1 wr) (fun i _ => r + 1 - (intOf i).toNat)
  case atStart => exact ⟨0, rfl, Nat.zero_le _, HR1.out, Mv.refl _ _ _ _⟩
  case round =>
    obtain ⟨k, rfl, hk, hR, hM⟩ := hrel
    have HR := Lib.hid hR
    clear hR
    by_cases hlt : k < r + 1
    · have hlt' : (k : Int) < 1 + (r : Int) := by omega
      go_wp2_with (first | (go_at_call 16; refine (add_calls J bl bh _ k _ HR.out (adds_good k (by omega)).fit (wf_i64_iff.2 (by omega))).mono ?_; rintro e w2 ⟨rfl, hr2, hm2⟩))
      go_roundw
      case rel => exact ⟨k + 1, by go_num, by omega, hr2, hM.trans hm2⟩
      case measure => simp [intOf]; omega
    · obtain rfl : k = r + 1 := by omega
      have hge : ¬ ((r + 1 : Nat) : Int) < 1 + (r : Int) := by omega
      have HM := Lib.hid hM
      clear hM
      go_wp2
      go_loopw [10, 11] (fun v i wx => ∃ j : Nat, i = .int .i64 j ∧ j ≤ 13 + r ∧ JRep wx J bl bh (st (r + 1) g j).1 ∧ Mv J bl bh w1 wx ∧ Txt wx w1.heap.size v (st (r + 1) g j).2) (fun _ i _ => 13 + r - (intOf i).toNat)
      case atStart => exact ⟨0, rfl, Nat.zero_le _, HR.out, HM.out, RowAt.nil _ _ _ _⟩
      case round =>
        obtain ⟨j, rfl, hj, hRx, hMx, hT⟩ := hrel
        have HRx := Lib.hid hRx
        have HMx := Lib.hid hMx
        have HT := Lib.hid hT
        clear hRx hMx hT
        by_cases hjl : j < 13 + r
        · have hjl' : (j : Int) < 12 + (1 + (r : Int)) := by omega
          by_cases hjg : j = g
          · have hbg : ((j : Int) == (g : Int)) = true := by simp [hjg]
            have hst : st (r + 1) g (j + 1) = st (r + 1) g j := by conv => lhs; unfold st; rw [if_pos hjg]
            have HST := Lib.hid hst
            clear hst hjg
            go_wp2
            go_roundw
            case rel => exact ⟨j + 1, by go_num, by omega, by rw [HST.out]; exact HRx.out, HMx.out, by rw [HST.out]; exact HT.out⟩
            case measure => simp [intOf]; omega
          · have hbg : ((j : Int) == (g : Int)) = false := by simp; omega
            have hn := st_put r g j hr4 hg10 hjl hjg
            have hst : st (r + 1) g (j + 1) = ((JS.put (st (r + 1) g j).1 ((j % (r + 1) : Nat) : Int) (fr j)).2, (st (r + 1) g j).2 ++ (JS.put (st (r + 1) g j).1 ((j % (r + 1) : Nat) : Int) (fr j)).1) := by conv => lhs; unfold st; rw [if_neg hjg]
            obtain ⟨x, hxe, hx2⟩ : ∃ x : Nat, (j : Int) % (1 + (r : Int)) = (x : Int) ∧ x = j % (r + 1) := ⟨j % (r + 1), by rw [Int.natCast_emod, Int.natCast_add]; rw [Int.add_comm]; rfl, rfl⟩
            rw [← hx2] at hn hst
            have hplen := put_len (st_good (r + 1) g (by omega) j (by omega)) (by omega) (x : Int) (fr j)
            obtain ⟨⟨o, s'⟩, hput⟩ : ∃ p, JS.put (st (r + 1) g j).1 (x : Int) (fr j) = p := ⟨_, rfl⟩
            rw [hput] at hst hplen
            simp only at hst hplen
            have HPUT := Lib.hid hput
            have HN := Lib.hid hn
            have HST := Lib.hid hst
            have HG := Lib.hid (st_good (r + 1) g (by omega) j (by omega))
            have hx : (Lit.int .i64 (x : Int)).wf = true := wf_i64_iff.2 (by have := Nat.mod_lt j (show 0 < r + 1 by omega); omega)
            have HX := Lib.hid hx
            have hfew := run_told (r + 1) g (by omega) j (by omega)
            have holen : o.length ≤ j + 1 := by omega
            obtain ⟨i0, hi, hz0, hz1, hz2⟩ := info_parts info9
            clear hn hst hjg hx hx2 hput hplen
            go_wp2
            go_region_with (first
              | (go_at_call 28; ((with_reducible refine (dec_calls j (by omega) _).mono ?_); rintro e w4 ⟨rfl, hb4⟩; have hR4 := (HRx.out.drewN 1).below hb4))
              | (go_at_call 27; ((with_reducible refine (whole_calls j (by omega) _ _).mono ?_); rintro e w5 ⟨rfl, hb5⟩; have hR5 := hR4.below hb5))
              | (go_at_call 20; refine (put_step (f := ⟨true, true, j, dec j⟩) hR5 HG.out (by omega) HX.out HN.out HPUT.out).mono ?_; rintro e w6 ⟨A6, k6, rfl, ht6, hr6, hm6⟩))
            all_goals
              have hM6 : Mv J bl bh wr w6 := ((((Mv.refl J bl bh wr).drewN 1).below hb4).below hb5).trans hm6
              have HM6 := Lib.hid hM6
              have HT6 := Lib.hid (txt_mv HT.out hJ1 hl1 hh1 hM6)
              have HSRC := Lib.hid (src_row (P := Try.prog) Try.underlying38 ht6 (fun u hu => by obtain ⟨t, _, rfl⟩ := List.mem_map.1 hu; rfl))
              have HR6 := Lib.hid hr6
              clear hM6 hr6 ht6 hm6 hb4 hb5 hR4 hR5
              go_wp2_with (first
                | (go_at_call 14; ((with_reducible refine (num_calls _ _).mono ?_); rintro e w' ⟨rfl, rfl⟩))
                | (at_builtin; refine wpList_append_at rfl (.tmp 64) (.tmp 65) 38 38 rfl i0 (.string ⟨#[]⟩) 16 Try.underlying38 hi hz0 hz1 hz2 rfl HT6.out rfl _ rfl _ _ HSRC.out (by unfold maxLen; omega) (by omega) (by have := HMx.out.size; have := HM6.out.size; omega) ?_; intro v7 w7 hrow7 hgrow7 hnil7 hown7))
              go_roundw
              case rel =>
                refine ⟨j + 1, by go_num, by omega, ?_, ?_, ?_⟩
                · rw [HST.out]
                  exact rep_kept HR6.out hgrow7 (own_ne HT.out hJ1) (own_ne HT.out hl1) (own_ne HT.out hh1)
                · exact (HMx.out.trans HM6.out).grown hgrow7 (fun k hk => .inr (.inr (.inr (RowAt.lt HT.out k hk).1)))
                · rw [HST.out]
                  unfold Txt
                  rw [List.length_append, List.map_append]
                  exact hrow7
              case measure => simp [intOf]; omega
        · obtain ⟨wo, rfl⟩ : ∃ wo : World, wo = wr := ⟨_, rfl⟩
          obtain rfl : j = 13 + r := by omega
          have hjf : ¬ ((13 + r : Nat) : Int) < 12 + (1 + (r : Int)) := by omega
          obtain ⟨hw, hh0⟩ := st_end r g hr4 hg10
          have hT := HT.out
          rw [hw] at hT
          have hwl : (want (r + 1) g).length = 12 + r := by unfold want; simp; omega
          obtain ⟨A, c, rfl, hcells⟩ := hT.shape
          have hwk : ∀ i, i < 12 + r → (want (r + 1) g)[i]? = some (dec (skip g i)) := fun i hi => by
            unfold want
            rw [List.getElem?_map, List.getElem?_range (by omega)]
            rfl
          have HC := Lib.hid hcells
          have HW := Lib.hid hwk
          have HH0 := Lib.hid hh0
          have hlr : ((want (r + 1) g).length : Int) = 12 + (r : Int) := by omega
          rw [hwl]
          clear hw hT hcells hwk hh0
          go_wp2
          go_loopw [14, 15] (fun a i wx => ∃ n m : Nat, i = .int .i64 n ∧ n ≤ 12 + r ∧ a = .int .i64 m ∧ m = (if n ≤ g then n else n + 1) ∧ Below wo.heap.size wo wx) (fun _ i _ => 12 + r - (intOf i).toNat)
          case atStart => exact ⟨0, 0, rfl, Nat.zero_le _, rfl, by rw [if_pos (Nat.zero_le _)], Below.refl _ _⟩
          case round =>
            obtain ⟨n, m, rfl, hn12, rfl, hm, hB⟩ := hrel
            have HB := Lib.hid hB
            clear hB
            by_cases hn : n < 12 + r
            · have hnl : (n : Int) < 12 + (r : Int) := by omega
              rcases Nat.lt_trichotomy n g with hlt | heq | hgt
              · obtain rfl : m = n := by rw [hm, if_pos (by omega)]
                have hsk : skip g m = m := by unfold skip; rw [if_pos hlt]
                have hbg : ((m : Int) == (g : Int)) = false := by simp; omega
                clear hm
                obtain ⟨gb, ob, rfl, hcell⟩ := HC.out m _ (HW.out m hn)
                rw [hsk] at hcell
                have hcw := (HB.out.cell (p := ⟨gb, ob + m, none⟩) (World.block_lt_of_cell? wo _ hcell)).trans hcell
                have hn0 : (0 : Int) ≤ (m : Int) := by omega
                clear hcell hsk
                go_wp2
                go_region_held3 (fun W => W.cell? ⟨gb, ob + m, none⟩ = some (.string (dec (m))) ∧ Below wo.heap.size wo W) (first | exact ⟨hcw, Below.drew HB.out⟩ | exact ⟨(hb8.cell (World.block_lt_of_cell? _ _ hcw)).trans hcw, (Below.drew HB.out).trans (hb8.mono HB.out.size)⟩)
                  (first | (go_at_call 28; ((with_reducible refine (dec_calls (m) (by omega) _).mono ?_); rintro e w8 ⟨rfl, hb8⟩)))
                go_wp2
                go_roundw
                case rel => exact ⟨m + 1, m + 1, by go_num, by omega, by go_num, by rw [if_pos (by omega)], (Below.drew HB.out).trans (hb8.mono HB.out.size)⟩
                case measure => simp [intOf]; omega
              · obtain rfl : m = g := by rw [hm, if_pos (by omega)]; exact heq
                have hsk : skip m n = n + 1 := by unfold skip; rw [if_neg (by omega)]
                have hbg : ((m : Int) == (m : Int)) = true := by simp
                have hnm : (m : Int) = (n : Int) := by omega
                have HNM := Lib.hid heq
                clear hm heq hnm
                obtain ⟨gb, ob, rfl, hcell⟩ := HC.out n _ (HW.out n hn)
                rw [hsk, show n + 1 = m + 1 from by rw [HNM.out]] at hcell
                have hcw := (HB.out.cell (p := ⟨gb, ob + n, none⟩) (World.block_lt_of_cell? wo _ hcell)).trans hcell
                have hn0 : (0 : Int) ≤ (n : Int) := by omega
                clear hcell hsk
                go_wp2
                go_region_held3 (fun W => W.cell? ⟨gb, ob + n, none⟩ = some (.string (dec (m + 1))) ∧ Below wo.heap.size wo W) (first | exact ⟨hcw, Below.drew HB.out⟩ | exact ⟨(hb8.cell (World.block_lt_of_cell? _ _ hcw)).trans hcw, (Below.drew HB.out).trans (hb8.mono HB.out.size)⟩)
                  (first | (go_at_call 28; refine (dec_calls (m + 1) (by omega) _).mono ?_; rintro e w8 ⟨rfl, hb8⟩))
                go_wp2
                go_roundw
                case rel => exact ⟨n + 1, (m + 1) + 1, by go_num, by omega, by go_num, by have := HNM.out; rw [if_neg (by omega)]; omega, (Below.drew HB.out).trans (hb8.mono HB.out.size)⟩
                case measure => simp [intOf]; omega
              · obtain rfl : m = n + 1 := by rw [hm, if_neg (by omega)]
                have hsk : skip g n = n + 1 := by unfold skip; rw [if_neg (by omega)]
                have hbg : (((n : Int) + 1) == (g : Int)) = false := by simp; omega
                clear hm
                obtain ⟨gb, ob, rfl, hcell⟩ := HC.out n _ (HW.out n hn)
                rw [hsk] at hcell
                have hcw := (HB.out.cell (p := ⟨gb, ob + n, none⟩) (World.block_lt_of_cell? wo _ hcell)).trans hcell
                have hn0 : (0 : Int) ≤ (n : Int) := by omega
                clear hcell hsk
                go_wp2
                go_region_held3 (fun W => W.cell? ⟨gb, ob + n, none⟩ = some (.string (dec (n + 1))) ∧ Below wo.heap.size wo W) (first | exact ⟨hcw, Below.drew HB.out⟩ | exact ⟨(hb8.cell (World.block_lt_of_cell? _ _ hcw)).trans hcw, (Below.drew HB.out).trans (hb8.mono HB.out.size)⟩)
                  (first | (go_at_call 28; refine (dec_calls (n + 1) (by omega) _).mono ?_; rintro e w8 ⟨rfl, hb8⟩))
                go_wp2
                go_roundw
                case rel => exact ⟨n + 1, (n + 1) + 1, by go_num, by omega, by go_num, by rw [if_neg (by omega)], (Below.drew HB.out).trans (hb8.mono HB.out.size)⟩
                case measure => simp [intOf]; omega
            · have hne : ¬ (n : Int) < 12 + (r : Int) := by omega
              have hq : ((12 + (r : Int)) == 11 + (1 + (r : Int))) = true := by simp; omega
              have hB2 : Below w.heap.size w wo := hB1.trans (HMx.out.to_below hB1.size (Nat.le_trans hb0.size hJ) (Nat.le_trans hb0.size hl) (Nat.le_trans hb0.size hh))
              have hR8 := HRx.out.below HB.out
              have HB2 := Lib.hid (hB2.trans (HB.out.mono hB2.size))
              have HH : Hid (((st (r + 1) g (13 + r)).1.held.length : Int) = 0) := Lib.hid (by rw [HH0.out]; rfl)
              clear hB2
              go_wp2_with (first
                | (go_at_call 23; ((with_reducible refine (held_calls J bl bh _ _ hR8).mono ?_); rintro e w' ⟨rfl, rfl⟩; rw [HH.out])))
              go_ret
              exact ⟨rfl, HB2.out⟩

end Go.Proofs.Ytcpehjdnmhkcpaa.LGap
