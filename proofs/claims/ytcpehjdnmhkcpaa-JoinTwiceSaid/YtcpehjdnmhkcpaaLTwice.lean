/- JoinTwice, the walk. -/
import Derived.Test.YtcpehjdnmhkcpaaLTwiceQ
namespace Go.Proofs.Ytcpehjdnmhkcpaa.LTwice
open Go Go.RowKit Go.Maps Go.Proofs.Ytcpehjdnmhkcpaa.Mem Go.Proofs.Ytcpehjdnmhkcpaa.Plain Go.Proofs.Ytcpehjdnmhkcpaa.Ring Go.Proofs.Ytcpehjdnmhkcpaa.IMap Go.Proofs.Ytcpehjdnmhkcpaa.JoinP Go.Proofs.Ytcpehjdnmhkcpaa.JoinA Go.Proofs.Ytcpehjdnmhkcpaa.Mv Go.Proofs.Ytcpehjdnmhkcpaa.RowAt Go.Proofs.Ytcpehjdnmhkcpaa.JoinE Go.Proofs.Ytcpehjdnmhkcpaa.JoinR Go.Proofs.Ytcpehjdnmhkcpaa.JoinF Go.Proofs.Ytcpehjdnmhkcpaa.JoinG Go.Proofs.Ytcpehjdnmhkcpaa.JoinH Go.Proofs.Ytcpehjdnmhkcpaa.JoinI Go.Proofs.Ytcpehjdnmhkcpaa.JoinK Go.Proofs.Ytcpehjdnmhkcpaa.LTwiceP
open Go.Proofs.Ytcpehjdnmhkcpaa.LTwiceQ (D G Cuts cuts_of cut_f pre_all D_size G_val)
open Go.Proofs.Ytcpehjdnmhkcpaa.PJoinTwice (k33 at_T33 rd_T33 withyref17_Cut.calls)
open Go.Proofs.YtcpehjdnmhkcpaaW.PrintWords

theorem up {w w' : World} (h : Below w.heap.size w w') {p : Addr} {v : Value} (hc : w.cell? p = some v) : w'.cell? p = some v := (h.cell (World.block_lt_of_cell? w _ hc)).trans hc

theorem src_empty (w : World) (A : Option Addr) (k : Nat) : Src Try.prog 1 38 (.slice A 0 k) 0 [] w := by
  cases A with
  | none => exact Src.ofNil w Try.underlying38 k
  | some a => exact Src.ofSlice w Try.underlying38 _ _ _ _ (by simp) (fun j u hj => by simp at hj) (fun u hu => by cases hu)

/-- What Cut answers, with what is read of it. -/
theorem cut_calls {t : ByteArray} {c n : Nat} (C : Cuts t c n) (g : Nat) (w : World) (hc : w.cell? ⟨g, 0, none⟩ = some (.int .i64 (c : Int))) :
    Calls Try.prog 29 #[.string t, .slice (some ⟨g, 0, none⟩) 1 1, .int .i64 0, .bool true] w fun e w' => ∃ A k, e = .returned (.tuple #[.slice A n k, .int .i64 0]) ∧ (∀ i, i < n → ∃ ad : Addr, A = some ad ∧ w'.cell? (ad.add (i * 4)) = some (.bool (F (D t c) n i).b) ∧ w'.cell? ⟨(ad.add (i * 4)).block, (ad.add (i * 4)).off + 1, none⟩ = some (.bool (F (D t c) n i).e) ∧ w'.cell? ⟨(ad.add (i * 4)).block, (ad.add (i * 4)).off + 2, none⟩ = some (.int .i64 (i : Int)) ∧ w'.cell? ⟨(ad.add (i * 4)).block, (ad.add (i * 4)).off + 3, none⟩ = some (.string (D t c i))) ∧ Below w.heap.size w w' := by
  have hr : ReadsInt w .i64 (some ⟨g, 0, none⟩) 1 [(c : Int)] := ⟨rfl, by omega, fun _ => ⟨_, rfl, fun j hj => by
    obtain rfl : j = 0 := by omega
    exact hc⟩⟩
  refine (withyref17_Cut.calls (n + 4) t (some ⟨g, 0, none⟩) 1 [(c : Int)] 0 true _ 0 w (Kd.C_of_reads (d := (0 : Int)) (h1 := fun _ => rfl) hr) (by simp) (cut_f C)).mono ?_
  rintro e w' ⟨v, rfl, hR, hb⟩
  obtain ⟨A, k, rfl⟩ := Kd.R_slice hR
  have hC := (Kd.R_reads' hR).2.2
  have hl : (List.map (G t c) (List.range n)).length = n := by simp
  rw [hl] at hC ⊢
  refine ⟨A, k, rfl, fun i hi => ?_, hb⟩
  obtain ⟨ad, e, h0, h1, h2, h3⟩ := at_T33 hC (i : Int) (by omega) (by omega)
  have hrd : rd_T33 (List.map (G t c) (List.range n)) (i : Int) = G t c i := by
    unfold rd_T33
    simp [List.getD_eq_getElem?_getD, List.getElem?_map, List.getElem?_range hi]
  rw [hrd] at h0 h1 h2 h3
  obtain ⟨g0, g1, g2, g3⟩ := G_val C hi
  rw [g0] at h0
  rw [g1] at h1
  rw [g2] at h2
  rw [g3] at h3
  exact ⟨ad, e, h0, h1, h2, h3⟩

set_option maxHeartbeats 2000000 in
set_option maxRecDepth 100000 in
theorem twice_walk (a0 : ByteArray) (a1 : Int) (w : World) (hsz : a0.size ≤ 140737488351232) : Calls Try.prog 11 #[.string a0, .int .i64 a1] w fun e w' => e = .returned (.bool true) ∧ Below w.heap.size w w' := by
  obtain ⟨r, hr, hr16⟩ : ∃ r : Nat, bits .and .i64 a1 15 = (r : Int) ∧ r < 16 := by
    have h0 : 0 ≤ a1 % 16 := Int.emod_nonneg _ (by omega)
    have h1 : a1 % 16 < 16 := Int.emod_lt_of_pos _ (by omega)
    exact ⟨(a1 % 16).toNat, by rw [and15]; omega, by omega⟩
  have hs1 : a0.size + 1 ≤ 9223372036854775807 := by omega
  obtain ⟨T0, hT0⟩ : ∃ T0, a0 ++ (⟨#[120]⟩ : ByteArray) = T0 := ⟨_, rfl⟩
  have hl0 : T0.size = a0.size + 1 := by rw [← hT0, ByteArray.size_append]; rfl
  go_enter Try.func11, Try.ntmps11
  go_wp2_with fail
  refine (awake_calls _).mono ?_
  rintro e w0 ⟨rfl, hb0⟩
  obtain ⟨T1, hT1⟩ : ∃ T1, T0.extract 0 100 = T1 := ⟨_, rfl⟩
  have hl1 : T1.size = min 100 T0.size := by rw [← hT1, ByteArray.size_extract]; omega
  by_cases hbig : 100 < T0.size
  · have hb1 : (100 : Int) < (T0.size : Int) := by omega
    go_wp2_with fail
    obtain ⟨C, hn50, hn0⟩ := cuts_of (t := T1) (c := r + 2) (by omega) (by omega) (by omega) (by omega)
    obtain ⟨n, hn⟩ : ∃ n, (T1.size + (r + 2) - 1) / (r + 2) = n := ⟨_, rfl⟩
    rw [hn] at C hn50 hn0
    have hn64 : n ≤ 64 := by omega
    have hDS := D_size C
    have hall := pre_all C
    have HC0 := Lib.hid C
    refine (cut_calls C w0.heap.size _ (by rw [show ((r + 2 : Nat) : Int) = 2 + (r : Int) from by omega]; exact (Blk.new w0 _ 3).cell 0)).mono ?_
    rintro e w1 ⟨A, k1, rfl, hcells, hbc⟩
    generalize D T1 (r + 2) = DD at *
    have HDS := Lib.hid hDS
    have HALL := Lib.hid hall
    have HC := Lib.hid hcells
    have HB1 : Hid (Below w.heap.size w w1) := Lib.hid ((hb0.alloc hb0.size _).trans (hbc.mono (by have := hb0.size; simp; omega)))
    clear hn C hDS hall hcells hbc hT0 hT1 hl0 hl1 HC0
    go_wp2_with fail
    refine (new_calls true 128 _ (by omega)).mono ?_
    rintro e w2 ⟨J, bl, bh, rfl, hr2, hb2, hJ, hl, hh⟩
    have HR2 := Lib.hid hr2
    have G0 := new_good true 128 (by omega)
    have G1 := add_good G0 (x := 0) (by decide)
    clear hr2
    go_wp2_with fail
    refine (add_calls J bl bh _ 0 _ HR2.out G0.fit (by decide)).mono ?_
    rintro e w3 ⟨rfl, hr3, hm3⟩
    have HR3 := Lib.hid hr3
    clear hr3
    go_wp2_with fail
    refine (add_calls J bl bh _ 1 _ HR3.out G1.fit (by decide)).mono ?_
    rintro e w4 ⟨rfl, hr4, hm4⟩
    have hg4 := add_good G1 (x := 1) (by decide)
    rw [st_zero (D := DD) hn0] at hr4 hg4
    have HR4 := Lib.hid hr4
    have HG4 := Lib.hid hg4
    have hB14 : Below w1.heap.size w1 w4 := by
      have h2 := hb2.trans (hm3.to_below hb2.size hJ hl hh)
      exact h2.trans (hm4.to_below h2.size hJ hl hh)
    have HB14 := Lib.hid hB14
    have HJ := Lib.hid (show w1.heap.size ≤ J ∧ w1.heap.size ≤ bl ∧ w1.heap.size ≤ bh from ⟨hJ, hl, hh⟩)
    have hJ4 := hr4.blk.lt
    have hl4 := hr4.links.lt
    have hh4 := hr4.held.lt
    clear hr4 hg4 hm3 hm4 G0 G1 hB14 HR2 HR3 hb2 hJ hl hh
    go_wp2_with fail
    go_loopw [10, 11] (fun g i wx => ∃ k : Nat, i = .int .i64 k ∧ k ≤ n ∧ JRep wx J bl bh (st DD n k) ∧ JoinH.Good (st DD n k) (2 * k) ∧ Mv J bl bh w4 wx ∧ Txt wx w4.heap.size g (told DD n k)) (fun _ i _ => n - (intOf i).toNat)
    case atStart => exact ⟨0, rfl, Nat.zero_le _, HR4.out, HG4.out, Mv.refl _ _ _ _, by rw [show told DD n 0 = [] from if_neg (by omega)]; exact RowAt.nil _ _ _ _⟩
    case round =>
      obtain ⟨k, rfl, hk, hR, hG, hM, hT⟩ := hrel
      have HR := Lib.hid hR
      have HG := Lib.hid hG
      have HM := Lib.hid hM
      have hBX : Below w1.heap.size w1 wr := HB14.out.trans (hM.to_below HB14.out.size HJ.out.1 HJ.out.2.1 HJ.out.2.2)
      have HBX := Lib.hid hBX
      clear hR hG hM
      by_cases hlt : k < n
      · have hltI : (k : Int) < (n : Int) := by omega
        have hk0 : (0 : Int) ≤ (k : Int) := by omega
        rw [show told DD n k = [] from if_neg (by omega)] at hT
        have HT := Lib.hid hT
        clear hT
        obtain ⟨ad, rfl, c0, c1, c2, c3⟩ := HC.out k hlt
        have d0 := up hBX c0
        have d1 := up hBX c1
        have d2 := up hBX c2
        have d3 := up hBX c3
        obtain ⟨hna, hpa⟩ := put_a HDS.out hn64 hlt HG.out (by omega)
        obtain ⟨hnb, hpb⟩ := put_b (D := DD) HDS.out hn64 hlt
        have hg5 := put_good' HG.out (by omega) 0 (F DD n k)
        rw [hpa] at hg5
        have hg6 := put_good' hg5 (by omega) 1 (F DD n k)
        simp only at hg5 hg6
        rw [hpb] at hg6
        have HNA := Lib.hid hna
        have HPA := Lib.hid hpa
        have HNB := Lib.hid hnb
        have HPB := Lib.hid hpb
        have HG5 := Lib.hid hg5
        have HG6 := Lib.hid hg6
        have htl : (told DD n (k + 1)).length ≤ 1 := by unfold told; split <;> simp
        clear hna hpa hnb hpb hg5 hg6 hBX
        go_wp2_with fail
        refine (put_step (f := F DD n k) HR.out HG.out (by omega) (by decide) HNA.out HPA.out).mono ?_
        rintro e w5 ⟨A5, k5, rfl, ht5, hr5, hm5⟩
        have HR5 := Lib.hid hr5
        have HT5 := Lib.hid ht5
        have hBY : Below w1.heap.size w1 w5 := HBX.out.trans (hm5.to_below HBX.out.size HJ.out.1 HJ.out.2.1 HJ.out.2.2)
        have f0 := up hBY c0
        have f1 := up hBY c1
        have f2 := up hBY c2
        have f3 := up hBY c3
        clear hr5 ht5 hBY d0 d1 d2 d3 c0 c1 c2 c3
        go_wp2_with fail
        refine (put_step (f := F DD n k) HR5.out HG5.out (by omega) (by decide) HNB.out HPB.out).mono ?_
        rintro e w6 ⟨A6, k6, rfl, ht6, hr6, hm6⟩
        have HR6 := Lib.hid hr6
        have hM46 := (HM.out.trans hm5).trans hm6
        have HM6 := Lib.hid hM46
        have HT6 := Lib.hid (txt_mv (txt_mv HT.out hJ4 hl4 hh4 hm5) hJ4 hl4 hh4 hm6)
        have hjl5 := HR.out.blk.lt
        have hll5 := HR.out.links.lt
        have hhl5 := HR.out.held.lt
        have HTA := Lib.hid (txt_mv HT5.out hjl5 hll5 hhl5 hm6)
        have HSA := Lib.hid (src_row (P := Try.prog) Try.underlying38 HTA.out (fun u hu => by obtain ⟨t, _, rfl⟩ := List.mem_map.1 hu; rfl))
        have HTB := Lib.hid ht6
        clear hr6 hm6 hm5 ht6 hM46 f0 f1 f2 f3 hjl5 hll5 hhl5
        obtain ⟨i9, hi9, hz90, hz91, hz92⟩ := info_parts info9
        go_wp2_with (first
          | (go_at_call 14; ((with_reducible refine (num_calls _ _).mono ?_); rintro e w' ⟨rfl, rfl⟩))
          | (at_builtin; refine wpList_append_at rfl (.tmp 79) (.tmp 80) 38 38 rfl i9 (.string ⟨#[]⟩) 16 Try.underlying38 hi9 hz90 hz91 hz92 rfl HT6.out rfl _ rfl _ _ HSA.out (by unfold maxLen; simp; omega) (by simp; omega) HM6.out.size ?_; intro v7 w7 hrow7 hgrow7 hnil7 hown7; have HROW7 := Lib.hid hrow7; have HR7 := Lib.hid (rep_kept HR6.out hgrow7 (own_ne HT6.out hJ4) (own_ne HT6.out hl4) (own_ne HT6.out hh4)); have HM7 := Lib.hid (HM6.out.grown hgrow7 (fun b hb => .inr (.inr (.inr (RowAt.lt HT6.out b hb).1)))); clear hrow7 hgrow7 hnil7 hown7)
          | (at_builtin; refine wpList_append_at rfl (.tmp 82) (.tmp 83) 38 38 rfl i9 (.string ⟨#[]⟩) 16 Try.underlying38 hi9 hz90 hz91 hz92 rfl HROW7.out rfl _ rfl _ _ (src_empty w7 A6 k6) (by unfold maxLen; simp; omega) (by simp; omega) HM7.out.size ?_; intro v8 w8 hrow8 hgrow8 hnil8 hown8))
        have HR8 := rep_kept HR7.out hgrow8 (own_ne HROW7.out hJ4) (own_ne HROW7.out hl4) (own_ne HROW7.out hh4)
        have HM8 := HM7.out.grown hgrow8 (fun b hb => .inr (.inr (.inr (RowAt.lt HROW7.out b hb).1)))
        have HT8 : Txt w8 w4.heap.size v8 (told DD n (k + 1)) := by
          unfold Txt
          simpa using hrow8
        refine ⟨⟨k + 1, by go_num, by omega, HR8, HG6.out.mono (by omega), HM8, HT8⟩, ?_⟩
        simp [intOf]
        omega
      · obtain rfl : k = n := by omega
        rw [show told DD k k = [T1] from by unfold told; rw [if_pos rfl, HALL.out]] at hT
        obtain ⟨A9, c9, rfl, _⟩ := hT.shape
        have HT : Hid (Txt wr w4.heap.size (.slice A9 1 c9) [T1]) := Lib.hid hT
        have HH : Hid (((st DD k k).held.length : Int) = 0) := Lib.hid (by unfold st; rw [if_pos rfl]; rfl)
        have HL : Hid ((st DD k k).lost = (k : Int)) := Lib.hid (by unfold st; rw [if_pos rfl]; rfl)
        have hkk : ¬ (k : Int) < (k : Int) := by omega
        clear hT
        go_wp2_with (first
          | (go_at_call 14; ((with_reducible refine (num_calls _ _).mono ?_); rintro e w' ⟨rfl, rfl⟩))
          | (go_at_call 22; refine (same_calls _ _ _ _ _ _ _ (RowAt.alloc HT.out _) (txt_one _ _) (by simp)).mono ?_; rintro e w7 ⟨rfl, nq, rfl⟩)
          | (go_at_call 23; ((with_reducible refine (held_calls J bl bh _ _ ((HR.out.grown (grown_alloc (grown_refl _ none) _)).drewN _)).mono ?_); rintro e w' ⟨rfl, rfl⟩; rw [HH.out]))
          | (go_at_call 25; ((with_reducible refine (lost_calls J bl bh _ _ ((HR.out.grown (grown_alloc (grown_refl _ none) _)).drewN _)).mono ?_); rintro e w' ⟨rfl, rfl⟩; rw [HL.out])))
        go_ret
        have hBf := HB1.out.trans (HBX.out.mono HB1.out.size)
        exact ⟨rfl, below_drewN (hBf.alloc hBf.size _) _⟩
  · have hb1 : ((100 : Int) < (T0.size : Int)) = False := eq_false (by omega)
    go_wp2_with fail
    obtain ⟨C, hn50, hn0⟩ := cuts_of (t := T0) (c := r + 2) (by omega) (by omega) (by omega) (by omega)
    obtain ⟨n, hn⟩ : ∃ n, (T0.size + (r + 2) - 1) / (r + 2) = n := ⟨_, rfl⟩
    rw [hn] at C hn50 hn0
    have hn64 : n ≤ 64 := by omega
    have hDS := D_size C
    have hall := pre_all C
    have HC0 := Lib.hid C
    refine (cut_calls C w0.heap.size _ (by rw [show ((r + 2 : Nat) : Int) = 2 + (r : Int) from by omega]; exact (Blk.new w0 _ 3).cell 0)).mono ?_
    rintro e w1 ⟨A, k1, rfl, hcells, hbc⟩
    generalize D T0 (r + 2) = DD at *
    have HDS := Lib.hid hDS
    have HALL := Lib.hid hall
    have HC := Lib.hid hcells
    have HB1 : Hid (Below w.heap.size w w1) := Lib.hid ((hb0.alloc hb0.size _).trans (hbc.mono (by have := hb0.size; simp; omega)))
    clear hn C hDS hall hcells hbc hT0 hT1 hl0 hl1 HC0
    go_wp2_with fail
    refine (new_calls true 128 _ (by omega)).mono ?_
    rintro e w2 ⟨J, bl, bh, rfl, hr2, hb2, hJ, hl, hh⟩
    have HR2 := Lib.hid hr2
    have G0 := new_good true 128 (by omega)
    have G1 := add_good G0 (x := 0) (by decide)
    clear hr2
    go_wp2_with fail
    refine (add_calls J bl bh _ 0 _ HR2.out G0.fit (by decide)).mono ?_
    rintro e w3 ⟨rfl, hr3, hm3⟩
    have HR3 := Lib.hid hr3
    clear hr3
    go_wp2_with fail
    refine (add_calls J bl bh _ 1 _ HR3.out G1.fit (by decide)).mono ?_
    rintro e w4 ⟨rfl, hr4, hm4⟩
    have hg4 := add_good G1 (x := 1) (by decide)
    rw [st_zero (D := DD) hn0] at hr4 hg4
    have HR4 := Lib.hid hr4
    have HG4 := Lib.hid hg4
    have hB14 : Below w1.heap.size w1 w4 := by
      have h2 := hb2.trans (hm3.to_below hb2.size hJ hl hh)
      exact h2.trans (hm4.to_below h2.size hJ hl hh)
    have HB14 := Lib.hid hB14
    have HJ := Lib.hid (show w1.heap.size ≤ J ∧ w1.heap.size ≤ bl ∧ w1.heap.size ≤ bh from ⟨hJ, hl, hh⟩)
    have hJ4 := hr4.blk.lt
    have hl4 := hr4.links.lt
    have hh4 := hr4.held.lt
    clear hr4 hg4 hm3 hm4 G0 G1 hB14 HR2 HR3 hb2 hJ hl hh
    go_wp2_with fail
    go_loopw [10, 11] (fun g i wx => ∃ k : Nat, i = .int .i64 k ∧ k ≤ n ∧ JRep wx J bl bh (st DD n k) ∧ JoinH.Good (st DD n k) (2 * k) ∧ Mv J bl bh w4 wx ∧ Txt wx w4.heap.size g (told DD n k)) (fun _ i _ => n - (intOf i).toNat)
    case atStart => exact ⟨0, rfl, Nat.zero_le _, HR4.out, HG4.out, Mv.refl _ _ _ _, by rw [show told DD n 0 = [] from if_neg (by omega)]; exact RowAt.nil _ _ _ _⟩
    case round =>
      obtain ⟨k, rfl, hk, hR, hG, hM, hT⟩ := hrel
      have HR := Lib.hid hR
      have HG := Lib.hid hG
      have HM := Lib.hid hM
      have hBX : Below w1.heap.size w1 wr := HB14.out.trans (hM.to_below HB14.out.size HJ.out.1 HJ.out.2.1 HJ.out.2.2)
      have HBX := Lib.hid hBX
      clear hR hG hM
      by_cases hlt : k < n
      · have hltI : (k : Int) < (n : Int) := by omega
        have hk0 : (0 : Int) ≤ (k : Int) := by omega
        rw [show told DD n k = [] from if_neg (by omega)] at hT
        have HT := Lib.hid hT
        clear hT
        obtain ⟨ad, rfl, c0, c1, c2, c3⟩ := HC.out k hlt
        have d0 := up hBX c0
        have d1 := up hBX c1
        have d2 := up hBX c2
        have d3 := up hBX c3
        obtain ⟨hna, hpa⟩ := put_a HDS.out hn64 hlt HG.out (by omega)
        obtain ⟨hnb, hpb⟩ := put_b (D := DD) HDS.out hn64 hlt
        have hg5 := put_good' HG.out (by omega) 0 (F DD n k)
        rw [hpa] at hg5
        have hg6 := put_good' hg5 (by omega) 1 (F DD n k)
        simp only at hg5 hg6
        rw [hpb] at hg6
        have HNA := Lib.hid hna
        have HPA := Lib.hid hpa
        have HNB := Lib.hid hnb
        have HPB := Lib.hid hpb
        have HG5 := Lib.hid hg5
        have HG6 := Lib.hid hg6
        have htl : (told DD n (k + 1)).length ≤ 1 := by unfold told; split <;> simp
        clear hna hpa hnb hpb hg5 hg6 hBX
        go_wp2_with fail
        refine (put_step (f := F DD n k) HR.out HG.out (by omega) (by decide) HNA.out HPA.out).mono ?_
        rintro e w5 ⟨A5, k5, rfl, ht5, hr5, hm5⟩
        have HR5 := Lib.hid hr5
        have HT5 := Lib.hid ht5
        have hBY : Below w1.heap.size w1 w5 := HBX.out.trans (hm5.to_below HBX.out.size HJ.out.1 HJ.out.2.1 HJ.out.2.2)
        have f0 := up hBY c0
        have f1 := up hBY c1
        have f2 := up hBY c2
        have f3 := up hBY c3
        clear hr5 ht5 hBY d0 d1 d2 d3 c0 c1 c2 c3
        go_wp2_with fail
        refine (put_step (f := F DD n k) HR5.out HG5.out (by omega) (by decide) HNB.out HPB.out).mono ?_
        rintro e w6 ⟨A6, k6, rfl, ht6, hr6, hm6⟩
        have HR6 := Lib.hid hr6
        have hM46 := (HM.out.trans hm5).trans hm6
        have HM6 := Lib.hid hM46
        have HT6 := Lib.hid (txt_mv (txt_mv HT.out hJ4 hl4 hh4 hm5) hJ4 hl4 hh4 hm6)
        have hjl5 := HR.out.blk.lt
        have hll5 := HR.out.links.lt
        have hhl5 := HR.out.held.lt
        have HTA := Lib.hid (txt_mv HT5.out hjl5 hll5 hhl5 hm6)
        have HSA := Lib.hid (src_row (P := Try.prog) Try.underlying38 HTA.out (fun u hu => by obtain ⟨t, _, rfl⟩ := List.mem_map.1 hu; rfl))
        have HTB := Lib.hid ht6
        clear hr6 hm6 hm5 ht6 hM46 f0 f1 f2 f3 hjl5 hll5 hhl5
        obtain ⟨i9, hi9, hz90, hz91, hz92⟩ := info_parts info9
        go_wp2_with (first
          | (go_at_call 14; ((with_reducible refine (num_calls _ _).mono ?_); rintro e w' ⟨rfl, rfl⟩))
          | (at_builtin; refine wpList_append_at rfl (.tmp 79) (.tmp 80) 38 38 rfl i9 (.string ⟨#[]⟩) 16 Try.underlying38 hi9 hz90 hz91 hz92 rfl HT6.out rfl _ rfl _ _ HSA.out (by unfold maxLen; simp; omega) (by simp; omega) HM6.out.size ?_; intro v7 w7 hrow7 hgrow7 hnil7 hown7; have HROW7 := Lib.hid hrow7; have HR7 := Lib.hid (rep_kept HR6.out hgrow7 (own_ne HT6.out hJ4) (own_ne HT6.out hl4) (own_ne HT6.out hh4)); have HM7 := Lib.hid (HM6.out.grown hgrow7 (fun b hb => .inr (.inr (.inr (RowAt.lt HT6.out b hb).1)))); clear hrow7 hgrow7 hnil7 hown7)
          | (at_builtin; refine wpList_append_at rfl (.tmp 82) (.tmp 83) 38 38 rfl i9 (.string ⟨#[]⟩) 16 Try.underlying38 hi9 hz90 hz91 hz92 rfl HROW7.out rfl _ rfl _ _ (src_empty w7 A6 k6) (by unfold maxLen; simp; omega) (by simp; omega) HM7.out.size ?_; intro v8 w8 hrow8 hgrow8 hnil8 hown8))
        have HR8 := rep_kept HR7.out hgrow8 (own_ne HROW7.out hJ4) (own_ne HROW7.out hl4) (own_ne HROW7.out hh4)
        have HM8 := HM7.out.grown hgrow8 (fun b hb => .inr (.inr (.inr (RowAt.lt HROW7.out b hb).1)))
        have HT8 : Txt w8 w4.heap.size v8 (told DD n (k + 1)) := by
          unfold Txt
          simpa using hrow8
        refine ⟨⟨k + 1, by go_num, by omega, HR8, HG6.out.mono (by omega), HM8, HT8⟩, ?_⟩
        simp [intOf]
        omega
      · obtain rfl : k = n := by omega
        rw [show told DD k k = [T0] from by unfold told; rw [if_pos rfl, HALL.out]] at hT
        obtain ⟨A9, c9, rfl, _⟩ := hT.shape
        have HT : Hid (Txt wr w4.heap.size (.slice A9 1 c9) [T0]) := Lib.hid hT
        have HH : Hid (((st DD k k).held.length : Int) = 0) := Lib.hid (by unfold st; rw [if_pos rfl]; rfl)
        have HL : Hid ((st DD k k).lost = (k : Int)) := Lib.hid (by unfold st; rw [if_pos rfl]; rfl)
        have hkk : ¬ (k : Int) < (k : Int) := by omega
        clear hT
        go_wp2_with (first
          | (go_at_call 14; ((with_reducible refine (num_calls _ _).mono ?_); rintro e w' ⟨rfl, rfl⟩))
          | (go_at_call 22; refine (same_calls _ _ _ _ _ _ _ (RowAt.alloc HT.out _) (txt_one _ _) (by simp)).mono ?_; rintro e w7 ⟨rfl, nq, rfl⟩)
          | (go_at_call 23; ((with_reducible refine (held_calls J bl bh _ _ ((HR.out.grown (grown_alloc (grown_refl _ none) _)).drewN _)).mono ?_); rintro e w' ⟨rfl, rfl⟩; rw [HH.out]))
          | (go_at_call 25; ((with_reducible refine (lost_calls J bl bh _ _ ((HR.out.grown (grown_alloc (grown_refl _ none) _)).drewN _)).mono ?_); rintro e w' ⟨rfl, rfl⟩; rw [HL.out])))
        go_ret
        have hBf := HB1.out.trans (HBX.out.mono HB1.out.size)
        exact ⟨rfl, below_drewN (hBf.alloc hBf.size _) _⟩

end Go.Proofs.Ytcpehjdnmhkcpaa.LTwice
