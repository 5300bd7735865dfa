/- QueueDrains, the walk. -/
import Derived.Test.YtcahedlgmljhkaaLDrainsP
namespace Go.Proofs.Ytcahedlgmljhkaa.LDrains
open Go Go.RowKit Go.Maps Go.Proofs.Ytcahedlgmljhkaa.Mem Go.Proofs.Ytcahedlgmljhkaa.Plain Go.Proofs.Ytcahedlgmljhkaa.IMap Go.Proofs.Ytcahedlgmljhkaa.RowAt Go.Proofs.Ytcahedlgmljhkaa.QP Go.Proofs.Ytcahedlgmljhkaa.QG Go.Proofs.Ytcahedlgmljhkaa.QA Go.Proofs.Ytcahedlgmljhkaa.QH Go.Proofs.Ytcahedlgmljhkaa.LDrainsP
open Go.Proofs.Ytcahedlgmljhkaa.QK (awake_calls blk_same)

/-- What the argument holds lies below. -/
theorem text_at {w w0 w1 : World} {v : Value} {x : Addr} (hb0 : Below w.heap.size w w0) (hb1 : Below w0.heap.size w0 w1) (h : w.cell? x = some v) : w1.cell? x = some v := by
  have h1 := (hb0.cell (World.block_lt_of_cell? w _ h)).trans h
  exact (hb1.cell (World.block_lt_of_cell? w0 _ h1)).trans h1

set_option maxHeartbeats 4000000 in
set_option maxRecDepth 100000 in
theorem drains_walk (A0 : Option Addr) (len0 cap0 : Nat) (a1 a2 a3 : Int) (w : World) (hr : ∀ i, i < len0 → ∃ x t, A0 = some x ∧ w.cell? (x.add i) = some (.string t)) : Calls Try.prog 3 #[.slice A0 len0 cap0, .int .i64 a1, .int .i64 a2, .int .i64 a3] w fun e w' => e = .returned (.bool true) ∧ Below w.heap.size w w' := by
  have HR := Lib.hid hr
  clear hr
  obtain ⟨u, hu, hu32⟩ : ∃ u : Nat, bits .and .i64 a1 31 = (u : Int) ∧ u < 32 := by
    have h0 : 0 ≤ a1 % 32 := Int.emod_nonneg _ (by omega)
    have h1 : a1 % 32 < 32 := Int.emod_lt_of_pos _ (by omega)
    exact ⟨(a1 % 32).toNat, by rw [and31]; omega, by omega⟩
  obtain ⟨d, hd, hd01⟩ : ∃ d : Int, bits .and .i64 a2 1 = d ∧ (d = 0 ∨ d = 1) := ⟨_, rfl, by rw [and1]; omega⟩
  obtain ⟨m, hm, hm16⟩ : ∃ m : Nat, bits .and .i64 a3 15 = (m : Int) ∧ m < 16 := by
    have h0 : 0 ≤ a3 % 16 := Int.emod_nonneg _ (by omega)
    have h1 : a3 % 16 < 16 := Int.emod_lt_of_pos _ (by omega)
    exact ⟨(a3 % 16).toNat, by rw [and15]; omega, by omega⟩
  obtain ⟨z, hz⟩ : ∃ z, z = u + 8 := ⟨_, rfl⟩
  have hz1 : 1 ≤ z := by omega
  have hzI : 8 + (u : Int) = (z : Int) := by omega
  have P0 := Lib.hid (p1_new hz1 (by omega))
  have HDW : Hid ((Lit.int .i64 d).wf = true) := Lib.hid (wf_i64_iff.2 (by omega))
  have HOW : Hid ((Lit.int .i64 (1 - d)).wf = true) := Lib.hid (wf_i64_iff.2 (by omega))
  have hg0 := Lib.hid (new_good z false hz1 (by omega)).kn
  have hg1 := Lib.hid (add_good (new_good z false hz1 (by omega)) (x := 0) (by decide)).kn
  clear hz
  go_enter Try.func3, Try.ntmps3
  go_wp2_with fail
  refine (awake_calls _).mono ?_
  rintro e w0 ⟨rfl, hb0⟩
  have HB0 := Lib.hid hb0
  have hsz0 := hb0.size
  clear hb0
  go_wp2_with fail
  refine (new_at z false _ hz1 (by omega)).mono ?_
  rintro e w1 ⟨q, rfl, h1⟩
  have HX1 := Lib.hid h1
  clear h1
  go_wp2_with (first
    | (go_at_call 9; ((with_reducible refine (num_calls _ _).mono ?_); rintro e w' ⟨rfl, rfl⟩)))
  refine (add_at (x := 0) HX1.out hg0.out (by decide)).mono ?_
  rintro e w2 ⟨rfl, h2, _, _⟩
  have HX2 := Lib.hid h2
  clear h2
  go_wp2_with fail
  refine (add_at (x := 1) HX2.out hg1.out (by decide)).mono ?_
  rintro e w3 ⟨rfl, h3, _, _⟩
  have HX3 := Lib.hid h3
  clear h3
  go_wp2_with fail
  go_loopw [12] (fun i wr => ∃ (k : Nat) (s : QS), i = .int .i64 k ∧ k ≤ len0 ∧ k ≤ 8 ∧ P1 s k 0 ∧ At q w0.heap.size w0 wr s []) (fun i _ => 8 - (intOf i).toNat)
  case atStart => exact ⟨0, _, rfl, Nat.zero_le _, Nat.zero_le _, P0.out, HX3.out⟩
  case round =>
    obtain ⟨k, s, rfl, hk, hk8, hp, hX⟩ := hrel
    have HX := Lib.hid hX
    have HP := Lib.hid hp
    clear hX hp
    by_cases hlt : k < len0 ∧ k < 8
    · obtain ⟨hlt1, hlt2⟩ := hlt
      have hltI : (k : Int) < (len0 : Int) := by omega
      have hlt8 : (k : Int) < 8 := by omega
      obtain ⟨x, t, rfl, hc⟩ := HR.out k hlt1
      have hcell := text_at HB0.out HX.out.below hc
      clear hc
      go_wp2_with fail
      refine (sub_at HX.out HP.out.g t).mono ?_
      rintro e w4 ⟨rfl, h4, _, _⟩
      have HX4 := Lib.hid h4
      clear h4 hcell
      go_wp2_with fail
      refine ⟨⟨k + 1, _, by go_num, by omega, by omega, p1_sub HP.out t, HX4.out⟩, ?_⟩
      simp [intOf]
      omega
    · have HP8 := Lib.hid (HP.out.mono hk8)
      have hand : ((k : Int) < (len0 : Int) ∧ ¬ (k : Int) < 8) ∨ ¬ (k : Int) < (len0 : Int) := by omega
      clear hlt HP
      have hd0 : 0 ≤ d := by omega
      have hd1 : d ≤ 1 := by omega
      have HD := Lib.hid hd01
      clear hd01
      rcases hand with ⟨hltI, hlt8⟩ | hltI
      all_goals go_wp2_with fail
      all_goals
        go_loopw [13] (fun i wr => ∃ (t : Nat) (s : QS), i = .int .i64 t ∧ t ≤ m ∧ P1 s 8 t ∧ At q w0.heap.size w0 wr s []) (fun i _ => m - (intOf i).toNat)
        case atStart => exact ⟨0, _, rfl, Nat.zero_le _, HP8.out, HX.out⟩
        case round =>
          obtain ⟨t, s, rfl, ht, hp, hX⟩ := hrel
          have HX := Lib.hid hX
          have HP := Lib.hid hp
          clear hX hp
          by_cases htm : t < m
          · have htmI : (t : Int) < (m : Int) := by omega
            obtain ⟨x, hx, hx01⟩ : ∃ x : Int, bits .and .i64 (t : Int) 1 = x ∧ (x = 0 ∨ x = 1) := ⟨_, rfl, by rw [and1]; omega⟩
            have HXW : Hid ((Lit.int .i64 x).wf = true) := Lib.hid (wf_i64_iff.2 (by omega))
            go_wp2_with fail
            refine (take_at (x := x) HX.out HP.out.g (by omega) HXW.out).mono ?_
            rintro e w4 ⟨rfl, h4, _, _⟩
            have HX4 := Lib.hid h4
            clear h4
            go_wp2_with fail
            refine ⟨⟨t + 1, _, by go_num, by omega, p1_take HP.out hx01, HX4.out⟩, ?_⟩
            simp [intOf]
            omega
          · obtain rfl : t = m := by omega
            have htt : ¬ (t : Int) < (t : Int) := by omega
            obtain ⟨L, hL⟩ : ∃ L, (s.waits d).length = L := ⟨_, rfl⟩
            have hmany := many0 HP.out HD.out
            rw [hL] at hmany
            have HM := Lib.hid hmany
            have hdn := drain0 HP.out HD.out
            have HN := Lib.hid hdn
            have hp2 := p2_drain HP.out HD.out
            rw [hL] at hp2
            have HP2 := Lib.hid hp2
            clear hmany hdn hp2 hL
            go_wp2_with fail
            refine (waits_at (x := d) HX.out HDW.out).mono ?_
            rintro e w' ⟨rfl, rfl⟩
            rw [HM.out]
            go_wp2_with fail
            refine (drain_at (x := d) HX.out HDW.out).mono ?_
            rintro e w4 ⟨rfl, h4, _, _⟩
            rw [HN.out]
            have HX4 := Lib.hid h4
            clear h4
            go_wp2_with fail
            refine (drop_at (x := d) HX4.out HDW.out).mono ?_
            rintro e w5 ⟨rfl, h5, _, _⟩
            by_cases hL0 : L = 0
            · subst hL0
              obtain ⟨d1, d2⟩ := drop_yes HP2.out HD.out
              rw [d1]
              have HT := Lib.hid d2
              have HX5 := Lib.hid h5
              have HG5 := Lib.hid (drop_good (x := d) HP2.out.g)
              clear h5 d1 d2
              go_wp2_with (first
                | (go_at_call 9; ((with_reducible refine (num_calls _ _).mono ?_); rintro e w' ⟨rfl, rfl⟩)))
              refine (take_at (x := d) HX5.out HG5.out (by omega) HDW.out).mono ?_
              rintro e w6 ⟨rfl, h6, _, _⟩
              rw [HT.out]
              have HX6 := Lib.hid h6
              unfold Fr.val
              clear h6
              go_wp2_with (first
                | (go_at_call 9; ((with_reducible refine (num_calls _ _).mono ?_); rintro e w' ⟨rfl, rfl⟩)))
              go_ret
              exact ⟨rfl, HB0.out.trans ((HX6.out.alloc _).below.mono hsz0)⟩
            · obtain ⟨d1, d2⟩ := drop_no HP2.out HD.out (by omega)
              rw [d1]
              rw [d2] at h5
              have HX5 := Lib.hid h5
              have hLI : ((L : Int) == 0) = false := by simp; omega
              have HP2' := Lib.hid (HP2.out.mono (m := 16) (by omega))
              clear h5 d1 d2
              go_wp2_with (first
                | (go_at_call 9; ((with_reducible refine (num_calls _ _).mono ?_); rintro e w' ⟨rfl, rfl⟩)))
              go_loopw [14, 19] (fun iL i wr => ∃ (L j : Nat) (s : QS), iL = .int .i64 L ∧ i = .int .i64 j ∧ j ≤ 1000 ∧ P2 s d L j (16 + 2 * j) ∧ At q w0.heap.size w0 wr s []) (fun _ i _ => 1000 - (intOf i).toNat)
              case atStart => exact ⟨L, 0, _, rfl, rfl, Nat.zero_le _, HP2'.out, HX5.out⟩
              case round =>
                clear HX5 hLI HP2' HP2 HX4 HN HM
                obtain ⟨L, j, s, rfl, rfl, hj, hp, hX⟩ := hrel
                have HX := Lib.hid hX
                have HP := Lib.hid hp
                clear hX hp
                by_cases hlt : j < 1000
                · have hltJ : (j : Int) < 1000 := by omega
                  have HG := Lib.hid HP.out.g
                  have HP3 := Lib.hid (p3_take HP.out HD.out)
                  have hmany := many_d3 HP3.out HD.out
                  have HM := Lib.hid hmany
                  have HL : Hid (L ≤ 256) := Lib.hid (by have := HP.out.few; omega)
                  obtain ⟨r, hr⟩ : ∃ r, j % 3 = r := ⟨_, rfl⟩
                  have e1 : ((j : Int)).tmod 3 = (r : Int) := by rw [Int.tmod_eq_emod_of_nonneg (by omega), ← hr]; rfl
                  have e2 : (j : Int) % 3 = (r : Int) := by rw [← hr]; rfl
                  clear hmany
                  by_cases hc : r = 0 ∧ 0 < L
                  · obtain ⟨hr0, hL⟩ := hc
                    subst hr0
                    obtain ⟨L, rfl⟩ : ∃ L', L = L' + 1 := ⟨L - 1, by omega⟩
                    have hLI : (0 : Int) < ((L + 1 : Nat) : Int) := by omega
                    have hL1 : ((L + 1 : Nat) : Int) - 1 = (L : Int) := by omega
                    have hL2 := HL.out
                    obtain ⟨k1, k2⟩ := p2_turn HP3.out HD.out hr
                    have HK := Lib.hid k1
                    have HP4 := Lib.hid (k2.mono (m := 16 + 2 * (j + 1)) (by omega))
                    clear k1 k2 hr
                    go_wp2_with fail
                    refine (take_at (x := 1 - d) HX.out HG.out (by omega) HOW.out).mono ?_
                    rintro e w4 ⟨rfl, h4, _, _⟩
                    have HX4 := Lib.hid h4
                    clear h4
                    go_wp2_with fail
                    refine (waits_at (x := d) HX4.out HDW.out).mono ?_
                    rintro e w' ⟨rfl, rfl⟩
                    rw [HM.out]
                    go_wp2_with fail
                    refine (take_at (x := d) HX4.out HP3.out.g (by omega) HDW.out).mono ?_
                    rintro e w5 ⟨rfl, h5, _, _⟩
                    rw [HK.out]
                    have HX5 := Lib.hid h5
                    unfold Fr.val
                    clear h5
                    go_wp2_with (first
                      | (go_at_call 9; ((with_reducible refine (num_calls _ _).mono ?_); rintro e w' ⟨rfl, rfl⟩)))
                    refine ⟨⟨L, j + 1, _, by go_num, by go_num, by omega, HP4.out, (HX5.out.alloc _).sub (by simp)⟩, ?_⟩
                    simp [intOf]
                    omega
                  · have HP4 := Lib.hid ((p2_skip HP3.out (by rw [hr]; exact hc)).mono (m := 16 + 2 * (j + 1)) (by omega))
                    by_cases hr0 : r = 0
                    · subst hr0
                      obtain rfl : L = 0 := by omega
                      clear hr
                      go_wp2_with fail
                      refine (take_at (x := 1 - d) HX.out HG.out (by omega) HOW.out).mono ?_
                      rintro e w4 ⟨rfl, h4, _, _⟩
                      have HX4 := Lib.hid h4
                      clear h4
                      go_wp2_with fail
                      refine (waits_at (x := d) HX4.out HDW.out).mono ?_
                      rintro e w' ⟨rfl, rfl⟩
                      rw [HM.out]
                      go_wp2_with fail
                      refine ⟨⟨0, j + 1, _, by go_num, by go_num, by omega, HP4.out, HX4.out⟩, ?_⟩
                      simp [intOf]
                      omega
                    · have hrI : ((r : Int) == 0) = false := by simp; omega
                      clear hr
                      go_wp2_with fail
                      refine (take_at (x := 1 - d) HX.out HG.out (by omega) HOW.out).mono ?_
                      rintro e w4 ⟨rfl, h4, _, _⟩
                      have HX4 := Lib.hid h4
                      clear h4
                      go_wp2_with fail
                      refine (waits_at (x := d) HX4.out HDW.out).mono ?_
                      rintro e w' ⟨rfl, rfl⟩
                      rw [HM.out]
                      go_wp2_with fail
                      refine ⟨⟨L, j + 1, _, by go_num, by go_num, by omega, HP4.out, HX4.out⟩, ?_⟩
                      simp [intOf]
                      omega
                · obtain rfl : j = 1000 := by omega
                  have hjj : ¬ ((1000 : Nat) : Int) < 1000 := by omega
                  obtain ⟨k1, k2, k3, k4⟩ := p2_end HP.out HD.out
                  have HK1 := Lib.hid k1
                  have HK2 := Lib.hid k2
                  have HK3 := Lib.hid k3
                  have HK4 := Lib.hid k4
                  have HG := Lib.hid HP.out.g
                  clear k1 k2 k3 k4
                  go_wp2_with fail
                  refine (take_at (x := d) HX.out HG.out (by omega) HDW.out).mono ?_
                  rintro e w4 ⟨rfl, h4, _, _⟩
                  rw [HK1.out]
                  rw [HK2.out] at h4
                  have HX4 := Lib.hid h4
                  unfold Fr.val
                  clear h4
                  go_wp2_with fail
                  refine (drop_at (x := d) (HX4.out.alloc _) HDW.out).mono ?_
                  rintro e w5 ⟨rfl, h5, _, _⟩
                  rw [HK3.out]
                  have HX5 := Lib.hid h5
                  clear h5
                  go_wp2_with (first
                    | (go_at_call 9; ((with_reducible refine (num_calls _ _).mono ?_); rintro e w' ⟨rfl, rfl⟩))
                    | (go_at_call 16; refine (len_at HX5.out (by rw [HK4.out]; omega)).mono ?_; rintro e w' ⟨rfl, nq, rfl⟩; rw [HK4.out]))
                  go_ret
                  exact ⟨rfl, HB0.out.trans ((HX5.out.drewN _).below.mono hsz0)⟩

end Go.Proofs.Ytcahedlgmljhkaa.LDrains
