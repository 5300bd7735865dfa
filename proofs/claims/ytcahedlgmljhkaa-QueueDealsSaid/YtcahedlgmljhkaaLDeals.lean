/- QueueDeals, the walk. -/
import Derived.Test.YtcahedlgmljhkaaLDealsP
import Derived.Test.YtcahedlgmljhkaaLLinks
namespace Go.Proofs.Ytcahedlgmljhkaa.LDeals
open Go Go.RowKit Go.Maps Go.Proofs.Ytcahedlgmljhkaa.Mem Go.Proofs.Ytcahedlgmljhkaa.Plain Go.Proofs.Ytcahedlgmljhkaa.IMap Go.Proofs.Ytcahedlgmljhkaa.RowAt Go.Proofs.Ytcahedlgmljhkaa.QP Go.Proofs.Ytcahedlgmljhkaa.QG Go.Proofs.Ytcahedlgmljhkaa.QA Go.Proofs.Ytcahedlgmljhkaa.QH Go.Proofs.Ytcahedlgmljhkaa.LDealsP
open Go.Proofs.Ytcahedlgmljhkaa.QK (awake_calls blk_same)
open Go.Proofs.Ytcahedlgmljhkaa.LLinks (row_blk)

theorem info5 : (Try.prog.info? 5).map (fun i => (i.zero, i.size, i.bytes)) = some (some (.int .u8 0), 1, 1) := by kernel_rfl
def zeros (m : Nat) : Array Value := ((List.range m).map fun _ => Value.int .u8 0).toArray
theorem zeros_made (m : Nat) : (madeCells (Value.int .u8 0).cells (m * 1)).toList.toArray = zeros m := by
  refine Array.ext_getElem? fun i => ?_
  unfold zeros
  simp [madeCells, Value.cells]
  congr 1
  funext x
  rw [Nat.mod_one]
  rfl
theorem conv_zeros {W : World} {g m : Nat} (h : Blk W g (zeros m) 5) : Sem.run Try.prog (convert 39 9 (.slice (some ⟨g, 0, none⟩) m m)) W = .ok (.string (zb m)) W := by
  refine run_convert_bytes_arg W 39 5 Try.underlying39 Try.underlying5 g 0 m m (List.replicate m 0) (by simp) (fun i hi => ?_) 9 Try.underlying9
  have hi' : i < m := by simpa using hi
  have := h.cell i
  unfold zeros at this
  rw [List.getElem?_toArray, List.getElem?_map, List.getElem?_range hi'] at this
  rw [Nat.zero_add, this]
  simp [hi']

theorem pick (z : Int) (k : Nat) (h0 : 1 ≤ k) (h4 : k ≤ 4) : ∃ f : Nat, wrap64 ((IntKind.u64.wrap z).tmod (k : Int)) = (f : Int) ∧ f < k := by
  rw [u64_wrap]
  have h0 : 0 ≤ z % 18446744073709551616 := Int.emod_nonneg _ (by omega)
  rw [Int.tmod_eq_emod_of_nonneg h0]
  generalize z % 18446744073709551616 = X at *
  have h1 : 0 ≤ X % (k : Int) := Int.emod_nonneg _ (by omega)
  have h2 : X % (k : Int) < (k : Int) := Int.emod_lt_of_pos _ (by omega)
  generalize X % (k : Int) = Y at *
  refine ⟨Y.toNat, ?_, by omega⟩
  rw [wrap_i64 (by omega) (by omega)]
  omega

set_option maxHeartbeats 4000000 in
set_option maxRecDepth 100000 in
theorem deals_walk (a0 a1 a2 : Int) (w : World) : Calls Try.prog 4 #[.int .i64 a0, .int .i64 a1, .int .i64 a2] w fun e w' => e = .returned (.bool true) ∧ Below w.heap.size w w' := by
  obtain ⟨r, hr, hr4⟩ : ∃ r : Nat, bits .and .i64 a1 3 = (r : Int) ∧ r < 4 := by
    have h0 : 0 ≤ a1 % 4 := Int.emod_nonneg _ (by omega)
    have h1 : a1 % 4 < 4 := Int.emod_lt_of_pos _ (by omega)
    exact ⟨(a1 % 4).toNat, by rw [and3]; omega, by omega⟩
  obtain ⟨u, hu, hu32⟩ : ∃ u : Nat, bits .and .i64 a0 31 = (u : Int) ∧ u < 32 := by
    have h0 : 0 ≤ a0 % 32 := Int.emod_nonneg _ (by omega)
    have h1 : a0 % 32 < 32 := Int.emod_lt_of_pos _ (by omega)
    exact ⟨(a0 % 32).toNat, by rw [and31]; omega, by omega⟩
  obtain ⟨k, hk⟩ : ∃ k, k = r + 1 := ⟨_, rfl⟩
  obtain ⟨m, hm⟩ : ∃ m, m = u + 1 := ⟨_, rfl⟩
  have hk1 : 1 ≤ k := by omega
  have hk4 : k ≤ 4 := by omega
  have hm1 : 1 ≤ m := by omega
  have hm32 : m ≤ 32 := by omega
  have hkI : 1 + (r : Int) = (k : Int) := by omega
  have hmI : 1 + (u : Int) = (m : Int) := by omega
  have hkw : IntKind.u64.wrap (k : Int) = (k : Int) := by rw [u64_wrap]; omega
  have hk0 : ((k : Int) == 0) = false := by simp; omega
  have hkz : ¬ (k : Int) = 0 := by omega
  obtain ⟨f, hf, hfk⟩ := pick a2 k hk1 hk4
  obtain ⟨f1, f2, f3, f4⟩ := facts hk1 hk4 hm1 hm32 hfk
  have F1 := Lib.hid f1
  have F2 := Lib.hid f2
  have F3 := Lib.hid f3
  have F4 := Lib.hid f4
  have HG := Lib.hid (adds_good hk4)
  have HGS := Lib.hid (subd_good hk4 m)
  clear hk hm f1 f2 f3 f4
  go_enter Try.func4, Try.ntmps4
  go_wp2_with fail
  refine (awake_calls _).mono ?_
  rintro e w0 ⟨rfl, hb0⟩
  have HB0 := Lib.hid hb0
  have hsz0 := hb0.size
  clear hb0
  go_wp2_with fail
  refine (new_at 1 true _ (by omega) (by omega)).mono ?_
  rintro e w1 ⟨q, rfl, h1⟩
  have HX1 : Hid (At q w0.heap.size w0 w1 (adds k 0) []) := Lib.hid h1
  clear h1
  go_wp2_with fail
  go_loopw [11] (fun i wr => ∃ t : Nat, i = .int .i64 ((k : Int) - 1 - t) ∧ t ≤ k ∧ At q w0.heap.size w0 wr (adds k t) []) (fun i _ => (intOf i + 1).toNat)
  case atStart => exact ⟨0, by simp, Nat.zero_le _, HX1.out⟩
  case round =>
    obtain ⟨t, rfl, ht, hX⟩ := hrel
    have HX := Lib.hid hX
    clear hX
    by_cases hlt : t < k
    · have h1I : (0 : Int) ≤ (k : Int) - 1 - t := by omega
      have hxw : (Lit.int .i64 (10 * ((k : Int) - 1 - t))).wf = true := wf_i64_iff.2 (by omega)
      have HXW := Lib.hid hxw
      have hkn := (HG.out t (by omega)).kn
      clear hxw
      go_wp2_with fail
      refine (add_at (x := 10 * ((k : Int) - 1 - t)) HX.out hkn HXW.out).mono ?_
      rintro e w2 ⟨rfl, h2, _, _⟩
      have HX2 : Hid (At q w0.heap.size w0 w2 (adds k (t + 1)) []) := Lib.hid h2
      clear h2
      go_wp2_with fail
      refine ⟨⟨t + 1, by congr 1; omega, by omega, HX2.out⟩, ?_⟩
      simp [intOf]
      omega
    · obtain rfl : t = k := by omega
      have h1I : ((0 : Int) ≤ (t : Int) - 1 - t) = False := eq_false (by omega)
      obtain ⟨i5, hi5, hz50, hz51, hz52⟩ := info_parts info5
      obtain ⟨wo, rfl⟩ : ∃ wo : World, wo = wr := ⟨_, rfl⟩
      have hxf : (Lit.int .i64 (10 * (f : Int))).wf = true := wf_i64_iff.2 (by omega)
      have HXF := Lib.hid hxf
      clear hxf
      go_wp2_with (first | (at_make; refine wpList_make_full _ rfl _ _ 39 rfl wo.heap.size 5 i5 (.int .u8 0) 1 Try.underlying39 hi5 hz50 hz51 _ _ _ _ m rfl rfl (by omega) (by omega) (by rw [hz52]; omega) (by unfold maxLen; omega) (Nat.le_refl _) ?_; intro w2 hrow2 hgr2; have hb2 := row_blk hrow2; rw [zeros_made] at hb2; have hcv := conv_zeros hb2; have HX2 := Lib.hid (HX.out.grown hgr2 (by simp)); clear hrow2 hgr2 hb2))
      refine (sub_at HX2.out (HG.out t (Nat.le_refl _)) (zb m)).mono ?_
      rintro e w3 ⟨rfl, h3, _, _⟩
      rw [F1.out]
      have HX3 : Hid (At q w0.heap.size w0 w3 (subd t m) []) := Lib.hid h3
      clear h3 hcv
      go_wp2_with fail
      refine (take_at (x := 10 * (f : Int)) HX3.out HGS.out (by omega) HXF.out).mono ?_
      rintro e w4 ⟨rfl, h4, _, _⟩
      rw [F2.out]
      have HX4 : Hid (At q w0.heap.size w0 w4 (took t m f) []) := Lib.hid h4
      unfold Fr.val
      clear h4
      go_wp2_with fail
      go_loopw [16] (fun i wr => ∃ j : Nat, i = .int .i64 j ∧ j ≤ t ∧ At q w0.heap.size w0 wr (took t m f) []) (fun i _ => t - (intOf i).toNat)
      case atStart => exact ⟨0, rfl, Nat.zero_le _, HX4.out.grown (row := none) (grown_alloc (grown_refl _ none) _) (by simp)⟩
      case round =>
        obtain ⟨j, rfl, hj, hXj⟩ := hrel
        have HXj := Lib.hid hXj
        clear hXj
        by_cases hjt : j < t
        · have hjI : (j : Int) < (t : Int) := by omega
          have hjw : (Lit.int .i64 (10 * (j : Int))).wf = true := wf_i64_iff.2 (by omega)
          have HJW := Lib.hid hjw
          have hmany := F3.out j hjt
          obtain ⟨pw, hpw⟩ : ∃ pw, (j + t - f) % t = pw := ⟨_, rfl⟩
          obtain ⟨qm, hqm⟩ : ∃ qm, m / t = qm := ⟨_, rfl⟩
          obtain ⟨rm, hrm⟩ : ∃ rm, m % t = rm := ⟨_, rfl⟩
          have e1 : ((j : Int) - (f : Int) + (t : Int)).tmod (t : Int) = (pw : Int) := by
            rw [Int.tmod_eq_emod_of_nonneg (by omega), ← hpw, Int.natCast_emod]
            congr 1
            omega
          have e2 : (m : Int).tdiv (t : Int) = (qm : Int) := by rw [Int.tdiv_eq_ediv_of_nonneg (by omega), ← hqm, Int.natCast_ediv]
          have e3 : (m : Int).tmod (t : Int) = (rm : Int) := by rw [Int.tmod_eq_emod_of_nonneg (by omega), ← hrm, Int.natCast_emod]
          have e4 : ((j : Int) - (f : Int) + (t : Int)) % (t : Int) = (pw : Int) := by rw [← e1, Int.tmod_eq_emod_of_nonneg (by omega)]
          have e5 : (m : Int) / (t : Int) = (qm : Int) := by rw [← e2, Int.tdiv_eq_ediv_of_nonneg (by omega)]
          have e6 : (m : Int) % (t : Int) = (rm : Int) := by rw [← e3, Int.tmod_eq_emod_of_nonneg (by omega)]
          have hqm32 : qm ≤ 32 := by rw [← hqm]; exact Nat.le_trans (Nat.div_le_self _ _) hm32
          have hpwt : pw < t := by rw [← hpw]; exact Nat.mod_lt _ (by omega)
          have hrmt : rm < t := by rw [← hrm]; exact Nat.mod_lt _ (by omega)
          have hdm : t * qm + rm = m := by rw [← hqm, ← hrm]; exact Nat.div_add_mod m t
          have hpf : j = f → pw = 0 := fun e => by rw [← hpw, e, show f + t - f = t from by omega, Nat.mod_self]
          have hq1 : j = f → ¬ pw < rm → 1 ≤ qm := fun e hn => by
            have h0 := hpf e
            rcases Nat.eq_zero_or_pos qm with h1 | h1
            · rw [h1] at hdm; omega
            · exact h1
          rw [hpw, hqm, hrm] at hmany
          clear hjw hpw hqm hrm hdm
          by_cases hlt2 : pw < rm
          · have hltI : (pw : Int) < (rm : Int) := by omega
            rw [if_pos hlt2] at hmany
            by_cases hjf : j = f
            · have hjfb : ((j : Int) == (f : Int)) = true := by simp [hjf]
              rw [if_pos hjf] at hmany
              have hM : (took t m f).many (10 * (j : Int)) = qm := by omega
              have HM := Lib.hid hM
              clear hmany hM hpf hq1 hjf
              go_wp2_with (first
                | (go_at_call 13; refine (waits_at (x := 10 * (j : Int)) HXj.out HJW.out).mono ?_; rintro e w' ⟨rfl, rfl⟩; rw [HM.out]))
              refine ⟨⟨j + 1, by go_num, by omega, HXj.out⟩, ?_⟩
              simp [intOf]
              omega
            · have hjfb : ((j : Int) == (f : Int)) = false := by simp; omega
              rw [if_neg hjf] at hmany
              have hM : (took t m f).many (10 * (j : Int)) = qm + 1 := by omega
              have HM := Lib.hid hM
              clear hmany hM hpf hq1 hjf
              go_wp2_with (first
                | (go_at_call 13; refine (waits_at (x := 10 * (j : Int)) HXj.out HJW.out).mono ?_; rintro e w' ⟨rfl, rfl⟩; rw [HM.out]))
              refine ⟨⟨j + 1, by go_num, by omega, HXj.out⟩, ?_⟩
              simp [intOf]
              omega
          · have hltI : ¬ (pw : Int) < (rm : Int) := by omega
            rw [if_neg hlt2] at hmany
            by_cases hjf : j = f
            · have hjfb : ((j : Int) == (f : Int)) = true := by simp [hjf]
              rw [if_pos hjf] at hmany
              obtain ⟨q', rfl⟩ : ∃ q', qm = q' + 1 := ⟨qm - 1, by have := hq1 hjf hlt2; omega⟩
              have hM : (took t m f).many (10 * (j : Int)) = q' := by omega
              have HM := Lib.hid hM
              clear hmany hM hpf hq1 hjf
              go_wp2_with (first
                | (go_at_call 13; refine (waits_at (x := 10 * (j : Int)) HXj.out HJW.out).mono ?_; rintro e w' ⟨rfl, rfl⟩; rw [HM.out]))
              refine ⟨⟨j + 1, by go_num, by omega, HXj.out⟩, ?_⟩
              simp [intOf]
              omega
            · have hjfb : ((j : Int) == (f : Int)) = false := by simp; omega
              rw [if_neg hjf] at hmany
              have hM : (took t m f).many (10 * (j : Int)) = qm := by omega
              have HM := Lib.hid hM
              clear hmany hM hpf hq1 hjf
              go_wp2_with (first
                | (go_at_call 13; refine (waits_at (x := 10 * (j : Int)) HXj.out HJW.out).mono ?_; rintro e w' ⟨rfl, rfl⟩; rw [HM.out]))
              refine ⟨⟨j + 1, by go_num, by omega, HXj.out⟩, ?_⟩
              simp [intOf]
              omega
        · obtain rfl : j = t := by omega
          have hjj : ¬ (j : Int) < (j : Int) := by omega
          by_cases hm2 : 1 < m
          · have hL : (took j m f).len = 1 := by rw [F4.out, if_pos hm2]
            have hm2I : (1 : Int) < (m : Int) := by omega
            have HL := Lib.hid hL
            clear hL
            go_wp2_with (first
              | (go_at_call 9; ((with_reducible refine (num_calls _ _).mono ?_); rintro e w' ⟨rfl, rfl⟩))
              | (go_at_call 16; refine (len_at HXj.out (by rw [HL.out]; omega)).mono ?_; rintro e w' ⟨rfl, nq, rfl⟩; rw [HL.out]))
            go_ret
            exact ⟨rfl, HB0.out.trans ((HXj.out.drewN _).below.mono hsz0)⟩
          · have hL : (took j m f).len = 0 := by rw [F4.out, if_neg hm2]
            have hm2I : ¬ (1 : Int) < (m : Int) := by omega
            have HL := Lib.hid hL
            clear hL
            go_wp2_with (first
              | (go_at_call 9; ((with_reducible refine (num_calls _ _).mono ?_); rintro e w' ⟨rfl, rfl⟩))
              | (go_at_call 16; refine (len_at HXj.out (by rw [HL.out]; omega)).mono ?_; rintro e w' ⟨rfl, nq, rfl⟩; rw [HL.out]))
            go_ret
            refine ⟨?_, HB0.out.trans ((HXj.out.drewN _).below.mono hsz0)⟩
            show Ending.returned (Value.bool (!decide ((1 : Int) < (m : Int)))) = _
            rw [decide_eq_false (by omega)]
            rfl

end Go.Proofs.Ytcahedlgmljhkaa.LDeals
