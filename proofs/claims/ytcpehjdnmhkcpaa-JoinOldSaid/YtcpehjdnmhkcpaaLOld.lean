/- JoinOld, the walk. -/
import Derived.Test.YtcpehjdnmhkcpaaLOldP
import Derived.Test.YtcpehjdnmhkcpaaLGapP
namespace Go.Proofs.Ytcpehjdnmhkcpaa.LOld
open Go Go.RowKit Go.Maps Go.Proofs.Ytcpehjdnmhkcpaa.Mem Go.Proofs.Ytcpehjdnmhkcpaa.Plain Go.Proofs.Ytcpehjdnmhkcpaa.Ring Go.Proofs.Ytcpehjdnmhkcpaa.IMap Go.Proofs.Ytcpehjdnmhkcpaa.JoinP Go.Proofs.Ytcpehjdnmhkcpaa.JoinA Go.Proofs.Ytcpehjdnmhkcpaa.Mv Go.Proofs.Ytcpehjdnmhkcpaa.RowAt Go.Proofs.Ytcpehjdnmhkcpaa.JoinE Go.Proofs.Ytcpehjdnmhkcpaa.JoinR Go.Proofs.Ytcpehjdnmhkcpaa.JoinF Go.Proofs.Ytcpehjdnmhkcpaa.JoinG Go.Proofs.Ytcpehjdnmhkcpaa.JoinH Go.Proofs.Ytcpehjdnmhkcpaa.JoinI Go.Proofs.Ytcpehjdnmhkcpaa.JoinK Go.Proofs.Ytcpehjdnmhkcpaa.LOldP
open Go.Proofs.Ytcpehjdnmhkcpaa.LGapP (whole_calls)

set_option maxHeartbeats 2000000 in
set_option maxRecDepth 100000 in
theorem old_walk (a0 a1 : Int) (w : World) : Calls Try.prog 7 #[.int .i64 a0, .int .i64 a1] w fun e w' => e = .returned (.bool true) ∧ Below w.heap.size w w' := by
  obtain ⟨r, hr, hr32⟩ : ∃ r : Nat, bits .and .i64 a0 31 = (r : Int) ∧ r < 32 := by
    have h0 : 0 ≤ a0 % 32 := Int.emod_nonneg _ (by omega)
    have h1 : a0 % 32 < 32 := Int.emod_lt_of_pos _ (by omega)
    exact ⟨(a0 % 32).toNat, by rw [and31]; omega, by omega⟩
  obtain ⟨a, ha, har⟩ : ∃ a : Nat, wrap64 ((IntKind.u64.wrap a1).tmod (1 + (r : Int))) = (a : Int) ∧ a ≤ r := by
    rw [u64_wrap]
    have h0 : 0 ≤ a1 % 18446744073709551616 := Int.emod_nonneg _ (by omega)
    rw [Int.tmod_eq_emod_of_nonneg h0]
    generalize a1 % 18446744073709551616 = X at *
    have h1 : 0 ≤ X % (1 + (r : Int)) := Int.emod_nonneg _ (by omega)
    have h2 : X % (1 + (r : Int)) < 1 + (r : Int) := Int.emod_lt_of_pos _ (by omega)
    generalize X % (1 + (r : Int)) = Y at *
    refine ⟨Y.toNat, ?_, by omega⟩
    rw [wrap_i64 (by omega) (by omega)]
    omega
  have hu : IntKind.u64.wrap (1 + (r : Int)) = 1 + (r : Int) := by rw [u64_wrap]; omega
  have hz : ((1 + (r : Int)) == 0) = false := by simp; omega
  go_enter Try.func7, Try.ntmps7
  go_wp2_with fail
  refine (awake_calls _).mono ?_
  rintro e w0 ⟨rfl, hb0⟩
  go_wp2_with fail
  refine (new_calls true 64 _ (by omega)).mono ?_
  rintro e w1 ⟨J, bl, bh, rfl, hr1, hb1, hJ, hl, hh⟩
  have HR1 := Lib.hid hr1
  have G0 := new_good true 64 (by omega)
  clear hr1
  go_wp2_with fail
  refine (add_calls J bl bh _ 0 _ HR1.out G0.fit (by decide)).mono ?_
  rintro e w2 ⟨rfl, hr2, hm2⟩
  have HR2 : Hid (JRep w2 J bl bh (st 0)) := Lib.hid hr2
  have hB2 : Below w.heap.size w w2 := by
    have h1 : Below w.heap.size w w1 := hb0.trans (hb1.mono hb0.size)
    exact h1.trans (hm2.to_below h1.size (Nat.le_trans hb0.size hJ) (Nat.le_trans hb0.size hl) (Nat.le_trans hb0.size hh))
  have hJ2 := HR2.out.blk.lt
  have hl2 := HR2.out.links.lt
  have hh2 := HR2.out.held.lt
  clear hr2 G0
  go_wp2_with fail
  go_loopw [8] (fun i wr => ∃ k : Nat, i = .int .i64 k ∧ k ≤ r + 1 ∧ JRep wr J bl bh (st k) ∧ Mv J bl bh w2 wr) (fun i _ => r + 1 - (intOf i).toNat)
  case atStart => exact ⟨0, rfl, Nat.zero_le _, HR2.out, Mv.refl _ _ _ _⟩
  case round =>
    obtain ⟨k, rfl, hk, hR, hM⟩ := hrel
    have HR := Lib.hid hR
    have HM := Lib.hid hM
    clear hR hM
    by_cases hlt : k < r + 1
    · have hlt' : (k : Int) < 1 + (r : Int) := by omega
      obtain ⟨hn, ho1⟩ := st_put k (by omega)
      have hput : JS.put (st k) 0 (fx k) = ((JS.put (st k) 0 (fx k)).1, st (k + 1)) := rfl
      obtain ⟨o, ho⟩ : ∃ o, (JS.put (st k) 0 (fx k)).1 = o := ⟨_, rfl⟩
      rw [ho] at hput ho1
      have HPUT := Lib.hid hput
      have HN := Lib.hid hn
      have HO1 := Lib.hid ho1
      have HG := Lib.hid (st_good k (by omega))
      clear hn ho ho1 hput
      go_wp2_with (first
        | (go_at_call 27; ((with_reducible refine (whole_calls k (by omega) _ _).mono ?_); rintro e w4 ⟨rfl, hb4⟩; have hR4 := HR.out.below hb4)))
      refine (put_step (f := ⟨true, true, k, ⟨#[120]⟩⟩) hR4 HG.out (by omega) (by decide) HN.out HPUT.out).mono ?_
      rintro e w6 ⟨A6, k6, rfl, ht6, hr6, hm6⟩
      rw [HO1.out]
      have HM6 := Lib.hid (((Mv.refl J bl bh wr).below hb4).trans hm6)
      have HR6 := Lib.hid hr6
      clear ht6 hm6 hr6 hb4 hR4
      go_wp2_with (first
        | (go_at_call 14; ((with_reducible refine (num_calls _ _).mono ?_); rintro e w' ⟨rfl, rfl⟩)))
      go_roundw
      case rel => exact ⟨k + 1, by go_num, by omega, HR6.out, HM.out.trans HM6.out⟩
      case measure => simp [intOf]; omega
    · obtain rfl : k = r + 1 := by omega
      have hge : ¬ ((r + 1 : Nat) : Int) < 1 + (r : Int) := by omega
      obtain ⟨⟨hn1, hp1⟩, hn4, hp4, hl4⟩ := end_all r a hr32 har
      have HN1 := Lib.hid hn1
      have HP1 := Lib.hid hp1
      have hk1 : 1 + (r : Int) = ((r + 1 : Nat) : Int) := by omega
      unfold fc at hn4 hp4
      rw [← hk1] at hn4 hp4
      have HK := Lib.hid hk1
      clear hk1
      have HN4 := Lib.hid hn4
      have HP4 := Lib.hid hp4
      have HL4 := Lib.hid hl4
      have HG0 := Lib.hid (st_good (r + 1) (by omega))
      have HG1 := Lib.hid (g1 (r + 1) a (by omega))
      have HG2 := Lib.hid (g2 (r + 1) a (by omega))
      have HG3 := Lib.hid (g3 (r + 1) a (by omega))
      clear hn1 hp1 hn4 hp4 hl4
      go_wp2_with (first
        | (go_at_call 27; ((with_reducible refine (whole_calls a (by omega) _ _).mono ?_); rintro e w4 ⟨rfl, hb4⟩; have hR4 := HR.out.below hb4)))
      refine (put_step (f := ⟨true, true, a, ⟨#[121]⟩⟩) hR4 HG0.out (by omega) (by decide) HN1.out HP1.out).mono ?_
      rintro e w5 ⟨A5, k5, rfl, ht5, hr5, hm5⟩
      have HR5 := Lib.hid hr5
      clear ht5 hr5 hR4
      go_wp2_with fail
      refine (put_calls J bl bh _ _ 0 ⟨true, false, 1 + (r : Int), ⟨#[97]⟩⟩ _ HR5.out HG1.out (by omega) (by decide)).mono ?_
      rintro e w6 ⟨v6, rfl, ht6, hr6, hm6⟩
      rw [HK.out] at hr6
      have HR6 : Hid (JRep w6 J bl bh (s2 (r + 1) a)) := Lib.hid hr6
      clear ht6 hr6
      go_wp2_with fail
      refine (put_calls J bl bh _ _ 0 ⟨true, false, 1 + (r : Int), ⟨#[98]⟩⟩ _ HR6.out HG2.out (by omega) (by decide)).mono ?_
      rintro e w7 ⟨v7, rfl, ht7, hr7, hm7⟩
      rw [HK.out] at hr7
      have HR7 : Hid (JRep w7 J bl bh (s3 (r + 1) a)) := Lib.hid hr7
      clear ht7 hr7
      go_wp2_with fail
      refine (put_step (f := ⟨false, true, 1 + (r : Int) + 1, ⟨#[99]⟩⟩) HR7.out HG3.out (by omega) (by decide) HN4.out HP4.out).mono ?_
      rintro e w8 ⟨A8, k8, rfl, ht8, hr8, hm8⟩
      have HR8 := Lib.hid hr8
      have HT8 : Hid (Txt w8 w7.heap.size (.slice A8 1 k8) [⟨#[97, 99]⟩]) := Lib.hid ht8
      clear ht8 hr8
      have hB8 : Below w.heap.size w w8 := hB2.trans (((((((HM.out.below hb4).trans hm5).trans hm6).trans hm7).trans hm8)).to_below hB2.size (Nat.le_trans hb0.size hJ) (Nat.le_trans hb0.size hl) (Nat.le_trans hb0.size hh))
      go_wp2_with (first
        | (go_at_call 14; ((with_reducible refine (num_calls _ _).mono ?_); rintro e w' ⟨rfl, rfl⟩))
        | (go_at_call 22; refine (same_calls _ _ _ _ _ _ _ (RowAt.alloc HT8.out _) (txt_one _ _) (by decide)).mono ?_; rintro e w9 ⟨rfl, nq, rfl⟩)
        | (go_at_call 25; ((with_reducible refine (lost_calls J bl bh _ _ HR8.out).mono ?_); rintro e w' ⟨rfl, rfl⟩; rw [HL4.out])))
      go_ret
      exact ⟨rfl, below_drewN (hB8.alloc hB8.size _) _⟩

end Go.Proofs.Ytcpehjdnmhkcpaa.LOld
