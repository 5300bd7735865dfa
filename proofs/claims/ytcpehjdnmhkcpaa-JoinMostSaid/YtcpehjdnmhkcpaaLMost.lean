/- JoinMost, the walk. -/
import Derived.Test.YtcpehjdnmhkcpaaLMostP
namespace Go.Proofs.Ytcpehjdnmhkcpaa.LMost
open Go Go.RowKit Go.Maps Go.Proofs.Ytcpehjdnmhkcpaa.Mem Go.Proofs.Ytcpehjdnmhkcpaa.Plain Go.Proofs.Ytcpehjdnmhkcpaa.Ring Go.Proofs.Ytcpehjdnmhkcpaa.IMap Go.Proofs.Ytcpehjdnmhkcpaa.JoinP Go.Proofs.Ytcpehjdnmhkcpaa.JoinA Go.Proofs.Ytcpehjdnmhkcpaa.JoinB Go.Proofs.Ytcpehjdnmhkcpaa.JoinC Go.Proofs.Ytcpehjdnmhkcpaa.Mv Go.Proofs.Ytcpehjdnmhkcpaa.RowAt Go.Proofs.Ytcpehjdnmhkcpaa.JoinQ Go.Proofs.Ytcpehjdnmhkcpaa.JoinD Go.Proofs.Ytcpehjdnmhkcpaa.JoinE Go.Proofs.Ytcpehjdnmhkcpaa.JoinR Go.Proofs.Ytcpehjdnmhkcpaa.JoinF Go.Proofs.Ytcpehjdnmhkcpaa.JoinG Go.Proofs.Ytcpehjdnmhkcpaa.JoinH Go.Proofs.Ytcpehjdnmhkcpaa.JoinI Go.Proofs.Ytcpehjdnmhkcpaa.JoinK Go.Proofs.Ytcpehjdnmhkcpaa.LMostP

set_option maxHeartbeats 2000000 in
set_option maxRecDepth 100000 in
theorem most_walk (a0 a1 : Int) (w : World) : Calls Try.prog 10 #[.int .i64 a0, .int .i64 a1] w fun e w' => e = .returned (.bool true) ∧ Below w.heap.size w w' := by
  obtain ⟨r, hr, hr16⟩ : ∃ r : Nat, bits .and .i64 a0 15 = (r : Int) ∧ r < 16 := by
    have h0 : 0 ≤ a0 % 16 := Int.emod_nonneg _ (by omega)
    have h1 : a0 % 16 < 16 := Int.emod_lt_of_pos _ (by omega)
    exact ⟨(a0 % 16).toNat, by rw [and15]; omega, by omega⟩
  obtain ⟨K, hK, hK63⟩ : ∃ K : Nat, bits .and .i64 a1 63 = (K : Int) ∧ K ≤ 63 := by
    have h0 : 0 ≤ a1 % 64 := Int.emod_nonneg _ (by omega)
    have h1 : a1 % 64 < 64 := Int.emod_lt_of_pos _ (by omega)
    exact ⟨(a1 % 64).toNat, by rw [and63]; omega, by omega⟩
  go_enter Try.func10, Try.ntmps10
  go_wp2_with fail
  refine (awake_calls _).mono ?_
  rintro e w0 ⟨rfl, hb0⟩
  go_wp2_with fail
  refine (new_calls false (1 + (r : Int)) _ (by omega)).mono ?_
  rintro e w1 ⟨J, bl, bh, rfl, hr1, hb1, hJ, hl, hh⟩
  have HR1 := Lib.hid hr1
  have G0 := (new_good false (1 + (r : Int)) (by omega))
  have G1 := add_good G0 (x := 0) (by decide)
  clear hr1
  go_wp2_with fail
  refine (add_calls J bl bh _ 0 _ HR1.out G0.fit (by decide)).mono ?_
  rintro e w2 ⟨rfl, hr2, hm2⟩
  have HR2 := Lib.hid hr2
  clear hr2
  go_wp2_with fail
  refine (add_calls J bl bh _ 1 _ HR2.out G1.fit (by decide)).mono ?_
  rintro e w3 ⟨rfl, hr3, hm3⟩
  have HR3 : Hid (JRep w3 J bl bh (st (1 + (r : Int)) 0)) := Lib.hid hr3
  have hB3 : Below w.heap.size w w3 := by
    have h1 : Below w.heap.size w w1 := hb0.trans (hb1.mono hb0.size)
    have h2 := h1.trans (hm2.to_below h1.size (Nat.le_trans hb0.size hJ) (Nat.le_trans hb0.size hl) (Nat.le_trans hb0.size hh))
    exact h2.trans (hm3.to_below h2.size (Nat.le_trans hb0.size hJ) (Nat.le_trans hb0.size hl) (Nat.le_trans hb0.size hh))
  clear hr3 G0 G1
  go_wp2_with fail
  go_loopw [9] (fun i wr => ∃ k : Nat, i = .int .i64 k ∧ k ≤ K ∧ JRep wr J bl bh (st (1 + (r : Int)) k) ∧ Mv J bl bh w3 wr) (fun i _ => K - (intOf i).toNat)
  case atStart => exact ⟨0, rfl, Nat.zero_le _, HR3.out, Mv.refl _ _ _ _⟩
  case round =>
    obtain ⟨k, rfl, hk, hR, hM⟩ := hrel
    have HR := Lib.hid hR
    clear hR
    by_cases hlt : k < K
    · obtain ⟨hn, ho⟩ := st_put r hr16 k (by omega)
      have hh1 := (st_held r hr16 (k + 1) (by omega)).1
      have HG := Lib.hid (st_good (1 + (r : Int)) (by omega) k (by omega))
      have HN := Lib.hid hn
      have HO := Lib.hid ho
      have HH := Lib.hid hh1
      have hle : ((st (1 + (r : Int)) (k + 1)).held.length : Int) ≤ 1 + (r : Int) := by omega
      clear hn ho hh1
      go_wp2_with fail
      refine (put_step (f := ⟨false, true, 2 + 2 * (k : Int), ⟨#[101]⟩⟩) HR.out HG.out (by omega) (by decide) HN.out HO.out).mono ?_
      rintro e w4 ⟨A4, k4, rfl, ht4, hr4, hm4⟩
      have HR4 := Lib.hid hr4
      clear hr4 ht4
      go_wp2_with (first
        | (go_at_call 14; ((with_reducible refine (num_calls _ _).mono ?_); rintro e w' ⟨rfl, rfl⟩))
        | (go_at_call 23; ((with_reducible refine (held_calls J bl bh _ _ HR4.out).mono ?_); rintro e w' ⟨rfl, rfl⟩)))
      go_roundw
      case rel => exact ⟨k + 1, by go_num, by omega, HR4.out, hM.trans hm4⟩
      case measure => simp [intOf]; omega
    · obtain rfl : k = K := by omega
      obtain ⟨hh1, hl1⟩ := st_held r hr16 k hK63
      have HH := Lib.hid hh1
      have HL := Lib.hid hl1
      clear hh1 hl1
      have hBf : Below w.heap.size w wr := hB3.trans (hM.to_below hB3.size (Nat.le_trans hb0.size hJ) (Nat.le_trans hb0.size hl) (Nat.le_trans hb0.size hh))
      by_cases hc : (1 : Int) + (r : Int) < (k : Int)
      · have e1 : ((min k (r + 1) : Nat) : Int) = 1 + (r : Int) := by omega
        have e2 : ((k - (r + 1) : Nat) : Int) = (k : Int) - (1 + (r : Int)) := by omega
        have E1 := Lib.hid e1
        have E2 := Lib.hid e2
        have hc2 : (0 : Int) < (k : Int) - (1 + (r : Int)) := by omega
        clear e1 e2
        go_wp2_with (first
          | (go_at_call 14; ((with_reducible refine (num_calls _ _).mono ?_); rintro e w' ⟨rfl, rfl⟩))
          | (go_at_call 23; ((with_reducible refine (held_calls J bl bh _ _ HR.out).mono ?_); rintro e w' ⟨rfl, rfl⟩; rw [HH.out, E1.out]))
          | (go_at_call 25; ((with_reducible refine (lost_calls J bl bh _ _ HR.out).mono ?_); rintro e w' ⟨rfl, rfl⟩; rw [HL.out, E2.out])))
        go_ret
        exact ⟨rfl, hBf⟩
      · have e1 : ((min k (r + 1) : Nat) : Int) = (k : Int) := by omega
        have e2 : ((k - (r + 1) : Nat) : Int) = 0 := by omega
        have E1 := Lib.hid e1
        have E2 := Lib.hid e2
        have hcf : ((1 : Int) + (r : Int) < (k : Int)) = False := eq_false hc
        have hc2 : ((0 : Int) < (k : Int) - (1 + (r : Int))) = False := eq_false (by omega)
        clear e1 e2
        go_wp2_with (first
          | (go_at_call 14; ((with_reducible refine (num_calls _ _).mono ?_); rintro e w' ⟨rfl, rfl⟩))
          | (go_at_call 23; ((with_reducible refine (held_calls J bl bh _ _ HR.out).mono ?_); rintro e w' ⟨rfl, rfl⟩; rw [HH.out, E1.out]))
          | (go_at_call 25; ((with_reducible refine (lost_calls J bl bh _ _ HR.out).mono ?_); rintro e w' ⟨rfl, rfl⟩; rw [HL.out, E2.out])))
        go_ret
        exact ⟨rfl, hBf⟩

end Go.Proofs.Ytcpehjdnmhkcpaa.LMost
