/- QueueFull, the walk. -/
import Derived.Test.YtcahedlgmljhkaaLFullP
namespace Go.Proofs.Ytcahedlgmljhkaa.LFull
open Go Go.RowKit Go.Maps Go.Proofs.Ytcahedlgmljhkaa.Mem Go.Proofs.Ytcahedlgmljhkaa.Plain Go.Proofs.Ytcahedlgmljhkaa.IMap Go.Proofs.Ytcahedlgmljhkaa.RowAt Go.Proofs.Ytcahedlgmljhkaa.QP Go.Proofs.Ytcahedlgmljhkaa.QG Go.Proofs.Ytcahedlgmljhkaa.QA Go.Proofs.Ytcahedlgmljhkaa.QH Go.Proofs.Ytcahedlgmljhkaa.LFullP
open Go.Proofs.Ytcahedlgmljhkaa.QK (awake_calls blk_same)

set_option maxHeartbeats 4000000 in
set_option maxRecDepth 100000 in
theorem full_walk (a0 : Int) (w : World) : Calls Try.prog 5 #[.int .i64 a0] w fun e w' => e = .returned (.bool true) ∧ Below w.heap.size w w' := by
  obtain ⟨r, hr, hr8⟩ : ∃ r : Nat, bits .and .i64 a0 7 = (r : Int) ∧ r < 8 := by
    have h0 : 0 ≤ a0 % 8 := Int.emod_nonneg _ (by omega)
    have h1 : a0 % 8 < 8 := Int.emod_lt_of_pos _ (by omega)
    exact ⟨(a0 % 8).toNat, by rw [and7]; omega, by omega⟩
  obtain ⟨z, hz⟩ : ∃ z, z = r + 1 := ⟨_, rfl⟩
  have hz1 : 1 ≤ z := by omega
  have hz8 : z ≤ 8 := by omega
  have hzI : 1 + (r : Int) = (z : Int) := by omega
  have HG := Lib.hid (fs_good hz1 hz8)
  have HGT := Lib.hid (ft_good hz1 hz8)
  have HS := Lib.hid (fun i hi => sub_ok (i := i) hz1 hz8 hi)
  have HF := Lib.hid (fun i hi => full_at (z := z) (i := i) hz1 hz8 hi)
  have HL := Lib.hid (last_at hz1 hz8)
  have hA8 : (⟨#[97, 98, 99, 100, 101, 102, 103, 104]⟩ : ByteArray) = A8 := rfl
  clear hz
  go_enter Try.func5, Try.ntmps5
  go_wp2_with fail
  refine (awake_calls _).mono ?_
  rintro e w0 ⟨rfl, hb0⟩
  have HB0 := Lib.hid hb0
  have hsz0 := hb0.size
  clear hb0
  go_wp2_with fail
  refine (new_at z false _ hz1 (by omega)).mono ?_
  rintro e w1 ⟨q, rfl, h1⟩
  have HX1 := Lib.hid h1
  clear h1
  go_wp2_with fail
  refine (add_at (x := 0) HX1.out (by show 0 ≤ 8; omega) (by decide)).mono ?_
  rintro e w2 ⟨rfl, h2, _, _⟩
  have HX2 : Hid (At q w0.heap.size w0 w2 (fs z 0) []) := Lib.hid h2
  clear h2
  go_wp2_with fail
  go_loopw [6] (fun i wr => ∃ k : Nat, i = .int .i64 k ∧ k ≤ 64 ∧ At q w0.heap.size w0 wr (fs z k) []) (fun i _ => 64 - (intOf i).toNat)
  case atStart => exact ⟨0, rfl, by omega, HX2.out⟩
  case round =>
    obtain ⟨k, rfl, hk, hX⟩ := hrel
    have HX := Lib.hid hX
    clear hX
    by_cases hlt : k < 64
    · have hltI : (k : Int) < 64 := by omega
      have hn := (HS.out k hlt).1
      have hl := (HS.out k hlt).2
      have HN := Lib.hid hn
      have HLN := Lib.hid hl
      clear hn hl
      go_wp2_with fail
      refine (sub_at HX.out (HG.out k) A8).mono ?_
      rintro e w3 ⟨rfl, h3, _, _⟩
      have HX3 : Hid (At q w0.heap.size w0 w3 (fs z (k + 1)) []) := Lib.hid h3
      rw [HN.out]
      clear h3
      go_wp2_with (first
        | (go_at_call 9; ((with_reducible refine (num_calls _ _).mono ?_); rintro e w' ⟨rfl, rfl⟩))
        | (go_at_call 16; refine (len_at HX3.out (by rw [HLN.out]; omega)).mono ?_; rintro e w' ⟨rfl, nq, rfl⟩; rw [HLN.out]))
      refine ⟨⟨k + 1, by go_num, by omega, HX3.out.drewN _⟩, ?_⟩
      simp [intOf]
      omega
    · obtain rfl : k = 64 := by omega
      obtain ⟨l1, l2, l3⟩ := HL.out
      have HL1 := Lib.hid l1
      have HL2 := Lib.hid l2
      have HL3 := Lib.hid l3
      obtain ⟨p, hp⟩ : ∃ p, (7 + z) / z = p := ⟨_, rfl⟩
      have hp8 : p ≤ 8 := by
        rw [← hp]
        exact Nat.le_of_lt_succ (Nat.div_lt_of_lt_mul (by omega))
      have hdv : (8 + (z : Int) - 1) / (z : Int) = (p : Int) := by
        rw [← hp, Int.natCast_ediv]
        congr 1
        omega
      have hdt : (8 + (z : Int) - 1).tdiv (z : Int) = (p : Int) := by rw [Int.tdiv_eq_ediv_of_nonneg (by omega)]; exact hdv
      have hz0 : ((z : Int) == 0) = false := by simp; omega
      have HPP := Lib.hid hp
      rw [hp] at HF HL2 HL3
      have hk64 : ¬ ((64 : Nat) : Int) < 64 := by omega
      clear l1 l2 l3 hp
      go_wp2_with fail
      refine (sub_at HX.out (HG.out 64) _).mono ?_
      rintro e w3 ⟨rfl, h3, _, _⟩
      rw [HL1.out]
      rw [refused (by rw [HL1.out]; decide)] at h3
      have HX3 : Hid (At q w0.heap.size w0 w3 (ft z 0) []) := Lib.hid h3
      clear h3
      go_wp2_with fail
      go_loopw [10] (fun i wr => ∃ j : Nat, i = .int .i64 j ∧ j ≤ p ∧ At q w0.heap.size w0 wr (ft z j) []) (fun i _ => p - (intOf i).toNat)
      case atStart => exact ⟨0, rfl, Nat.zero_le _, HX3.out⟩
      case round =>
        obtain ⟨j, rfl, hj, hX⟩ := hrel
        have HXj := Lib.hid hX
        clear hX
        by_cases hlt : j < p
        · have hltI : (j : Int) < (p : Int) := by omega
          have hn := (HF.out j hlt).1
          have hl := (HF.out j hlt).2
          have HN := Lib.hid hn
          have HLN := Lib.hid hl
          clear hn hl
          go_wp2_with fail
          refine (sub_at HXj.out (HGT.out j) _).mono ?_
          rintro e w4 ⟨rfl, h4, _, _⟩
          rw [HN.out]
          rw [refused (by rw [HN.out]; decide)] at h4
          have HX4 := Lib.hid h4
          clear h4
          go_wp2_with (first
            | (go_at_call 9; ((with_reducible refine (num_calls _ _).mono ?_); rintro e w' ⟨rfl, rfl⟩))
            | (go_at_call 16; refine (len_at HX4.out (by rw [HLN.out]; omega)).mono ?_; rintro e w' ⟨rfl, nq, rfl⟩; rw [HLN.out]))
          refine (take_at (x := 0) (HX4.out.drewN _) (HGT.out j) (by omega) (by decide)).mono ?_
          rintro e w5 ⟨rfl, h5, _, _⟩
          have HX5 : Hid (At q w0.heap.size w0 w5 (ft z (j + 1)) []) := Lib.hid h5
          clear h5
          go_wp2_with fail
          refine ⟨⟨j + 1, by go_num, by omega, HX5.out⟩, ?_⟩
          simp [intOf]
          omega
        · obtain rfl : j = p := by omega
          have hjj : ¬ (j : Int) < (j : Int) := by omega
          go_wp2_with fail
          refine (sub_at HXj.out (HGT.out j) _).mono ?_
          rintro e w4 ⟨rfl, h4, _, _⟩
          rw [HL2.out]
          have HX4 := Lib.hid h4
          have HG4 := Lib.hid (sub_good (HGT.out j) (⟨#[122]⟩ : ByteArray))
          clear h4
          go_wp2_with fail
          refine (sub_at HX4.out HG4.out _).mono ?_
          rintro e w5 ⟨rfl, h5, _, _⟩
          rw [HL3.out]
          have HX5 := Lib.hid h5
          clear h5
          go_wp2_with (first
            | (go_at_call 9; ((with_reducible refine (num_calls _ _).mono ?_); rintro e w' ⟨rfl, rfl⟩)))
          go_ret
          exact ⟨rfl, HB0.out.trans (HX5.out.below.mono hsz0)⟩

end Go.Proofs.Ytcahedlgmljhkaa.LFull
