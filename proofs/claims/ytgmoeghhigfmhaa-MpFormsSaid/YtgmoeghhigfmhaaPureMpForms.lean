/- Statement MpForms: one fragment in both forms comes back from both, the same data behind heads of two and of four bytes. No conditions. -/
import Derived.Test.YtgmoeghhigfmhaaPMpFormsx4
import Derived.Test.YtgmoeghhigfmhaaMpAMpForms
namespace Go.Proofs.Ytgmoeghhigfmhaa.Pure
open Go.RowKit Go.Proofs.Ytgmoeghhigfmhaa.PMpForms Go.Proofs.YtgmoeghhigfmhaaW.PrintWords Go.Proofs.YtgmoeghhigfmhaaW.PrintLast Go.Proofs.Ytgmoeghhigfmhaa.Plain

theorem awake_ok {k : Nat} (hk : 20 ≤ k) : withylaw8_awake.f k = some true :=
  at_rounds (g := withylaw8_awake.f) withylaw8_awake.mono hk (by kernel_rfl)

theorem j0_ok (k : Nat) (hk : 20 ≤ k) (a0 : Int) (b e : Bool) (d : ByteArray) (hd : d.size ≤ 300) : withylaw8_MpForms.j0 k a0 b e d = some true := by
  obtain ⟨k, rfl⟩ : ∃ m, k = m + 2 := ⟨k - 2, by omega⟩
  simp only [withylaw8_MpForms.j0]
  rw [and4095]
  have q0 : 0 ≤ a0 % 4096 := Int.emod_nonneg _ (by omega)
  have q1 : a0 % 4096 < 4096 := Int.emod_lt_of_pos _ (by omega)
  generalize a0 % 4096 = q at *
  have r1 : ringOf true = 4096 := rfl
  have r2 : ringOf false = 16777216 := rfl
  have l1 : (headOf b e q true).length = 2 := rfl
  have l2 : (headOf b e q false).length = 4 := rfl
  have p1 : putF b e q d true = (strOfNums (headOf b e q true) ++ d, 0) := by unfold putF; rw [if_neg (by rw [r1]; omega)]
  have p2 : putF b e q d false = (strOfNums (headOf b e q false) ++ d, 0) := by unfold putF; rw [if_neg (by rw [r2]; omega)]
  have g1 := get_put (b := b) (e := e) (q := q) (d := d) (short := true) q0 (by rw [r1]; omega) (by omega)
  have g2 := get_put (b := b) (e := e) (q := q) (d := d) (short := false) q0 (by rw [r2]; omega) (by omega)
  have s1 := size_head (headOf b e q true) d
  have s2 := size_head (headOf b e q false) d
  have x1 := extract_head (headOf b e q true) d
  have x2 := extract_head (headOf b e q false) d
  rw [l1] at s1 x1
  rw [l2] at s2 x2
  obtain ⟨A, hA⟩ : ∃ A, A = strOfNums (headOf b e q true) ++ d := ⟨_, rfl⟩
  obtain ⟨B, hB⟩ : ∃ B, B = strOfNums (headOf b e q false) ++ d := ⟨_, rfl⟩
  rw [← hA] at p1 g1 s1 x1
  rw [← hB] at p2 g2 s2 x2
  clear hA hB
  have u1 := put_f (k + 1) (by omega) b e q d true
  have u2 := put_f (k + 1) (by omega) b e q d false
  rw [p1] at u1
  rw [p2] at u2
  have u0 : withylaw0_Num.f 0 = some 0 := rfl
  rw [u1, Option.bind_some, u2, Option.bind_some]
  clear u1 u2 p1 p2
  dsimp only
  rw [u0, Option.bind_some, if_pos rfl, Option.bind_some, if_pos rfl]
  have c1 : (A.size : Int) = (d.size : Int) + 2 := by omega
  have c2 : (B.size : Int) = (d.size : Int) + 4 := by omega
  have c3 : (2 : Int) ≤ (A.size : Int) := by omega
  have c4 : (4 : Int) ≤ (B.size : Int) := by omega
  have f1 := get_f (k) (by omega) A (by omega) true
  have f2 := get_f (k) (by omega) B (by omega) false
  have w1 : wrap64 ((d.size : Int) + 2) = (d.size : Int) + 2 := wrap_i64 (by omega) (by omega)
  have w2 : wrap64 ((d.size : Int) + 4) = (d.size : Int) + 4 := wrap_i64 (by omega) (by omega)
  rw [w1, w2, if_pos c1, c2]
  have n1 : (((d.size : Int) + 4) != ((d.size : Int) + 4)) = false := by simp
  rw [n1]
  simp only [withylaw8_MpForms.j1, if_neg (show ¬ (false = true) by simp)]
  rw [f1, Option.bind_some, f2, Option.bind_some, g1, g2]
  dsimp only
  rw [u0, Option.bind_some, if_pos rfl, Option.bind_some, if_pos rfl]
  rw [if_pos (by simp), if_pos (by simp), if_pos c3, x1, if_pos rfl, if_pos c4, x2]
  simp

theorem MpForms : withylaw8_MpForms.Pure := by
  intro a0 a1 a2 a3 w0 w1
  refine ⟨40, ?_⟩
  obtain ⟨k, hk⟩ : ∃ k : Nat, k = 40 := ⟨_, rfl⟩
  rw [← hk]
  unfold withylaw8_MpForms.f
  rw [awake_ok (by omega)]
  simp only [Option.bind_some, if_true]
  by_cases h : (a3.size : Int) > 300
  · rw [if_pos h, if_pos (by omega), if_pos (by omega)]
    exact j0_ok k (by omega) a0 a1 a2 _ (by simp; omega)
  · rw [if_neg h]
    exact j0_ok k (by omega) a0 a1 a2 _ (by omega)

end Go.Proofs.Ytgmoeghhigfmhaa.Pure
