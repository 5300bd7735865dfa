/- Statement MpBack, the plain part: a fragment that is put comes back, and what is taken is put as it stood. -/
import Derived.Test.YtgmoeghhigfmhaaPMpBackx4
import Derived.Test.YtgmoeghhigfmhaaMpBMpBack
namespace Go.Proofs.Ytgmoeghhigfmhaa.Pure
open Go.RowKit Go.Proofs.Ytgmoeghhigfmhaa.PMpBack Go.Proofs.YtgmoeghhigfmhaaW.PrintWords Go.Proofs.YtgmoeghhigfmhaaW.PrintLast Go.Proofs.Ytgmoeghhigfmhaa.Plain

theorem awake_ok {k : Nat} (hk : 20 ≤ k) : withylaw8_awake.f k = some true :=
  at_rounds (g := withylaw8_awake.f) withylaw8_awake.mono hk (by kernel_rfl)

theorem num0 (x : Int) : withylaw0_Num.f x = some x := rfl

theorem j0_ok (k : Nat) (hk : 20 ≤ k) (s : ByteArray) (hs : s.size ≤ 140737488351232) (short : Bool) : withylaw8_MpBack.j0 k s short = some true := by
  obtain ⟨k, rfl⟩ : ∃ m, k = m + 1 := ⟨k - 1, by omega⟩
  have g := get_f k (by omega) s (by omega) short
  simp only [withylaw8_MpBack.j0]
  rw [g, Option.bind_some, num0, Option.bind_some]
  clear g
  unfold getF
  by_cases h1 : s.size < wide short ∨ odd (bt s 0) short
  · rw [if_pos h1]
    dsimp only
    rw [if_neg (by omega)]
    decide +kernel
  rw [if_neg h1]
  by_cases h2 : 2048 + wide short < s.size
  · rw [if_pos h2]
    dsimp only
    rw [if_neg (by omega)]
    decide +kernel
  rw [if_neg h2]
  dsimp only
  have p := put_f k (by omega) (decide (128 ≤ bt s 0)) (decide (bt s 0 / 64 % 2 = 1)) (seqOf s short) (s.extract (wide short) s.size) short
  rw [put_get s short h1 h2] at p
  rw [if_pos rfl, p, Option.bind_some, num0, Option.bind_some]
  dsimp only
  rw [if_pos rfl]
  exact congrArg some (beq_iff_eq.2 rfl)

theorem MpBack (b e : Bool) (q : Int) (d s : ByteArray) (short : Bool) (hs : s.size ≤ 140737488351232) : ∃ k, withylaw8_MpBack.f k b e q d s short = some true := by
  refine ⟨40, ?_⟩
  obtain ⟨k, hk⟩ : ∃ k : Nat, k = 40 := ⟨_, rfl⟩
  rw [← hk]
  unfold withylaw8_MpBack.f
  have p := put_f k (by omega) b e q d short
  rw [awake_ok (by omega), Option.bind_some, if_pos rfl, p, Option.bind_some, num0, Option.bind_some]
  clear p
  unfold putF
  by_cases h : q < 0 ∨ ringOf short ≤ q ∨ 2048 < d.size
  · rw [if_pos h]
    dsimp only
    rw [if_neg (by omega)]
    exact j0_ok k (by omega) s hs short
  rw [if_neg h]
  have hl : (headOf b e q short).length ≤ 4 := by unfold headOf; split <;> simp
  have hz := size_head (headOf b e q short) d
  have g1 := get_put (b := b) (e := e) (q := q) (d := d) (short := short) (by omega) (by omega) (by omega)
  obtain ⟨A, hA⟩ : ∃ A, A = strOfNums (headOf b e q short) ++ d := ⟨_, rfl⟩
  rw [← hA] at g1 hz ⊢
  clear hA
  dsimp only
  have g := get_f k (by omega) A (by omega) short
  rw [if_pos rfl, g, Option.bind_some, num0, Option.bind_some, g1]
  dsimp only
  rw [if_pos rfl, if_neg (by simp)]
  exact j0_ok k (by omega) s hs short

end Go.Proofs.Ytgmoeghhigfmhaa.Pure
