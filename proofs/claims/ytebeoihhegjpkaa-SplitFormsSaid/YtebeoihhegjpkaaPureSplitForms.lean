/- Statement SplitForms: which packets, sizes and numbers split.Cut takes, and how many fragments it answers. No conditions. -/
import Derived.Test.YtebeoihhegjpkaaPSplitFormsx3
import Derived.Test.YtebeoihhegjpkaaCutASplitForms
import Derived.Test.YtebeoihhegjpkaaPlain
namespace Go.Proofs.Ytebeoihhegjpkaa.Pure
open Go.RowKit Go.Proofs.Ytebeoihhegjpkaa.PSplitForms Go.Proofs.YtebeoihhegjpkaaW.PrintWords Go.Proofs.YtebeoihhegjpkaaW.PrintLast Go.Proofs.Ytebeoihhegjpkaa.Plain

theorem awake_ok {k : Nat} (hk : 300 ≤ k) : withylaw18_awake.f k = some true :=
  at_rounds (g := withylaw18_awake.f) withylaw18_awake.mono hk (by kernel_rfl)

def FineForms (K a1 a2 : Int) (a3 : Bool) : Prop := (1 ≤ K ∧ K ≤ 1500 ∧ 1 ≤ a1 ∧ a1 ≤ 1500 ∧ 0 ≤ a2 ∧ a2 < ringOf a3) ∧ (K + a1 - 1) / a1 ≤ 64

theorem div_le (K a1 : Int) (h0 : 1 ≤ K) (h1 : K ≤ 1500) (h2 : 1 ≤ a1) (h3 : a1 ≤ 1500) : 0 ≤ (K + a1 - 1) / a1 ∧ (K + a1 - 1) / a1 ≤ 3000 :=
  ⟨Int.ediv_nonneg (by omega) (by omega), by have := Int.ediv_le_self a1 (show 0 ≤ K + a1 - 1 by omega); omega⟩

theorem nocut (k : Nat) (hk : 200 ≤ k) (a3 : Bool) : split_Cut.f k (⟨#[120]⟩ : ByteArray) ([] : List Int) 0 a3 = some ([], 1800) := by
  rcases cut_f (⟨#[120]⟩ : ByteArray) [] 0 a3 k hk with ⟨_, h⟩ | ⟨h, _⟩
  · exact h
  · exact absurd h.2.2.1 (by simp)

theorem j2_ok (k : Nat) (hk : 200 ≤ k) (K a1 a2 : Int) (a3 : Bool) (L : List S39) (e : Int) (b : Bool)
    (H : (b = true ∧ FineForms K a1 a2 a3 ∧ e = 0 ∧ (L.length : Int) = (K + a1 - 1) / a1) ∨ (b = false ∧ e = 1800 ∧ L = [])) :
    withylaw18_SplitForms.j2 (k + 1) a1 a3 K L e b = some true := by
  simp only [withylaw18_SplitForms.j2]
  rw [nocut k hk]
  rcases H with ⟨rfl, ⟨h, h64⟩, rfl, hl⟩ | ⟨rfl, rfl, rfl⟩
  · have hb := div_le K a1 (by omega) (by omega) (by omega) (by omega)
    have e1 : wrap64 (K + a1) = K + a1 := wrap_i64 (by omega) (by omega)
    have e2 : wrap64 (K + a1 - 1) = K + a1 - 1 := wrap_i64 (by omega) (by omega)
    have e3 : Int.tdiv (K + a1 - 1) a1 = (K + a1 - 1) / a1 := Int.tdiv_eq_ediv_of_nonneg (by omega)
    have e4 : wrap64 ((K + a1 - 1) / a1) = (K + a1 - 1) / a1 := wrap_i64 (by omega) (by omega)
    rw [e1, e2, e3, e4]
    simp only [Option.bind_some, if_true, withylaw0_Num.f]
    rw [if_neg (by omega), if_pos hl]
    simp
  · simp [withylaw0_Num.f]

theorem j0_ok (k : Nat) (hk : 200 ≤ k) (K a1 a2 : Int) (a3 : Bool) (L : List S39) (e : Int)
    (H : (FineForms K a1 a2 a3 ∧ e = 0 ∧ (L.length : Int) = (K + a1 - 1) / a1) ∨ (¬ FineForms K a1 a2 a3 ∧ e = 1800 ∧ L = [])) :
    withylaw18_SplitForms.j0 (k + 3) a1 a2 a3 K L e (ringOf a3) = some true := by
  simp only [withylaw18_SplitForms.j0, withylaw18_SplitForms.j1]
  by_cases h : 1 ≤ K ∧ K ≤ 1500 ∧ 1 ≤ a1 ∧ a1 ≤ 1500 ∧ 0 ≤ a2 ∧ a2 < ringOf a3
  · have hb := div_le K a1 (by omega) (by omega) (by omega) (by omega)
    have e1 : wrap64 (K + a1) = K + a1 := wrap_i64 (by omega) (by omega)
    have e2 : wrap64 (K + a1 - 1) = K + a1 - 1 := wrap_i64 (by omega) (by omega)
    have e3 : Int.tdiv (K + a1 - 1) a1 = (K + a1 - 1) / a1 := Int.tdiv_eq_ediv_of_nonneg (by omega)
    have e4 : wrap64 ((K + a1 - 1) / a1) = (K + a1 - 1) / a1 := wrap_i64 (by omega) (by omega)
    rw [if_pos (by omega), if_pos (by omega), if_pos (by omega), if_pos (by omega), if_pos (by omega), decide_eq_true h.2.2.2.2.2, if_pos rfl, if_neg (by omega), e1, e2, e3, e4]
    refine j2_ok k hk K a1 a2 a3 L e _ ?_
    rcases H with ⟨hf, h1, h2⟩ | ⟨hf, h1, h2⟩
    · exact .inl ⟨decide_eq_true hf.2, hf, h1, h2⟩
    · exact .inr ⟨decide_eq_false (fun h' => hf ⟨h, h'⟩), h1, h2⟩
  · have hnf : ¬ FineForms K a1 a2 a3 := fun hf => h hf.1
    rcases H with ⟨hf, _⟩ | ⟨_, h1, h2⟩
    · exact absurd hf hnf
    have fin := j2_ok k hk K a1 a2 a3 L e false (.inr ⟨rfl, h1, h2⟩)
    simp only [if_neg (show ¬ (false = true) by simp)]
    by_cases c1 : K ≥ 1
    · rw [if_pos c1]
      by_cases c2 : K ≤ 1500
      · rw [if_pos c2]
        by_cases c3 : a1 ≥ 1
        · rw [if_pos c3]
          by_cases c4 : a1 ≤ 1500
          · rw [if_pos c4]
            by_cases c5 : a2 ≥ 0
            · rw [if_pos c5, decide_eq_false (by omega)]; simpa using fin
            · rw [if_neg c5]; exact fin
          · rw [if_neg c4]; exact fin
        · rw [if_neg c3]; exact fin
      · rw [if_neg c2]; exact fin
    · rw [if_neg c1]; exact fin

theorem SplitForms : withylaw18_SplitForms.Pure := by
  intro a0 a1 a2 a3 w0 w1 w2
  refine ⟨1000, ?_⟩
  unfold withylaw18_SplitForms.f
  rw [awake_ok (by omega)]
  simp only [Option.bind_some, if_true]
  rw [and2047]
  have hK0 : 0 ≤ a0 % 2048 := Int.emod_nonneg _ (by omega)
  have hK1 : a0 % 2048 < 2048 := Int.emod_lt_of_pos _ (by omega)
  generalize a0 % 2048 = K at *
  rw [if_pos hK0, if_pos (by omega)]
  have hsz : ((strOfNums (List.replicate K.toNat 0)).size : Int) = K := by rw [size_strOfNums]; simp; omega
  generalize strOfNums (List.replicate K.toNat 0) = s at *
  have hif : ∀ (r : List S39) (e : Int), (if a3 = true then withylaw18_SplitForms.j0 1000 a1 a2 a3 K r e 4096 else withylaw18_SplitForms.j0 1000 a1 a2 a3 K r e 16777216) = withylaw18_SplitForms.j0 1000 a1 a2 a3 K r e (ringOf a3) := by
    intro r e; unfold ringOf; split <;> rfl
  have hrr : ∀ i : Int, 0 ≤ i → i < ([a1] : List Int).length → rd [a1] i = a1 := by
    intro i h0 h1
    have : i = 0 := by simp at h1; omega
    rw [this]; rfl
  rcases cut_f s [a1] a2 a3 1000 (by omega) with ⟨hno, h⟩ | ⟨hok, F, h⟩
  · rw [h]; simp only [Option.bind_some]; rw [hif]
    refine j0_ok 997 (by omega) K a1 a2 a3 _ _ (.inr ⟨fun hf => hno ?_, rfl, rfl⟩)
    obtain ⟨⟨c1, c2, c3, c4, c5, c6⟩, _⟩ := hf
    exact ⟨by omega, by omega, by simp, by simp, c5, c6, fun i h0 h1 => by rw [hrr i h0 h1]; exact ⟨c3, c4⟩⟩
  · obtain ⟨o1, o2, o3, o4, o5, o6, o7⟩ := hok
    have o7' := o7 0 (by omega) (by simp)
    rw [hrr 0 (by omega) (by simp)] at o7'
    rw [h]; simp only [Option.bind_some]
    obtain ⟨p1, p2⟩ := pieces_one F 64 0 s
    rw [hsz] at p1 p2
    by_cases hc : K ≤ ((64 : Nat) : Int) * a1
    · obtain ⟨r, e, hl⟩ := p1 hc
      rw [e]; simp only []; rw [hif]
      refine j0_ok 997 (by omega) K a1 a2 a3 _ _ (.inl ⟨⟨⟨by omega, by omega, o7'.1, o7'.2, o5, F.seqr⟩, ?_⟩, rfl, hl⟩)
      have : (K + a1 - 1) / a1 < 65 := Int.ediv_lt_of_lt_mul (by omega) (by omega)
      omega
    · rw [p2 (by omega)]; simp only []; rw [hif]
      refine j0_ok 997 (by omega) K a1 a2 a3 _ _ (.inr ⟨fun hf => hc ?_, rfl, rfl⟩)
      have h1 := hf.2
      have h2 : K + a1 - 1 < ((K + a1 - 1) / a1 + 1) * a1 := Int.lt_ediv_add_one_mul_self _ (by omega)
      have h3 : ((K + a1 - 1) / a1 + 1) * a1 ≤ 65 * a1 := Int.mul_le_mul_of_nonneg_right (by omega) (by omega)
      omega

end Go.Proofs.Ytebeoihhegjpkaa.Pure
