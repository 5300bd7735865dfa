/- JoinRing, as plain data: three jumps, then a row of packets, in both forms. -/
import Derived.Test.YtcpehjdnmhkcpaaJoinK
namespace Go.Proofs.Ytcpehjdnmhkcpaa.LRingP
open Go Go.RowKit Go.Maps Go.Proofs.Ytcpehjdnmhkcpaa.Plain Go.Proofs.Ytcpehjdnmhkcpaa.JoinP Go.Proofs.Ytcpehjdnmhkcpaa.JoinA Go.Proofs.Ytcpehjdnmhkcpaa.JoinR Go.Proofs.Ytcpehjdnmhkcpaa.JoinG Go.Proofs.Ytcpehjdnmhkcpaa.JoinH Go.Proofs.Ytcpehjdnmhkcpaa.JoinI Go.Proofs.Ytcpehjdnmhkcpaa.JoinK

def top (b : Bool) : Nat := if b then 4096 else 16777216
/-- The number behind i jumps; behind i packets. -/
def ja (b : Bool) (i : Nat) : Nat := i * (top b / 2 - 2)
def xa (b : Bool) (i : Nat) : Nat := 3 * (top b / 2 - 2) + i
def fj (b : Bool) (i : Nat) : Fr := ⟨true, true, (ja b (i + 1) % top b : Nat), ⟨#[106]⟩⟩
def fx (b : Bool) (i : Nat) : Fr := ⟨true, true, (xa b (i + 1) % top b : Nat), ⟨#[120]⟩⟩

def sj (b : Bool) : Nat → JS
  | 0 => JS.add (JS.new b 32) 0
  | i + 1 => (JS.put (sj b i) 0 (fj b i)).2
/-- Behind i packets: the reassembly; how many are told. -/
def sx (b : Bool) : Nat → JS × Nat
  | 0 => (sj b 3, 0)
  | i + 1 => ((JS.put (sx b i).1 0 (fx b i)).2, (sx b i).2 + (JS.put (sx b i).1 0 (fx b i)).1.length)

def chk (b : Bool) : Nat → Nat → JS → Nat → Bool
  | 0, _, _, _ => true
  | n + 1, i, s, c => JS.putNum s 0 (fx b i) == 0 && match JS.put s 0 (fx b i) with
    | (o, s') => (i < 3 || (c + o.length == i + 1 && s'.held.isEmpty)) && c + o.length ≤ i + 1 && chk b n (i + 1) s' (c + o.length)

theorem chk_all : ([true, false] : List Bool).all (fun b => chk b 35 0 (sj b 3) 0) = true := by decide +kernel

theorem chk_spec (b : Bool) : ∀ (n i : Nat) (s : JS) (c : Nat), chk b n i s c = true → 0 < n → JS.putNum s 0 (fx b i) = 0 ∧ (3 ≤ i → c + (JS.put s 0 (fx b i)).1.length = i + 1 ∧ (JS.put s 0 (fx b i)).2.held = []) ∧ c + (JS.put s 0 (fx b i)).1.length ≤ i + 1 ∧ chk b (n - 1) (i + 1) (JS.put s 0 (fx b i)).2 (c + (JS.put s 0 (fx b i)).1.length) = true
  | 0, _, _, _, _, h => by omega
  | n + 1, i, s, c, h, _ => by
    simp only [chk, Bool.and_eq_true, beq_iff_eq, Bool.or_eq_true, decide_eq_true_eq, List.isEmpty_iff] at h
    refine ⟨h.1, fun h3 => ?_, h.2.1.2, h.2.2⟩
    rcases h.2.1.1 with h' | h'
    · omega
    · exact h'

theorem sx_chk (b : Bool) : ∀ i, i ≤ 35 → chk b (35 - i) i (sx b i).1 (sx b i).2 = true
  | 0, _ => List.all_eq_true.1 chk_all b (by cases b <;> simp)
  | i + 1, h => by
    have := (chk_spec b _ _ _ _ (sx_chk b i (by omega)) (by omega)).2.2.2
    have e : 35 - i - 1 = 35 - (i + 1) := by omega
    rw [e] at this
    exact this

theorem sx_put (b : Bool) (i : Nat) (hi : i < 35) : JS.putNum (sx b i).1 0 (fx b i) = 0 ∧ (sx b (i + 1)).2 ≤ i + 1 :=
  let h := chk_spec b _ _ _ _ (sx_chk b i (by omega)) (by omega)
  ⟨h.1, h.2.2.1⟩
theorem sx_end (b : Bool) (i : Nat) (h4 : 4 ≤ i) (hi : i ≤ 35) : (sx b i).2 = i ∧ (sx b i).1.held = [] := by
  obtain ⟨i, rfl⟩ : ∃ k, i = k + 1 := ⟨i - 1, by omega⟩
  exact (chk_spec b _ _ _ _ (sx_chk b i (by omega)) (by omega)).2.1 (by omega)
theorem sx_le (b : Bool) : ∀ i, i ≤ 35 → (sx b i).2 ≤ i
  | 0, _ => Nat.le_refl _
  | i + 1, h => (sx_put b i (by omega)).2

theorem sj_good (b : Bool) : ∀ i, i ≤ 100 → JoinH.Good (sj b i) i
  | 0, _ => add_good (new_good b 32 (by omega)) (by decide)
  | i + 1, h => put_good' (sj_good b i (by omega)) (by omega) 0 _
theorem sx_good (b : Bool) : ∀ i, i ≤ 100 → JoinH.Good (sx b i).1 (3 + i)
  | 0, _ => sj_good b 3 (by omega)
  | i + 1, h => put_good' (sx_good b i (by omega)) (by omega) 0 _

theorem top_le (b : Bool) : top b = 4096 ∨ top b = 16777216 := by cases b <;> simp [top]

end Go.Proofs.Ytcpehjdnmhkcpaa.LRingP
