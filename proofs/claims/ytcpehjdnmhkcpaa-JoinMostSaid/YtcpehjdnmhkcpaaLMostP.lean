/- JoinMost, as plain data: ends alone, one behind the other. -/
import Derived.Test.YtcpehjdnmhkcpaaJoinK
namespace Go.Proofs.Ytcpehjdnmhkcpaa.LMostP
open Go Go.RowKit Go.Maps Go.Proofs.Ytcpehjdnmhkcpaa.Mem Go.Proofs.Ytcpehjdnmhkcpaa.Plain Go.Proofs.Ytcpehjdnmhkcpaa.Ring Go.Proofs.Ytcpehjdnmhkcpaa.IMap Go.Proofs.Ytcpehjdnmhkcpaa.JoinP Go.Proofs.Ytcpehjdnmhkcpaa.JoinA Go.Proofs.Ytcpehjdnmhkcpaa.JoinB Go.Proofs.Ytcpehjdnmhkcpaa.JoinC Go.Proofs.Ytcpehjdnmhkcpaa.Mv Go.Proofs.Ytcpehjdnmhkcpaa.RowAt Go.Proofs.Ytcpehjdnmhkcpaa.JoinQ Go.Proofs.Ytcpehjdnmhkcpaa.JoinD Go.Proofs.Ytcpehjdnmhkcpaa.JoinE Go.Proofs.Ytcpehjdnmhkcpaa.JoinR Go.Proofs.Ytcpehjdnmhkcpaa.JoinF Go.Proofs.Ytcpehjdnmhkcpaa.JoinG Go.Proofs.Ytcpehjdnmhkcpaa.JoinH Go.Proofs.Ytcpehjdnmhkcpaa.JoinI Go.Proofs.Ytcpehjdnmhkcpaa.JoinK

def fr (i : Nat) : Fr := ⟨false, true, 2 + 2 * (i : Int), ⟨#[101]⟩⟩
def st (m : Int) : Nat → JS
  | 0 => JS.add (JS.add (JS.new false m) 0) 1
  | i + 1 => (JS.put (st m i) 0 (fr i)).2

def chk (m : Nat) : Nat → Nat → JS → Bool
  | 0, i, s => s.held.length == min i m && s.lost == ((i - m : Nat) : Int)
  | k + 1, i, s => (s.held.length == min i m && s.lost == ((i - m : Nat) : Int)) && JS.putNum s 0 (fr i) == 0 && match JS.put s 0 (fr i) with
    | (o, s') => o.isEmpty && chk m k (i + 1) s'

theorem chk_all : (List.range 16).all (fun r => chk (r + 1) 63 0 (st ((1 : Int) + (r : Int)) 0)) = true := by decide +kernel

theorem chk_spec (m : Nat) : ∀ (k i : Nat) (s : JS), chk m k i s = true → (s.held.length = min i m ∧ s.lost = ((i - m : Nat) : Int)) ∧ (0 < k → JS.putNum s 0 (fr i) = 0 ∧ (JS.put s 0 (fr i)).1 = [] ∧ chk m (k - 1) (i + 1) (JS.put s 0 (fr i)).2 = true)
  | 0, i, s, h => by
    simp only [chk, Bool.and_eq_true, beq_iff_eq] at h
    exact ⟨h, fun h0 => absurd h0 (by omega)⟩
  | k + 1, i, s, h => by
    simp only [chk, Bool.and_eq_true, beq_iff_eq, List.isEmpty_iff] at h
    exact ⟨h.1.1, fun _ => ⟨h.1.2, h.2.1, h.2.2⟩⟩

theorem st_chk (r : Nat) (hr : r < 16) : ∀ i, i ≤ 63 → chk (r + 1) (63 - i) i (st ((1 : Int) + (r : Int)) i) = true
  | 0, _ => List.all_eq_true.1 chk_all r (by simpa using hr)
  | i + 1, h => by
    have := (chk_spec _ _ _ _ (st_chk r hr i (by omega))).2 (by omega)
    have e : 63 - i - 1 = 63 - (i + 1) := by omega
    rw [e] at this
    exact this.2.2

theorem st_held (r : Nat) (hr : r < 16) (i : Nat) (hi : i ≤ 63) : (st ((1 : Int) + (r : Int)) i).held.length = min i (r + 1) ∧ (st ((1 : Int) + (r : Int)) i).lost = ((i - (r + 1) : Nat) : Int) :=
  (chk_spec _ _ _ _ (st_chk r hr i hi)).1

theorem st_put (r : Nat) (hr : r < 16) (i : Nat) (hi : i < 63) : JS.putNum (st ((1 : Int) + (r : Int)) i) 0 (fr i) = 0 ∧ JS.put (st ((1 : Int) + (r : Int)) i) 0 (fr i) = ([], st ((1 : Int) + (r : Int)) (i + 1)) := by
  have := (chk_spec _ _ _ _ (st_chk r hr i (by omega))).2 (by omega)
  exact ⟨this.1, Prod.ext this.2.1 rfl⟩

theorem st_good (m : Int) (h : 1 ≤ m ∧ m ≤ 128) : ∀ i, i ≤ 100 → JoinH.Good (st m i) i
  | 0, _ => add_good (add_good (new_good false m h) (by decide)) (by decide)
  | i + 1, hi => put_good' (st_good m h i (by omega)) (by omega) 0 (fr i)

end Go.Proofs.Ytcpehjdnmhkcpaa.LMostP
