/- JoinOld, as plain data: a row of packets; one of them again; a fragment twice. -/
import Derived.Test.YtcpehjdnmhkcpaaJoinK
namespace Go.Proofs.Ytcpehjdnmhkcpaa.LOldP
open Go Go.RowKit Go.Maps Go.Proofs.Ytcpehjdnmhkcpaa.Plain Go.Proofs.Ytcpehjdnmhkcpaa.JoinP Go.Proofs.Ytcpehjdnmhkcpaa.JoinA Go.Proofs.Ytcpehjdnmhkcpaa.JoinR Go.Proofs.Ytcpehjdnmhkcpaa.JoinG Go.Proofs.Ytcpehjdnmhkcpaa.JoinH Go.Proofs.Ytcpehjdnmhkcpaa.JoinI Go.Proofs.Ytcpehjdnmhkcpaa.JoinK

def fx (i : Nat) : Fr := ⟨true, true, i, ⟨#[120]⟩⟩
def fy (i : Nat) : Fr := ⟨true, true, i, ⟨#[121]⟩⟩
def fa (i : Nat) : Fr := ⟨true, false, i, ⟨#[97]⟩⟩
def fb (i : Nat) : Fr := ⟨true, false, i, ⟨#[98]⟩⟩
def fc (i : Nat) : Fr := ⟨false, true, (i : Int) + 1, ⟨#[99]⟩⟩

def st : Nat → JS
  | 0 => JS.add (JS.new true 64) 0
  | i + 1 => (JS.put (st i) 0 (fx i)).2
def s1 (k a : Nat) : JS := (JS.put (st k) 0 (fy a)).2
def s2 (k a : Nat) : JS := (JS.put (s1 k a) 0 (fa k)).2
def s3 (k a : Nat) : JS := (JS.put (s2 k a) 0 (fb k)).2
def s4 (k a : Nat) : JS := (JS.put (s3 k a) 0 (fc k)).2

def chk1 : Nat → Nat → JS → Bool
  | 0, _, _ => true
  | n + 1, i, s => JS.putNum s 0 (fx i) == 0 && match JS.put s 0 (fx i) with
    | (o, s') => o.length == 1 && chk1 n (i + 1) s'

def chk2 (k a : Nat) (s : JS) : Bool := JS.putNum s 0 (fy a) == 0 && match JS.put s 0 (fy a) with
  | (o, s1) => o.isEmpty && match JS.put s1 0 (fa k) with
    | (_, s2) => match JS.put s2 0 (fb k) with
      | (_, s3) => JS.putNum s3 0 (fc k) == 0 && match JS.put s3 0 (fc k) with
        | (o, s4) => decide (o = [⟨#[97, 99]⟩]) && s4.lost == 2

theorem chk1_all : chk1 32 0 (st 0) = true := by decide +kernel
theorem chk2_all : (List.range 32).all (fun r => (List.range (r + 1)).all fun a => chk2 (r + 1) a (st (r + 1))) = true := by decide +kernel

theorem chk1_spec : ∀ (n i : Nat) (s : JS), chk1 n i s = true → 0 < n → JS.putNum s 0 (fx i) = 0 ∧ (JS.put s 0 (fx i)).1.length = 1 ∧ chk1 (n - 1) (i + 1) (JS.put s 0 (fx i)).2 = true
  | 0, _, _, _, h => by omega
  | n + 1, i, s, h, _ => by
    simp only [chk1, Bool.and_eq_true, beq_iff_eq] at h
    exact h

theorem st_chk : ∀ i, i ≤ 32 → chk1 (32 - i) i (st i) = true
  | 0, _ => chk1_all
  | i + 1, h => by
    have := (chk1_spec _ _ _ (st_chk i (by omega)) (by omega)).2.2
    have e : 32 - i - 1 = 32 - (i + 1) := by omega
    rw [e] at this
    exact this

theorem st_put (i : Nat) (hi : i < 32) : JS.putNum (st i) 0 (fx i) = 0 ∧ (JS.put (st i) 0 (fx i)).1.length = 1 :=
  let h := chk1_spec _ _ _ (st_chk i (by omega)) (by omega)
  ⟨h.1, h.2.1⟩

theorem end_all (r a : Nat) (hr : r < 32) (ha : a ≤ r) : (JS.putNum (st (r + 1)) 0 (fy a) = 0 ∧ JS.put (st (r + 1)) 0 (fy a) = ([], s1 (r + 1) a)) ∧ JS.putNum (s3 (r + 1) a) 0 (fc (r + 1)) = 0 ∧ JS.put (s3 (r + 1) a) 0 (fc (r + 1)) = ([⟨#[97, 99]⟩], s4 (r + 1) a) ∧ (s4 (r + 1) a).lost = 2 := by
  have h := List.all_eq_true.1 (List.all_eq_true.1 chk2_all r (by simpa using hr)) a (by simp; omega)
  simp only [chk2, Bool.and_eq_true, beq_iff_eq, decide_eq_true_eq, List.isEmpty_iff] at h
  exact ⟨⟨h.1, Prod.ext h.2.1 rfl⟩, h.2.2.1, Prod.ext h.2.2.2.1 rfl, h.2.2.2.2⟩

theorem st_good : ∀ i, i ≤ 100 → JoinH.Good (st i) i
  | 0, _ => add_good (new_good true 64 (by omega)) (by decide)
  | i + 1, h => put_good' (st_good i (by omega)) (by omega) 0 _
theorem g1 (k a : Nat) (hk : k ≤ 100) : JoinH.Good (s1 k a) (k + 1) := put_good' (st_good k hk) (by omega) 0 _
theorem g2 (k a : Nat) (hk : k ≤ 100) : JoinH.Good (s2 k a) (k + 2) := put_good' (g1 k a hk) (by omega) 0 _
theorem g3 (k a : Nat) (hk : k ≤ 100) : JoinH.Good (s3 k a) (k + 3) := put_good' (g2 k a hk) (by omega) 0 _

end Go.Proofs.Ytcpehjdnmhkcpaa.LOldP
