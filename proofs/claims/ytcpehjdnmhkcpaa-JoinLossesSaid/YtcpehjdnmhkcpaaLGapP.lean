/- JoinGap, as plain data: all but one of a row of packets. -/
import Derived.Test.YtcpehjdnmhkcpaaJoinK
namespace Go.Proofs.Ytcpehjdnmhkcpaa.LGapP
open Go Go.RowKit Go.Maps Go.Proofs.Ytcpehjdnmhkcpaa.Mem Go.Proofs.Ytcpehjdnmhkcpaa.Plain Go.Proofs.Ytcpehjdnmhkcpaa.Ring Go.Proofs.Ytcpehjdnmhkcpaa.IMap Go.Proofs.Ytcpehjdnmhkcpaa.JoinP Go.Proofs.Ytcpehjdnmhkcpaa.JoinA Go.Proofs.Ytcpehjdnmhkcpaa.JoinR Go.Proofs.Ytcpehjdnmhkcpaa.JoinG Go.Proofs.Ytcpehjdnmhkcpaa.JoinH Go.Proofs.Ytcpehjdnmhkcpaa.JoinI Go.Proofs.Ytcpehjdnmhkcpaa.JoinK

/-- A number below 100 as text. -/
def dec (i : Nat) : ByteArray := if i < 10 then ⟨#[UInt8.ofNat (48 + i)]⟩ else ⟨#[UInt8.ofNat (48 + i / 10), UInt8.ofNat (48 + i % 10)]⟩

def adds : Nat → JS
  | 0 => JS.new true 64
  | i + 1 => JS.add (adds i) i

def fr (i : Nat) : Fr := ⟨true, true, i, dec i⟩

/-- Behind i rounds: the reassembly, what was told. -/
def st (k g : Nat) : Nat → JS × List ByteArray
  | 0 => (adds k, [])
  | i + 1 => if i = g then st k g i else ((JS.put (st k g i).1 ((i % k : Nat) : Int) (fr i)).2, (st k g i).2 ++ (JS.put (st k g i).1 ((i % k : Nat) : Int) (fr i)).1)

/-- The rounds from i on go well, and what was told is want. -/
def chk (k g : Nat) (want : List ByteArray) : Nat → Nat → JS → List ByteArray → Bool
  | 0, _, s, o => decide (o = want) && s.held.isEmpty
  | n + 1, i, s, o => if i = g then chk k g want n (i + 1) s o else JS.putNum s ((i % k : Nat) : Int) (fr i) == 0 && match JS.put s ((i % k : Nat) : Int) (fr i) with
    | (o', s') => chk k g want n (i + 1) s' (o ++ o')

def skip (g j : Nat) : Nat := if j < g then j else j + 1
def want (k g : Nat) : List ByteArray := (List.range (11 + k)).map fun j => dec (skip g j)

theorem chk_all : (List.range 4).all (fun r => (List.range 10).all fun g => chk (r + 1) g (want (r + 1) g) (13 + r) 0 (adds (r + 1)) []) = true := by decide +kernel
theorem add_all : (List.range 4).all (fun i => JS.addNum (adds i) i == 0) = true := by decide +kernel

theorem chk_spec (k g : Nat) (wt : List ByteArray) (n i : Nat) (s : JS) (o : List ByteArray) (h : chk k g wt n i s o = true) :
    (n = 0 → o = wt ∧ s.held = []) ∧ (0 < n → (i = g → chk k g wt (n - 1) (i + 1) s o = true) ∧ (i ≠ g → JS.putNum s ((i % k : Nat) : Int) (fr i) = 0 ∧ chk k g wt (n - 1) (i + 1) (JS.put s ((i % k : Nat) : Int) (fr i)).2 (o ++ (JS.put s ((i % k : Nat) : Int) (fr i)).1) = true)) := by
  cases n with
  | zero =>
    simp only [chk, Bool.and_eq_true, decide_eq_true_eq, List.isEmpty_iff] at h
    exact ⟨fun _ => h, fun h0 => absurd h0 (by omega)⟩
  | succ n =>
    refine ⟨fun h0 => by omega, fun _ => ⟨fun e => ?_, fun e => ?_⟩⟩
    · simp only [chk, if_pos e] at h
      exact h
    · simp only [chk, if_neg e, Bool.and_eq_true, beq_iff_eq] at h
      exact h

theorem st_chk (r g : Nat) (hr : r < 4) (hg : g < 10) : ∀ i, i ≤ 13 + r → chk (r + 1) g (want (r + 1) g) (13 + r - i) i (st (r + 1) g i).1 (st (r + 1) g i).2 = true
  | 0, _ => List.all_eq_true.1 (List.all_eq_true.1 chk_all r (by simpa using hr)) g (by simpa using hg)
  | i + 1, h => by
    have := (chk_spec _ _ _ _ _ _ _ (st_chk r g hr hg i (by omega))).2 (by omega)
    have e : 13 + r - i - 1 = 13 + r - (i + 1) := by omega
    rw [e] at this
    unfold st
    split
    · rename_i hi; exact this.1 hi
    · rename_i hi; exact (this.2 hi).2

theorem st_end (r g : Nat) (hr : r < 4) (hg : g < 10) : (st (r + 1) g (13 + r)).2 = want (r + 1) g ∧ (st (r + 1) g (13 + r)).1.held = [] :=
  (chk_spec _ _ _ _ _ _ _ (st_chk r g hr hg (13 + r) (Nat.le_refl _))).1 (by omega)

theorem st_put (r g i : Nat) (hr : r < 4) (hg : g < 10) (hi : i < 13 + r) (hne : i ≠ g) : JS.putNum (st (r + 1) g i).1 ((i % (r + 1) : Nat) : Int) (fr i) = 0 :=
  (((chk_spec _ _ _ _ _ _ _ (st_chk r g hr hg i (by omega))).2 (by omega)).2 hne).1

theorem adds_good : ∀ i, i ≤ 100 → JoinH.Good (adds i) 0
  | 0, _ => new_good true 64 (by omega)
  | i + 1, h => add_good (adds_good i (by omega)) (wf_i64_iff.2 (by omega))

theorem st_good (k g : Nat) (hk : k ≤ 4) : ∀ i, i ≤ 100 → JoinH.Good (st k g i).1 i
  | 0, _ => adds_good k (by omega)
  | i + 1, h => by
    unfold st
    split
    · exact (st_good k g hk i (by omega)).mono (by omega)
    · exact put_good' (st_good k g hk i (by omega)) (by omega) _ _

/-- A text more for each packet that is told; all told: one for each that was put. -/
theorem run_len : ∀ (n : Nat) (s : JS), Fit s → Low s → (JS.run n s).1.length + (JS.run n s).2.held.length ≤ s.held.length
  | 0, s, _, _ => by simp [JS.run]
  | n + 1, s, F, L => by
    cases hs : s.step with
    | none => rw [run_none hs]; simp
    | some r =>
      obtain ⟨o, s'⟩ := r
      obtain ⟨_, F', L', h⟩ := step_spec F L hs
      have := run_len n s' F' L'
      rw [run_some hs]
      simp only [List.length_append]
      omega

/-- No more is told than was put. -/
theorem put_len {s : JS} {n : Nat} (G : JoinH.Good s n) (hn : n ≤ 4611686018427386000) (x : Int) (f : Fr) : (JS.put s x f).1.length + (JS.put s x f).2.held.length ≤ s.held.length + 1 := by
  by_cases h : JS.has s x = true ∧ okFr s.short f = true
  · obtain ⟨hx, hf⟩ := h
    have e : JS.putNum s x f = 0 := by unfold JS.putNum; rw [if_pos hx, if_pos hf]
    obtain ⟨F, L, _⟩ := take_in G hn hx (has_in G.fit hx) hf
    unfold JS.put
    rw [if_pos e]
    have h1 := run_len (JS.fuel (JS.take1 (JS.setLink s x f.q) f)) _ F L
    have h2 : (JS.take1 (JS.setLink s x f.q) f).held.length ≤ s.held.length + 1 := by
      unfold JS.take1
      split
      · show s.held.length ≤ _; omega
      · show (s.held ++ [f]).length ≤ _; simp
    unfold JS.all
    omega
  · have e : ¬ JS.putNum s x f = 0 := by
      unfold JS.putNum
      split
      · rename_i hx; rw [if_neg (fun hf => h ⟨hx, hf⟩)]; omega
      · omega
    unfold JS.put
    rw [if_neg e]
    simp

theorem run_told (k g : Nat) (hk : k ≤ 4) : ∀ i, i ≤ 100 → (st k g i).2.length + (st k g i).1.held.length ≤ i
  | 0, _ => by
    have : ∀ n, (adds n).held = [] := fun n => by
      induction n with
      | zero => rfl
      | succ n ih => unfold adds JS.add; split <;> exact ih
    show 0 + (adds k).held.length ≤ 0
    rw [this k]
    simp
  | i + 1, h => by
    have ih := run_told k g hk i (by omega)
    unfold st
    split
    · omega
    · have := put_len (st_good k g hk i (by omega)) (by omega) ((i % k : Nat) : Int) (fr i)
      simp only [List.length_append]
      omega

theorem dec_ok : (List.range 100).all (fun i => decide (PJoinOrder.withyref0_Decimal.f 8 (i : Int) = some (dec i))) = true := by decide +kernel

theorem dec_calls (i : Nat) (hi : i < 100) (w : World) : Calls Try.prog 28 #[.int .i64 (i : Int)] w fun e w' => e = .returned (.string (dec i)) ∧ Below w.heap.size w w' :=
  PJoinOrder.withyref0_Decimal.calls 8 i (dec i) w (of_decide_eq_true (List.all_eq_true.1 dec_ok i (by simpa using hi)))

theorem whole_calls (i : Nat) (hi : i < 4096) (t : ByteArray) (w : World) : Calls Try.prog 27 #[.int .i64 (i : Int), .string t] w fun e w' => e = .returned (.agg #[.bool true, .bool true, .int .i64 (i : Int), .string t]) ∧ Below w.heap.size w w' := by
  refine PJoinOrder.withylaw19_whole.calls i t true true i t w ?_
  unfold PJoinOrder.withylaw19_whole.f
  rw [and4095]
  have : (i : Int) % 4096 = i := Int.emod_eq_of_lt (by omega) (by omega)
  rw [this]

end Go.Proofs.Ytcpehjdnmhkcpaa.LGapP
