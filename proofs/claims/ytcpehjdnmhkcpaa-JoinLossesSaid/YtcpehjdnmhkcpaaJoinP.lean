/- The reassembly as plain data: what each method does, without memory. -/
import Derived.Test.YtcpehjdnmhkcpaaRing
import Derived.Test.YtcpehjdnmhkcpaaIMap
namespace Go.Proofs.Ytcpehjdnmhkcpaa.JoinP
open Go Go.RowKit Go.Proofs.Ytcpehjdnmhkcpaa.Mem Go.Proofs.Ytcpehjdnmhkcpaa.Plain Go.Proofs.Ytcpehjdnmhkcpaa.Ring Go.Proofs.Ytcpehjdnmhkcpaa.IMap

/-- A fragment. -/
structure Fr where
  b : Bool
  e : Bool
  q : Int
  d : ByteArray

def Fr.val (f : Fr) : Value := .agg #[.bool f.b, .bool f.e, .int .i64 f.q, .string f.d]

/-- A reassembly. -/
structure JS where
  short : Bool
  most : Int
  next : Int
  links : List (Int × Int)
  held : List Fr
  lost : Int

def ringOf (b : Bool) : Int := if b = true then 4096 else 16777216
theorem ringOf_size (b : Bool) : Size (ringOf b) := by unfold ringOf Size; split <;> simp
def JS.size (s : JS) : Int := ringOf s.short

def JS.off (s : JS) (x : Int) : Int := offset s.size s.next x
def JS.sig (s : JS) (x : Int) : Int := signed s.size s.next x
def JS.num (s : JS) (o : Int) : Int := at_ s.size s.next o

/-- The least of a list, or top. -/
def minL (top : Int) : List Int → Int
  | [] => top
  | x :: xs => min x (minL top xs)

theorem minL_le (top : Int) : ∀ (xs : List Int), minL top xs ≤ top ∧ ∀ x ∈ xs, minL top xs ≤ x
  | [] => ⟨Int.le_refl _, fun _ h => by simp at h⟩
  | y :: ys => by
    obtain ⟨h1, h2⟩ := minL_le top ys
    refine ⟨by simp only [minL]; omega, fun x hx => ?_⟩
    simp only [minL]
    rcases List.mem_cons.1 hx with rfl | hx
    · omega
    · have := h2 x hx; omega

theorem minL_mem (top : Int) : ∀ (xs : List Int), minL top xs = top ∨ minL top xs ∈ xs
  | [] => .inl rfl
  | y :: ys => by
    simp only [minL]
    rcases minL_mem top ys with h | h
    · rw [h]
      by_cases c : y ≤ top
      · exact .inr (by rw [Int.min_eq_left c]; simp)
      · exact .inl (by omega)
    · by_cases c : y ≤ minL top ys
      · exact .inr (by rw [Int.min_eq_left c]; simp)
      · exact .inr (by rw [Int.min_eq_right (by omega)]; simp [h])

theorem minL_unique {top m : Int} {xs : List Int} (h1 : m ≤ top) (h2 : ∀ x ∈ xs, m ≤ x) (h3 : m = top ∨ m ∈ xs) : m = minL top xs := by
  obtain ⟨a, b⟩ := minL_le top xs
  rcases minL_mem top xs with c | c <;> rcases h3 with d | d
  · omega
  · have := b m d; omega
  · have := h2 _ c; omega
  · have := h2 _ c; have := b m d; omega

/-- M; below 0: nothing is to be skipped. -/
def JS.upto (s : JS) : Int :=
  if s.links.any (fun p => decide (p.2 < 0)) = true then -1 else
  if minL s.size (s.links.map fun p => s.sig p.2) = s.size then -1 else minL s.size (s.links.map fun p => s.sig p.2)

/-- The least offset of what is held. -/
def JS.least (s : JS) : Int := minL s.size (s.held.map fun f => s.off f.q)

def JS.get (s : JS) (x : Int) : Option Fr := s.held.find? (fun f => f.q == x)

/-- The first fragments are let go, up to an offset. -/
def JS.letGo (s : JS) (o : Int) : JS :=
  { s with held := s.held.filter (fun f => !decide (s.off f.q < o)), lost := s.lost + ((s.held.filter (fun f => decide (s.off f.q < o))).length : Int), next := s.num o }

/-- The packet that begins next: what it has, how far it goes, is it whole? -/
def JS.pack (s : JS) : Nat → Nat → ByteArray → ByteArray × Nat × Bool
  | 0, i, _ => (⟨#[]⟩, i, false)
  | k + 1, i, acc =>
    match s.get (s.num i) with
    | none => (⟨#[]⟩, i, false)
    | some f => if i ≠ 0 ∧ f.b = true then (⟨#[]⟩, i, false) else if f.e = true then (acc ++ f.d, i + 1, true) else s.pack k (i + 1) (acc ++ f.d)

def JS.packet (s : JS) : ByteArray × Nat × Bool := s.pack (s.held.length + 1) 0 ⟨#[]⟩

/-- n fragments from next on are taken out. -/
def JS.take (s : JS) (n : Nat) : JS := { s with held := s.held.filter (fun f => !decide (s.off f.q < n)), next := s.num n }

/-- From the fragment that is next: what is told, what becomes; none: it waits. -/
def JS.first (s : JS) (f : Fr) (m : Int) : Option (List ByteArray × JS) :=
  if f.b = false then some ([], s.letGo 1) else
  match s.packet with
  | (t, n, true) => some ([t], s.take n)
  | (_, n, false) =>
    if (s.get (s.num n)).isSome = true then some ([], s.letGo n) else
    if (n : Int) ≤ m then some ([], s.letGo ((n : Int) + 1)) else none

/-- One round; none: it is done. -/
def JS.step (s : JS) : Option (List ByteArray × JS) :=
  let over : Option (List ByteArray × JS) := if (s.held.length : Int) ≤ s.most then none else some ([], s.letGo (s.least + 1))
  match s.get s.next with
  | some f => match s.first f s.upto with
    | some r => some r
    | none => over
  | none => if 0 ≤ s.upto then some ([], { s with next := s.num (min (s.upto + 1) s.least) }) else over

def JS.run : Nat → JS → List ByteArray × JS
  | 0, s => ([], s)
  | k + 1, s => match s.step with
    | none => ([], s)
    | some (o, s') => (o ++ (JS.run k s').1, (JS.run k s').2)

/-- How many rounds there may be. -/
def JS.fuel (s : JS) : Nat := 2 * s.held.length + 2

end Go.Proofs.Ytcpehjdnmhkcpaa.JoinP
