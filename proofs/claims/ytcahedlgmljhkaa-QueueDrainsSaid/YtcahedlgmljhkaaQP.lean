/- The queue as plain data: what each method does, without memory. -/
import Derived.Test.YtcahedlgmljhkaaPlain
namespace Go.Proofs.Ytcahedlgmljhkaa.QP
open Go Go.RowKit Go.Proofs.Ytcahedlgmljhkaa.Plain

/-- A fragment. -/
structure Fr where
  b : Bool
  e : Bool
  q : Int
  d : ByteArray

def Fr.val (f : Fr) : Value := .agg #[.bool f.b, .bool f.e, .int .i64 f.q, .string f.d]
def Fr.none : Fr := ⟨false, false, 0, ⟨#[]⟩⟩

/-- A fragment that waits, and its packet's number. -/
structure Wt where
  f : Fr
  p : Nat

def Wt.cells (x : Wt) : List Value := [.bool x.f.b, .bool x.f.e, .int .i64 x.f.q, .string x.f.d, .int .i64 x.p]

/-- A queue. -/
structure QS where
  size : Nat
  short : Bool
  seq : Int
  packets : List ByteArray
  cut : Nat
  opens : List (Int × Int)
  keys : List Int
  drains : Int → Bool
  waits : Int → List Wt

def ringOf (b : Bool) : Int := if b = true then 4096 else 16777216
theorem ringOf_size (b : Bool) : 4096 ≤ ringOf b ∧ ringOf b ≤ 16777216 := by unfold ringOf; split <;> simp

/-- Into how many fragments a packet is cut. -/
def pieces (z : Nat) (t : ByteArray) : Nat := (t.size + z - 1) / z

/-- The fragment at a place. -/
def frag (t : ByteArray) (z n : Nat) (seq ring : Int) (i : Nat) : Fr := ⟨i == 0, i + 1 == n, (seq + i) % ring, t.extract (i * z) (min ((i + 1) * z) t.size)⟩

/-! ### Sorted -/

def ins (x : Int) : List Int → List Int
  | [] => [x]
  | y :: ys => if x ≤ y then x :: y :: ys else y :: ins x ys
def isort : List Int → List Int
  | [] => []
  | x :: xs => ins x (isort xs)

theorem ins_perm (x : Int) : ∀ ys, (ins x ys).Perm (x :: ys)
  | [] => List.Perm.refl _
  | y :: ys => by
    unfold ins
    split
    · exact List.Perm.refl _
    · exact ((ins_perm x ys).cons y).trans (List.Perm.swap _ _ _)
theorem isort_perm : ∀ xs, (isort xs).Perm xs
  | [] => List.Perm.refl _
  | x :: xs => (ins_perm x _).trans ((isort_perm xs).cons x)
theorem ins_sorted (x : Int) : ∀ ys, ys.Pairwise (· ≤ ·) → (ins x ys).Pairwise (· ≤ ·)
  | [], _ => by simp [ins]
  | y :: ys, h => by
    obtain ⟨h1, h2⟩ := List.pairwise_cons.1 h
    unfold ins
    split
    · rename_i c
      exact List.pairwise_cons.2 ⟨fun a ha => by
        rcases List.mem_cons.1 ha with rfl | ha
        · exact c
        · have := h1 a ha; omega, h⟩
    · rename_i c
      refine List.pairwise_cons.2 ⟨fun a ha => ?_, ins_sorted x ys h2⟩
      rcases List.mem_cons.1 ((ins_perm x ys).mem_iff.1 ha) with rfl | ha
      · omega
      · exact h1 a ha
theorem isort_sorted : ∀ xs, (isort xs).Pairwise (· ≤ ·)
  | [] => List.Pairwise.nil
  | x :: xs => ins_sorted x _ (isort_sorted xs)

theorem sorted_unique : ∀ {xs ys : List Int}, xs.Perm ys → xs.Pairwise (· ≤ ·) → ys.Pairwise (· ≤ ·) → xs = ys
  | [], ys, h, _, _ => (List.nil_perm.1 h).symm
  | x :: xs, [], h, _, _ => by have := h.length_eq; simp at this
  | x :: xs, y :: ys, h, h1, h2 => by
    obtain ⟨a1, a2⟩ := List.pairwise_cons.1 h1
    obtain ⟨b1, b2⟩ := List.pairwise_cons.1 h2
    have e : x = y := by
      have hx : x ∈ y :: ys := h.mem_iff.1 (by simp)
      have hy : y ∈ x :: xs := h.mem_iff.2 (by simp)
      rcases List.mem_cons.1 hx with rfl | hx
      · rfl
      · rcases List.mem_cons.1 hy with rfl | hy
        · rfl
        · have := b1 x hx
          have := a1 y hy
          omega
    subst e
    rw [sorted_unique (List.perm_cons x |>.1 h) a2 b2]
theorem isort_of {xs ys : List Int} (h : ys.Perm xs) (hs : ys.Pairwise (· ≤ ·)) : ys = isort xs := sorted_unique (h.trans (isort_perm xs).symm) hs (isort_sorted xs)

/-! ### Each method -/

/-- The links that do not drain, from x on, round. -/
def QS.row (s : QS) (x : Int) : List Int := isort (s.keys.filter fun k => !s.drains k && !decide (k < x)) ++ isort (s.keys.filter fun k => !s.drains k && decide (k < x))

def upd {α : Type} (W : Int → α) (k : Int) (v : α) : Int → α := fun j => if j = k then v else W j
theorem upd_same {α : Type} (W : Int → α) (k : Int) (v : α) : upd W k v k = v := if_pos rfl
theorem upd_other {α : Type} (W : Int → α) {k j : Int} (v : α) (h : j ≠ k) : upd W k v j = W j := if_neg h

/-- i fragments are dealt to a row of links. -/
def deals (row : List Int) (fs : Nat → Fr) (p : Nat) (W : Int → List Wt) : Nat → (Int → List Wt)
  | 0 => W
  | i + 1 => upd (deals row fs p W i) (row.getD (i % row.length) 0) (deals row fs p W i (row.getD (i % row.length) 0) ++ [⟨fs i, p⟩])

def lkp (m : List (Int × Int)) (x : Int) : Option Int := (m.find? (fun p => p.1 == x)).map (·.2)
def dlt (m : List (Int × Int)) (x : Int) : List (Int × Int) := m.filter (fun p => p.1 != x)
def pst (m : List (Int × Int)) (x v : Int) : List (Int × Int) := dlt m x ++ [(x, v)]

def QS.deal (s : QS) (x : Int) : QS :=
  { s with
    waits := deals (s.row x) (frag (s.packets.headD ⟨#[]⟩) s.size (pieces s.size (s.packets.headD ⟨#[]⟩)) s.seq (ringOf s.short)) s.cut s.waits (pieces s.size (s.packets.headD ⟨#[]⟩))
    opens := pst s.opens s.cut (pieces s.size (s.packets.headD ⟨#[]⟩))
    cut := s.cut + 1
    packets := s.packets.tail
    seq := (s.seq + pieces s.size (s.packets.headD ⟨#[]⟩)) % ringOf s.short }

def QS.has (s : QS) (x : Int) : Bool := s.keys.any (· == x)
/-- Behind Peek. -/
def QS.peek (s : QS) (x : Int) : QS := if s.waits x = [] then s.deal x else s
def QS.takeNum (s : QS) (x : Int) : Int := if s.has x = true then (if s.waits x = [] ∧ (s.drains x = true ∨ s.packets = []) then 2003 else 0) else 2002
/-- One is taken off a packet's count; none left: it is closed. -/
def less (m : List (Int × Int)) (p : Int) : List (Int × Int) := if (lkp m p).getD 0 - 1 = 0 then dlt (pst m p ((lkp m p).getD 0 - 1)) p else pst m p ((lkp m p).getD 0 - 1)
def QS.pop (s : QS) (x : Int) : QS := { s with waits := upd s.waits x (s.waits x).tail, opens := less s.opens ((s.waits x).headD ⟨Fr.none, 0⟩).p }
def QS.took (s : QS) (x : Int) : Fr := if s.takeNum x = 0 then ((s.peek x).waits x |>.headD ⟨Fr.none, 0⟩).f else Fr.none
def QS.take (s : QS) (x : Int) : QS := if s.takeNum x = 0 then (s.peek x).pop x else s

def QS.len (s : QS) : Nat := s.packets.length + s.opens.length
def QS.many (s : QS) (x : Int) : Nat := if s.has x = true then (s.waits x).length else 0
def QS.addNum (s : QS) (x : Int) : Int := if x < 0 ∨ s.has x = true then 2000 else if 8 ≤ s.keys.length then 2001 else 0
def QS.add (s : QS) (x : Int) : QS := if s.addNum x = 0 then { s with keys := s.keys ++ [x], drains := upd s.drains x false, waits := upd s.waits x [] } else s
def QS.drainNum (s : QS) (x : Int) : Int := if s.has x = true then 0 else 2002
def QS.drain (s : QS) (x : Int) : QS := if s.has x = true then { s with drains := upd s.drains x true } else s
def QS.dropNum (s : QS) (x : Int) : Int := if s.has x = true then (if s.waits x = [] then 0 else 2003) else 2002
def QS.drop (s : QS) (x : Int) : QS := if s.dropNum x = 0 then { s with keys := s.keys.filter (· != x) } else s
def okPk (z : Nat) (t : ByteArray) : Bool := decide (1 ≤ t.size) && (decide (t.size ≤ 1500) && decide (pieces z t ≤ 64))
def QS.subNum (s : QS) (t : ByteArray) : Int := if okPk s.size t = true then (if 64 ≤ s.len then 2001 else 0) else 2000
def QS.sub (s : QS) (t : ByteArray) : QS := if s.subNum t = 0 then { s with packets := s.packets ++ [t] } else s
def QS.new (z : Nat) (short : Bool) : QS := ⟨z, short, 0, [], 0, [], [], fun _ => false, fun _ => []⟩

theorem okPk_spec {z : Nat} {t : ByteArray} : okPk z t = true ↔ 1 ≤ t.size ∧ t.size ≤ 1500 ∧ pieces z t ≤ 64 := by unfold okPk; simp
theorem has_spec {s : QS} {x : Int} : s.has x = true ↔ x ∈ s.keys := by unfold QS.has; simp

end Go.Proofs.Ytcahedlgmljhkaa.QP
