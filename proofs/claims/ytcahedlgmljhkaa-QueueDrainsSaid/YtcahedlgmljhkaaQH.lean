/- The queue as the laws meet it: where it lies is nobody's concern. -/
import Derived.Test.YtcahedlgmljhkaaQT
namespace Go.Proofs.Ytcahedlgmljhkaa.QH
open Go Go.RowKit Go.Maps Go.Proofs.Ytcahedlgmljhkaa.Mem Go.Proofs.Ytcahedlgmljhkaa.Plain Go.Proofs.Ytcahedlgmljhkaa.IMap Go.Proofs.Ytcahedlgmljhkaa.RowAt Go.Proofs.Ytcahedlgmljhkaa.QP Go.Proofs.Ytcahedlgmljhkaa.QG Go.Proofs.Ytcahedlgmljhkaa.QA Go.Proofs.Ytcahedlgmljhkaa.QB Go.Proofs.Ytcahedlgmljhkaa.QC Go.Proofs.Ytcahedlgmljhkaa.QR Go.Proofs.Ytcahedlgmljhkaa.QD Go.Proofs.Ytcahedlgmljhkaa.QE Go.Proofs.Ytcahedlgmljhkaa.QF Go.Proofs.Ytcahedlgmljhkaa.QT

/-- A queue at block q, all of it from B on; the blocks F are others'. Below B nothing has changed since w0. -/
def At (q B : Nat) (w0 w : World) (s : QS) (F : List Nat) : Prop :=
  ∃ m, QRep w m s ∧ m.q = q ∧ Below B w0 w ∧ (∀ b, own m s b → B ≤ b) ∧ (∀ b ∈ F, b < w.heap.size ∧ ¬ own m s b) ∧ B ≤ w.heap.size

variable {q B : Nat} {w0 w w' : World} {s : QS} {F : List Nat} {n : Nat} {x : Int}

theorem At.below (h : At q B w0 w s F) : Below B w0 w := by obtain ⟨m, a, b, c, d⟩ := h; exact c
theorem At.lt (h : At q B w0 w s F) : q < w.heap.size := by obtain ⟨m, a, rfl, c, d⟩ := h; exact a.blk.lt
theorem At.base (h : At q B w0 w s F) : B ≤ w.heap.size := by obtain ⟨m, a, b, c, d, e, f⟩ := h; exact f

theorem below_grown {row : Option Nat} (hb : Below B w0 w) (g : w.grownBy w' row) (hB : B ≤ w.heap.size) (hr : ∀ b, row = some b → B ≤ b) : Below B w0 w' := hb.grown g hB hr

/-- Something else happens: to a block that is others', or new. -/
theorem At.grown {row : Option Nat} (h : At q B w0 w s F) (g : w.grownBy w' row) (hr : ∀ b, row = some b → b ∈ F ∧ B ≤ b) : At q B w0 w' s F := by
  obtain ⟨m, a, b, c, d, e, f⟩ := h
  refine ⟨m, a.kept g (fun k hk e1 => (e k (hr k e1.symm).1).2 hk), b, c.grown g f (fun k hk => (hr k hk).2), d, fun k hk => ⟨Nat.lt_of_lt_of_le (e k hk).1 g.size, (e k hk).2⟩, Nat.le_trans f g.size⟩
theorem At.drewN (h : At q B w0 w s F) (k : Nat) : At q B w0 (w.drewN k) s F := h.grown (row := none) (grown_drewN (grown_refl _ _) k) (by simp)
theorem At.alloc (h : At q B w0 w s F) (o : Obj) : At q B w0 (w.alloc o) s (w.heap.size :: F) := by
  obtain ⟨m, a, b, c, d, e, f⟩ := h.grown (row := none) (grown_alloc (grown_refl w none) o) (by simp)
  obtain ⟨m0, a0, b0, c0, d0, e0, f0⟩ := h
  refine ⟨m0, a0.grown (grown_alloc (grown_refl w none) o), b0, c, d0, fun k hk => ?_, f⟩
  rcases List.mem_cons.1 hk with rfl | hk
  · exact ⟨by simp, fun ho => by have := a0.own_lt _ ho; omega⟩
  · exact ⟨by simp; have := (e0 k hk).1; omega, (e0 k hk).2⟩
theorem At.sub (h : At q B w0 w s F) {F' : List Nat} (hF : ∀ b ∈ F', b ∈ F) : At q B w0 w s F' := by
  obtain ⟨m, a, b, c, d, e, f⟩ := h
  exact ⟨m, a, b, c, d, fun k hk => e k (hF k hk), f⟩
theorem At.below' (h : At q B w0 w s F) (hb : Below w.heap.size w w') : At q B w0 w' s F := h.grown (row := none) (QA.grown_below hb) (by simp)

/-- A block that is new is others'. -/
theorem At.more (h : At q B w0 w s F) (g : w.grownBy w' none) {b : Nat} (h1 : w.heap.size ≤ b) (h2 : b < w'.heap.size) : At q B w0 w' s (b :: F) := by
  obtain ⟨m, a, e, c, d, f, i⟩ := h
  refine ⟨m, a.grown g, e, c.grown g i (by simp), d, fun k hk => ?_, Nat.le_trans i g.size⟩
  rcases List.mem_cons.1 hk with rfl | hk
  · exact ⟨h2, fun ho => by have := a.own_lt _ ho; omega⟩
  · exact ⟨Nat.lt_of_lt_of_le (f k hk).1 g.size, (f k hk).2⟩

/-- What a method leaves. -/
def Lft (q B : Nat) (w0 w : World) (s' : QS) (F : List Nat) (v : Value) (e : Ending) (w' : World) : Prop :=
  e = .returned v ∧ At q B w0 w' s' F ∧ (∀ b ∈ F, w'.heap[b]? = w.heap[b]?) ∧ w.heap.size ≤ w'.heap.size

theorem left_of {m m' : QM} {s' : QS} {v : Value} {e : Ending} (hm : Below B w0 w) (hB : B ≤ w.heap.size) (ho : ∀ b, own m s b → B ≤ b) (hF : ∀ b ∈ F, b < w.heap.size ∧ ¬ own m s b) (hq : m.q = q)
    (h1 : e = .returned v) (h2 : QRep w' m' s') (h3 : Mq (own m s) (own m' s') w w') (h4 : m'.q = m.q) : Lft q B w0 w s' F v e w' :=
  ⟨h1, ⟨m', h2, h4.trans hq, hm.trans (h3.to_below hB ho), h3.own_above hB ho, fun b hb => ⟨Nat.lt_of_lt_of_le (hF b hb).1 h3.size, fun h5 => by
    rcases h3.new b h5 with h6 | h6
    · exact (hF b hb).2 h6
    · have := (hF b hb).1; omega⟩, Nat.le_trans hB h3.size⟩, fun b hb => h3.block b (hF b hb).1 (hF b hb).2, h3.size⟩

theorem new_at (z : Nat) (short : Bool) (w : World) (h0 : 1 ≤ z) (h1 : z ≤ 1500) :
    Calls Try.prog 8 #[.int .i64 z, .bool short] w fun e w' => ∃ q, e = .returned (.tuple #[.pointer (some ⟨q, 0, none⟩), .int .i64 0]) ∧ At q w.heap.size w w' (QS.new z short) [] :=
  (new_calls z short w h0 h1).mono fun e w' ⟨m, he, hr, hb, ho⟩ => ⟨m.q, he, m, hr, rfl, hb, ho, fun b hb => (by cases hb), hb.size⟩

theorem add_at (h : At q B w0 w s F) (hkn : s.keys.length ≤ 8) (hw : (Lit.int .i64 x).wf = true) : Calls Try.prog 10 #[.pointer (some ⟨q, 0, none⟩), .int .i64 x] w (Lft q B w0 w (s.add x) F (.int .i64 (s.addNum x))) := by
  obtain ⟨m, a, rfl, c, d, e, f⟩ := h
  exact (add_calls a hkn hw).mono fun e1 w1 ⟨m', h1, h2, h3, h4⟩ => left_of c f d e rfl h1 h2 h3 h4
theorem sub_at (h : At q B w0 w s F) (G : QG.Good s n) (t : ByteArray) : Calls Try.prog 11 #[.pointer (some ⟨q, 0, none⟩), .string t] w (Lft q B w0 w (s.sub t) F (.int .i64 (s.subNum t))) := by
  obtain ⟨m, a, rfl, c, d, e, f⟩ := h
  exact (sub_calls t a G).mono fun e1 w1 ⟨m', h1, h2, h3, h4⟩ => left_of c f d e rfl h1 h2 h3 h4
theorem take_at (h : At q B w0 w s F) (G : QG.Good s n) (hn : n ≤ 1000000) (hw : (Lit.int .i64 x).wf = true) : Calls Try.prog 12 #[.pointer (some ⟨q, 0, none⟩), .int .i64 x] w (Lft q B w0 w (s.take x) F (.tuple #[(s.took x).val, .int .i64 (s.takeNum x)])) := by
  obtain ⟨m, a, rfl, c, d, e, f⟩ := h
  exact (take_calls a G hn hw).mono fun e1 w1 ⟨m', h1, h2, h3, h4⟩ => left_of c f d e rfl h1 h2 h3 h4
theorem drain_at (h : At q B w0 w s F) (hw : (Lit.int .i64 x).wf = true) : Calls Try.prog 14 #[.pointer (some ⟨q, 0, none⟩), .int .i64 x] w (Lft q B w0 w (s.drain x) F (.int .i64 (s.drainNum x))) := by
  obtain ⟨m, a, rfl, c, d, e, f⟩ := h
  exact (drain_calls a hw).mono fun e1 w1 ⟨h1, h2, h3⟩ => left_of c f d e rfl h1 h2 h3 rfl
theorem drop_at (h : At q B w0 w s F) (hw : (Lit.int .i64 x).wf = true) : Calls Try.prog 15 #[.pointer (some ⟨q, 0, none⟩), .int .i64 x] w (Lft q B w0 w (s.drop x) F (.int .i64 (s.dropNum x))) := by
  obtain ⟨m, a, rfl, c, d, e, f⟩ := h
  exact (drop_calls a hw).mono fun e1 w1 ⟨h1, h2, h3⟩ => left_of c f d e rfl h1 h2 h3 rfl
theorem waits_at (h : At q B w0 w s F) (hw : (Lit.int .i64 x).wf = true) : Calls Try.prog 13 #[.pointer (some ⟨q, 0, none⟩), .int .i64 x] w fun e w' => e = .returned (.int .i64 (s.many x)) ∧ w = w' := by
  obtain ⟨m, a, rfl, c, d, e, f⟩ := h
  exact waits_calls a hw
theorem len_at (h : At q B w0 w s F) (hs : s.len ≤ 1000) : Calls Try.prog 16 #[.pointer (some ⟨q, 0, none⟩)] w fun e w' => e = .returned (.int .i64 s.len) ∧ ∃ k, w' = w.drewN k := by
  obtain ⟨m, a, rfl, c, d, e, f⟩ := h
  exact len_calls a hs

end Go.Proofs.Ytcahedlgmljhkaa.QH
