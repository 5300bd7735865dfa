/- Maps keyed by int, whatever their elements: block b holds just the pairs of a list. Laws for the walk. -/
import Derived.Maps.RangeWalk
import Derived.Maps.Ext
import Derived.WalkKit
namespace Go.Proofs.Ytcahedlgmljhkaa.IMap
open Go Go.RowKit Go.Maps

/-- Each value reads as itself, a token. -/
def tok (v : Value) : Option (DataW Value × List MemPlace) := some (.held v, [])

def kl (x : Int) : Lit := .int .i64 x

/-- What the list holds at a key. -/
def look (m : List (Int × Value)) (x : Int) : Option Value := (m.find? (fun p => p.1 == x)).map (·.2)
def del (m : List (Int × Value)) (x : Int) : List (Int × Value) := m.filter (fun p => p.1 != x)
def put (m : List (Int × Value)) (x : Int) (v : Value) : List (Int × Value) := del m x ++ [(x, v)]

/-- Block b of w is a map that holds just these pairs (no key twice). -/
structure IMap (P : Program) (K : TypeId) (w : World) (b : Nat) (m : List (Int × Value)) : Prop where
  nodup : m.Pairwise (fun p q => p.1 ≠ q.1)
  ex : ∃ D : DataW Value, w.ownsMap P K tok b m.length D ∧ (∀ x z, D.atKey (kl x) z = match look m x with | some v => .held v | none => z) ∧ Maps.size D = m.length ∧ ∀ l, Maps.has D l = true → ∃ x, l = kl x

variable {P : Program} {K : TypeId} {w : World} {b : Nat} {m : List (Int × Value)}

theorem look_none {m : List (Int × Value)} {x : Int} : look m x = none ↔ ∀ p ∈ m, p.1 ≠ x := by
  unfold look
  simp [List.find?_eq_none]

theorem look_mem {m : List (Int × Value)} {x : Int} {v : Value} (h : look m x = some v) : (x, v) ∈ m := by
  unfold look at h
  obtain ⟨p, hp, rfl⟩ := Option.map_eq_some_iff.1 h
  have h1 := List.find?_some hp
  have h2 := List.mem_of_find?_eq_some hp
  obtain ⟨a, c⟩ := p
  simp at h1
  subst h1
  exact h2

theorem look_of_mem {m : List (Int × Value)} (hn : m.Pairwise (fun p q => p.1 ≠ q.1)) {x : Int} {v : Value} (h : (x, v) ∈ m) : look m x = some v := by
  induction m with
  | nil => simp at h
  | cons p m ih =>
    obtain ⟨h1, h2⟩ := List.pairwise_cons.1 hn
    rcases List.mem_cons.1 h with e | h
    · subst e; simp [look]
    · have hne : p.1 ≠ x := h1 _ h
      have : look (p :: m) x = look m x := by simp [look, hne]
      rw [this]
      exact ih h2 h

theorem has_look {m : List (Int × Value)} {D : DataW Value} (ha : ∀ x z, D.atKey (kl x) z = match look m x with | some v => .held v | none => z) (x : Int) : Maps.has D (kl x) = (look m x).isSome := by
  cases hl : look m x with
  | none =>
    have : ∀ z, D.atKey (kl x) z = z := fun z => by rw [ha, hl]
    exact Maps.has_false_of_atKey this
  | some v =>
    have : ∀ z, D.atKey (kl x) z = .held v := fun z => by rw [ha, hl]
    exact Maps.has_true_of_atKey this

theorem look_del_same (m : List (Int × Value)) (x : Int) : look (del m x) x = none := look_none.2 (fun p hp => by simp [del] at hp; exact hp.2)

theorem look_del_other (m : List (Int × Value)) {x y : Int} (h : y ≠ x) : look (del m x) y = look m y := by
  unfold look del
  congr 1
  exact Maps.find_filter_keep (fun p hp => by simp at hp ⊢; rw [hp]; exact h) m

theorem look_append (m m' : List (Int × Value)) (x : Int) : look (m ++ m') x = (look m x).or (look m' x) := by
  unfold look
  rw [List.find?_append]
  cases m.find? (fun p => p.1 == x) <;> simp

theorem look_put_same (m : List (Int × Value)) (x : Int) (v : Value) : look (put m x v) x = some v := by
  unfold put
  rw [look_append, look_del_same]
  simp [look]

theorem look_put_other (m : List (Int × Value)) {x y : Int} (h : y ≠ x) (v : Value) : look (put m x v) y = look m y := by
  unfold put
  rw [look_append, look_del_other m h]
  have : look [(x, v)] y = none := look_none.2 (fun p hp => by simp at hp; subst hp; exact fun e => h e.symm)
  rw [this]; simp

theorem nodup_del {m : List (Int × Value)} (h : m.Pairwise (fun p q => p.1 ≠ q.1)) (x : Int) : (del m x).Pairwise (fun p q => p.1 ≠ q.1) := h.filter _

theorem nodup_put {m : List (Int × Value)} (h : m.Pairwise (fun p q => p.1 ≠ q.1)) (x : Int) (v : Value) : (put m x v).Pairwise (fun p q => p.1 ≠ q.1) := by
  unfold put
  rw [List.pairwise_append]
  refine ⟨nodup_del h x, by simp, fun p hp q hq => ?_⟩
  simp at hq
  subst hq
  simp [del] at hp
  exact hp.2

theorem length_del_none {m : List (Int × Value)} {x : Int} (h : look m x = none) : del m x = m := by
  unfold del
  rw [List.filter_eq_self]
  intro p hp
  simpa using look_none.1 h p hp

theorem length_del_some {m : List (Int × Value)} (hn : m.Pairwise (fun p q => p.1 ≠ q.1)) {x : Int} {v : Value} (h : look m x = some v) : (del m x).length + 1 = m.length := by
  induction m with
  | nil => simp [look] at h
  | cons p m ih =>
    obtain ⟨h1, h2⟩ := List.pairwise_cons.1 hn
    by_cases e : p.1 = x
    · have hnone : look m x = none := look_none.2 (fun q hq => by rw [← e]; exact (h1 q hq).symm)
      have : del (p :: m) x = del m x := by simp [del, e]
      rw [this, length_del_none hnone]
      simp
    · have hl : look (p :: m) x = look m x := by simp [look, e]
      rw [hl] at h
      have : del (p :: m) x = p :: del m x := by simp [del, e]
      rw [this]
      simp only [List.length_cons]
      rw [ih h2 h]

theorem isKey (x : Int) : WideAt.IsKeyLit (kl x) := trivial

variable {e t : TypeId}

/-- 'v, ok := m[k]'. -/
theorem IMap.look_ok (h : IMap P K w b m) (hk : Keyed P K) (hK : P.underlying K = some (.int .i64)) (ht : P.underlying t = some (.map K e)) {z : Value} (hz : (zeroValue e).run P w = .ok z w) {x : Int} (hx : (Lit.int .i64 x).wf = true) :
    (Instr.lookup t (.map (some b)) (.int .i64 x) true).run P w = .ok (.tuple #[(look m x).getD z, .bool (look m x).isSome]) w := by
  obtain ⟨D, hD, ha, hs, hkk⟩ := h.ex
  obtain ⟨v, ps, hrun, hv⟩ := hD.look_ok hk ht hz (show tok z = some (.held z, []) from rfl) (keyOf_int_mk hK hx)
  have hv' : (DataW.held v, ([] : List MemPlace)) = (D.atKey (kl x) (.held z), ps) := Option.some.inj hv
  rw [ha] at hv'
  rw [hrun]
  have hh := has_look ha x
  unfold kl at hh
  rw [hh]
  cases hl : look m x with
  | none => rw [hl] at hv'; simp at hv'; simp [hv'.1]
  | some u => rw [hl] at hv'; simp at hv'; simp [hv'.1]

/-- 'm[k]'. -/
theorem IMap.look_at (h : IMap P K w b m) (hk : Keyed P K) (hK : P.underlying K = some (.int .i64)) (ht : P.underlying t = some (.map K e)) {z : Value} (hz : (zeroValue e).run P w = .ok z w) {x : Int} (hx : (Lit.int .i64 x).wf = true) :
    (Instr.lookup t (.map (some b)) (.int .i64 x) false).run P w = .ok ((look m x).getD z) w := by
  obtain ⟨D, hD, ha, hs, hkk⟩ := h.ex
  obtain ⟨v, ps, hrun, hv⟩ := hD.lookup hk ht hz (show tok z = some (.held z, []) from rfl) (keyOf_int_mk hK hx)
  have hv' : (DataW.held v, ([] : List MemPlace)) = (D.atKey (kl x) (.held z), ps) := Option.some.inj hv
  rw [ha] at hv'
  rw [hrun]
  cases hl : look m x with
  | none => rw [hl] at hv'; simp at hv'; simp [hv'.1]
  | some u => rw [hl] at hv'; simp at hv'; simp [hv'.1]

/-- 'len(m)'. -/
theorem IMap.len (h : IMap P K w b m) (ht : P.underlying t = some (.map K e)) (ty : TypeId) : (Builtin.len_ #[t] ty #[.map (some b)]).run P w = .ok (.int .i64 m.length) w := by
  obtain ⟨D, hD, ha, hs, hkk⟩ := h.ex
  rw [hD.len ht ty, hs]

/-- What lies there, for 'len' in a region that draws. -/
theorem IMap.obj (h : IMap P K w b m) : ∃ es clock, w.heap[b]? = some (.map es clock) ∧ es.size = m.length := by
  obtain ⟨D, hD, ha, hs, hkk⟩ := h.ex
  obtain ⟨es, clock, hb, _, _, rfl⟩ := hD
  refine ⟨es, clock, hb, ?_⟩
  rw [← hs]
  simp [Maps.size, length_read]

theorem IMap.lt (h : IMap P K w b m) : b < w.heap.size := by
  obtain ⟨D, hD, _⟩ := h.ex
  exact hD.lt

theorem IMap.kept {w' : World} {row : Option Nat} (h : IMap P K w b m) (hg : w.grownBy w' row) (hne : some b ≠ row) : IMap P K w' b m := by
  obtain ⟨D, hD, r⟩ := h.ex
  exact ⟨h.nodup, D, hD.kept hg hne, r⟩

/-- 'make(map[int]T)'. -/
theorem IMap.made (w : World) (P : Program) (K : TypeId) : IMap P K (w.alloc (.map #[] 0)) w.heap.size [] :=
  ⟨List.Pairwise.nil, .map [], World.ownsMap_made w P K tok, fun x z => rfl, rfl, fun l hl => by cases hl⟩

theorem own_bound {D : DataW Value} {n n' : Nat} (h : w.ownsMap P K tok b n D) (hs : Maps.size D ≤ n') : w.ownsMap P K tok b n' D := by
  obtain ⟨es, clock, hb, F, _, rfl⟩ := h
  exact ⟨es, clock, hb, F, by simpa [Maps.size, length_sorted] using hs, rfl⟩

theorem kl_ne {x y : Int} (h : x ≠ y) : kl x ≠ kl y := fun e => h (by unfold kl at e; injection e)

/-- 'm[k] = v'. -/
theorem IMap.store (h : IMap P K w b m) (hk : Keyed P K) (hK : P.underlying K = some (.int .i64)) (ht : P.underlying t = some (.map K e)) (hn : m.length < maxLen) {x : Int} (hx : (Lit.int .i64 x).wf = true) (v : Value) :
    ∃ w', (Instr.mapUpdate t (.map (some b)) (.int .i64 x) v).run P w = .ok () w' ∧ IMap P K w' b (put m x v) ∧ w.grownBy w' (some b) := by
  obtain ⟨D, hD, ha, hs, hkk⟩ := h.ex
  obtain ⟨w', hrun, h1, h2⟩ := hD.update hk ht hn (keyOf_int_mk hK hx) (show tok v = some (.held v, []) from rfl)
  have hsz : Maps.size (D.put (kl x) (.held v)) = (put m x v).length := by
    rw [Maps.size_put (hD.tidy hk), has_look ha x]
    unfold put
    rw [List.length_append, List.length_singleton]
    cases hl : look m x with
    | none => rw [length_del_none hl, hs]; rfl
    | some u => rw [length_del_some h.nodup hl, hs]; rfl
  refine ⟨w', hrun, ⟨nodup_put h.nodup x v, D.put (kl x) (.held v), own_bound h1 (Nat.le_of_eq hsz), fun y z => ?_, hsz, fun l hl => ?_⟩, h2⟩
  · by_cases e : y = x
    · subst e; rw [look_put_same]; exact Maps.atKey_put_same hD.isMap (isKey y) _ z
    · rw [look_put_other m e, Maps.atKey_put_other (kl_ne e)]; exact ha y z
  · by_cases e : l = kl x
    · exact ⟨x, e⟩
    · rw [Maps.has_put_other e] at hl; exact hkk l hl

theorem del_agree {D : DataW Value} {m : List (Int × Value)} (hn : m.Pairwise (fun p q => p.1 ≠ q.1)) (ht : Maps.Tidy D) (ha : ∀ x z, D.atKey (kl x) z = match look m x with | some v => .held v | none => z) (hs : Maps.size D = m.length) (hkk : ∀ l, Maps.has D l = true → ∃ x, l = kl x) (x : Int) :
    (∀ y z, (D.del (kl x)).atKey (kl y) z = match look (del m x) y with | some v => .held v | none => z) ∧ Maps.size (D.del (kl x)) = (del m x).length ∧ ∀ l, Maps.has (D.del (kl x)) l = true → ∃ x, l = kl x := by
  refine ⟨fun y z => ?_, ?_, fun l hl => ?_⟩
  · by_cases e : y = x
    · subst e; rw [look_del_same]; exact Maps.atKey_del_same z
    · rw [look_del_other m e, Maps.atKey_del_other (kl_ne e)]; exact ha y z
  · have h1 := Maps.size_del (k := kl x) ht
    rw [has_look ha x] at h1
    cases hl : look m x with
    | none => rw [hl] at h1; simp at h1; rw [length_del_none hl]; omega
    | some u => rw [hl] at h1; simp at h1; have := length_del_some hn hl; omega
  · by_cases e : l = kl x
    · exact ⟨x, e⟩
    · rw [Maps.has_del_other e] at hl; exact hkk l hl

/-- 'delete(m, k)'. -/
theorem IMap.drop (h : IMap P K w b m) (hk : Keyed P K) (hK : P.underlying K = some (.int .i64)) (ht : P.underlying t = some (.map K e)) {x : Int} (hx : (Lit.int .i64 x).wf = true) (ty : TypeId) :
    ∃ w', (Builtin.delete_ #[t, K] ty #[.map (some b), .int .i64 x]).run P w = .ok (.tuple #[]) w' ∧ IMap P K w' b (del m x) ∧ w.grownBy w' (some b) := by
  obtain ⟨D, hD, ha, hs, hkk⟩ := h.ex
  obtain ⟨w', hrun, h1, h2⟩ := hD.drop hk ht (keyOf_int_mk hK hx) ty
  obtain ⟨a, c, d⟩ := del_agree h.nodup (hD.tidy hk) ha hs hkk x
  exact ⟨w', hrun, ⟨nodup_del h.nodup x, D.del (kl x), own_bound h1 (Nat.le_of_eq c), a, c, d⟩, h2.grown⟩

/-- A range over the map is under way: which keys are still to come. -/
structure IRange (P : Program) (K : TypeId) (w : World) (b r : Nat) (m : List (Int × Value)) (todo : List Int) : Prop where
  nodup : m.Pairwise (fun p q => p.1 ≠ q.1)
  ex : ∃ (D : DataW Value) (n : Nat) (left : Lit → Bool) (cnt : Nat), w.ranges P K tok b r n D left cnt ∧ (∀ x z, D.atKey (kl x) z = match look m x with | some v => .held v | none => z) ∧ Maps.size D = m.length ∧ (∀ l, Maps.has D l = true → ∃ x, l = kl x) ∧
    ∀ x, left (kl x) = decide (x ∈ todo)

theorem IRange.map {r : Nat} {todo : List Int} (h : IRange P K w b r m todo) : IMap P K w b m := by
  obtain ⟨D, n, left, cnt, hr, ha, hs, hkk, _⟩ := h.ex
  exact ⟨h.nodup, D, own_bound hr.owns (Nat.le_of_eq hs), ha, hs, hkk⟩

theorem IRange.kept {w' : World} {row : Option Nat} {r : Nat} {todo : List Int} (h : IRange P K w b r m todo) (hg : w.grownBy w' row) (hb : some b ≠ row) (hr : some r ≠ row) : IRange P K w' b r m todo := by
  obtain ⟨D, n, left, cnt, h1, rest⟩ := h.ex
  exact ⟨h.nodup, D, n, left, cnt, h1.kept hg hb hr, rest⟩

theorem IRange.ne {r : Nat} {todo : List Int} (h : IRange P K w b r m todo) : r ≠ b := by
  obtain ⟨D, n, left, cnt, h1, rest⟩ := h.ex
  exact h1.ne

theorem IRange.lt {r : Nat} {todo : List Int} (h : IRange P K w b r m todo) : r < w.heap.size := by
  obtain ⟨D, n, left, cnt, h1, rest⟩ := h.ex
  exact h1.lt

section
variable {ops : Array Oper} {rest : List Oper} {o : Oper} {a : Act} {Q : Exit → Act → World → Prop}

/-- 'range m' at the operation. -/
theorem wpList_irange (h : IMap P K w b m) (hg : o.guard = none) (mo : Operand) (t e : TypeId) (hop : o.op = Op.range t mo) (hk : Keyed P K) (ht : P.underlying t = some (.map K e)) (hm : a.eval mo = .map (some b))
    (hC : ∀ w', IRange P K w' b w.heap.size m (m.map Prod.fst) → w.grownBy w' none → w'.heap.size = w.heap.size + 1 → wpList P ops Q rest (a.put o.dst (.pointer (some ⟨w.heap.size, 0, none⟩))) w') :
    wpList P ops Q (o :: rest) a w := by
  obtain ⟨D, hD, ha, hs, hkk⟩ := h.ex
  refine wpList_range_own w hg mo t hop K e hk ht tok b m.length D hm hD ?_
  intro w' hr hgr hsz
  refine hC w' ⟨h.nodup, D, m.length, _, _, hr, ha, hs, hkk, fun x => ?_⟩ hgr hsz
  rw [has_look ha x, Bool.eq_iff_iff]
  cases hl : look m x with
  | none =>
    have := look_none.1 hl
    simp
    exact fun v hv => this _ hv rfl
  | some u =>
    have := look_mem hl
    simp
    exact ⟨u, this⟩

/-- The range's step. -/
theorem wpList_inext {r : Nat} {todo : List Int} (h : IRange P K w b r m todo) (hg : o.guard = none) (it : Operand) (hop : o.op = Op.next it false) (hk : Keyed P K) (hK : P.underlying K = some (.int .i64)) (hit : a.eval it = .pointer (some ⟨r, 0, none⟩))
    (hDone : todo = [] → wpList P ops Q rest (a.put o.dst (.tuple #[.bool false])) w)
    (hMore : ∀ (x : Int) (v : Value) (w' : World), (Lit.int .i64 x).wf = true → x ∈ todo → look m x = some v → IRange P K w' b r m (todo.filter (· != x)) → w'.rangeLeft b r < w.rangeLeft b r →
      w.grownBy w' (some r) → w'.heap.size = w.heap.size → (Instr.entry (.pointer (some ⟨r, 0, none⟩))).run P w' = .ok (.tuple #[.int .i64 x, v]) w' → wpList P ops Q rest (a.put o.dst (.tuple #[.bool true, .int .i64 x, v])) w') :
    wpList P ops Q (o :: rest) a w := by
  obtain ⟨D, n, left, cnt, hr, ha, hs, hkk, hl⟩ := h.ex
  refine wpList_next_ranges w hg it hop K hk tok (Value.int .i64) id (fun key kl' hkey => by obtain ⟨x, rfl, _⟩ := Maps.keyOf_int_inv hK hkey; exact ⟨x, rfl⟩) (fun v y _ => ⟨v, rfl⟩) b r n D left cnt hit hr ?_ ?_
  · intro _ hno
    refine hDone ?_
    rw [List.eq_nil_iff_forall_not_mem]
    intro x hx
    have := hl x
    rw [hno, decide_eq_true hx] at this
    cases this
  · intro x v kl' y w' cnt' hkey hlx hv hat hr' hlt hgr hsz hen
    obtain ⟨x', ex, rfl, hwx⟩ := Maps.keyOf_int_inv hK hkey
    injection ex with _ ex
    subst ex
    have hvy : y = (.held v, []) := (Option.some.inj hv).symm
    have hmem : x ∈ todo := by
      have := hl x
      unfold kl at this
      rw [hlx] at this
      exact of_decide_eq_true this.symm
    have hlook : look m x = some v := by
      have h1 := hat .nil
      have h2 := ha x .nil
      unfold kl at h2
      rw [h1, hvy] at h2
      cases hl' : look m x with
      | none => rw [hl'] at h2; simp at h2
      | some u => rw [hl'] at h2; simp at h2; rw [h2]
    refine hMore x v w' hwx hmem hlook ⟨h.nodup, D, n, _, cnt', hr', ha, hs, hkk, fun z => ?_⟩ (by rw [hr'.left_eq, hr.left_eq]; exact hlt) hgr hsz hen
    have hlz := hl z
    unfold kl at hlz ⊢
    rw [hlz, Bool.eq_iff_iff]
    by_cases e : z = x
    · subst e
      have : (Lit.int IntKind.i64 z).sameKey (.int .i64 z) = true := WideAt.sameKey_self (isKey z)
      simp [this]
    · have : (Lit.int IntKind.i64 z).sameKey (.int .i64 x) = false := Maps.sameKey_ne (kl_ne e)
      simp [this, e]

/-- 'v, ok := m[k]' at the operation. -/
theorem wpList_ilook_ok (h : IMap P K w b m) (hg : o.guard = none) (mo xo : Operand) (t e : TypeId) (hop : o.op = Op.lookup t mo xo true) (hk : Keyed P K) (hK : P.underlying K = some (.int .i64)) (ht : P.underlying t = some (.map K e)) (z : Value) (hz : (zeroValue e).run P w = .ok z w)
    (hm : a.eval mo = .map (some b)) (x : Int) (hx : a.eval xo = .int .i64 x) (hwx : (Lit.int .i64 x).wf = true)
    (hC : wpList P ops Q rest (a.put o.dst (.tuple #[(look m x).getD z, .bool (look m x).isSome])) w) : wpList P ops Q (o :: rest) a w := by
  refine wpList_plain hg fun K' hK' => ?_
  have hrun := h.look_ok hk hK ht hz hwx
  unfold Oper.wp
  simp only [execOp, hop, hm, hx]
  simp [hrun, Result.andThen]
  exact hK' _ _ hC

/-- 'm[k]' at the operation. -/
theorem wpList_ilook (h : IMap P K w b m) (hg : o.guard = none) (mo xo : Operand) (t e : TypeId) (hop : o.op = Op.lookup t mo xo false) (hk : Keyed P K) (hK : P.underlying K = some (.int .i64)) (ht : P.underlying t = some (.map K e)) (z : Value) (hz : (zeroValue e).run P w = .ok z w)
    (hm : a.eval mo = .map (some b)) (x : Int) (hx : a.eval xo = .int .i64 x) (hwx : (Lit.int .i64 x).wf = true)
    (hC : wpList P ops Q rest (a.put o.dst ((look m x).getD z)) w) : wpList P ops Q (o :: rest) a w := by
  refine wpList_plain hg fun K' hK' => ?_
  have hrun := h.look_at hk hK ht hz hwx
  unfold Oper.wp
  simp only [execOp, hop, hm, hx]
  simp [hrun, Result.andThen]
  exact hK' _ _ hC

/-- 'len(m)' at the operation. -/
theorem wpList_ilen (h : IMap P K w b m) (hg : o.guard = none) (mo : Operand) (t e : TypeId) (hop : o.op = Op.call { callee := Callee.builtin Builtin.len, args := #[mo], argTypes := #[t] }) (ht : P.underlying t = some (.map K e)) (hm : a.eval mo = .map (some b))
    (hC : wpList P ops Q rest (a.put o.dst (.int .i64 m.length)) w) : wpList P ops Q (o :: rest) a w := by
  refine wpList_plain hg fun K' hK' => ?_
  unfold Oper.wp
  simp [execOp, hop, resolve, invoke, builtin, hm, h.len ht o.type, Result.andThen]
  exact hK' _ _ hC

/-- 'm[k] = v' at the operation. -/
theorem wpList_istore (h : IMap P K w b m) (hg : o.guard = none) (mo xo vo : Operand) (t e : TypeId) (hop : o.op = Op.mapUpdate t mo xo vo) (hk : Keyed P K) (hK : P.underlying K = some (.int .i64)) (ht : P.underlying t = some (.map K e)) (hn : m.length < maxLen)
    (hm : a.eval mo = .map (some b)) (x : Int) (hx : a.eval xo = .int .i64 x) (hwx : (Lit.int .i64 x).wf = true) (v : Value) (hv : a.eval vo = v)
    (hC : ∀ w', IMap P K w' b (put m x v) → w.grownBy w' (some b) → wpList P ops Q rest (a.put o.dst undef) w') : wpList P ops Q (o :: rest) a w := by
  refine wpList_plain hg fun K' hK' => ?_
  obtain ⟨w', hrun, r1, r2⟩ := h.store hk hK ht hn hwx v
  unfold Oper.wp
  simp [execOp, hop, hm, hx, hv, hrun, Result.andThen]
  exact hK' _ _ (hC w' r1 r2)

/-- 'delete(m, k)' at the operation. -/
theorem wpList_idelete (h : IMap P K w b m) (hg : o.guard = none) (mo xo : Operand) (t e : TypeId) (hop : o.op = Op.call { callee := Callee.builtin Builtin.delete, args := #[mo, xo], argTypes := #[t, K] }) (hk : Keyed P K) (hK : P.underlying K = some (.int .i64)) (ht : P.underlying t = some (.map K e))
    (hm : a.eval mo = .map (some b)) (x : Int) (hx : a.eval xo = .int .i64 x) (hwx : (Lit.int .i64 x).wf = true)
    (hC : ∀ w', IMap P K w' b (del m x) → w.grownBy w' (some b) → wpList P ops Q rest (a.put o.dst (.tuple #[])) w') : wpList P ops Q (o :: rest) a w := by
  refine wpList_plain hg fun K' hK' => ?_
  obtain ⟨w', hrun, r1, r2⟩ := h.drop hk hK ht hwx o.type
  unfold Oper.wp
  simp [execOp, hop, resolve, invoke, builtin, hm, hx, hrun, Result.andThen]
  exact hK' _ _ (hC w' r1 r2)

/-- The same at a step of a region that draws its order. -/
theorem step_idelete {K' : Act → World → Prop} {E : Prop} (h : IMap P K w b m) (hg : o.guard = none) (mo xo : Operand) (t e : TypeId) (hop : o.op = Op.call { callee := Callee.builtin Builtin.delete, args := #[mo, xo], argTypes := #[t, K] }) (hk : Keyed P K) (hK : P.underlying K = some (.int .i64)) (ht : P.underlying t = some (.map K e))
    (hm : a.eval mo = .map (some b)) (x : Int) (hx : a.eval xo = .int .i64 x) (hwx : (Lit.int .i64 x).wf = true)
    (hC : ∀ w', IMap P K w' b (del m x) → w.grownBy w' (some b) → K' (a.put o.dst (.tuple #[])) w') :
    if Region.wanted o (yielded ops a.tmps) = true then Oper.wp P o a w K' Q else E := by
  have hw : Region.wanted o (yielded ops a.tmps) = true := by simp [Region.wanted, hg]
  rw [if_pos hw]
  obtain ⟨w', hrun, r1, r2⟩ := h.drop hk hK ht hwx o.type
  unfold Oper.wp
  simp [execOp, hop, resolve, invoke, builtin, hm, hx, hrun, Result.andThen]
  exact hC w' r1 r2

/-- 'delete(m, k)' in the round of a range over m, of a key that has come. -/
theorem wpList_idelete_range {r : Nat} {todo : List Int} (h : IRange P K w b r m todo) (hg : o.guard = none) (mo xo : Operand) (t e : TypeId) (hop : o.op = Op.call { callee := Callee.builtin Builtin.delete, args := #[mo, xo], argTypes := #[t, K] }) (hk : Keyed P K) (hK : P.underlying K = some (.int .i64)) (ht : P.underlying t = some (.map K e))
    (hm : a.eval mo = .map (some b)) (x : Int) (hx : a.eval xo = .int .i64 x) (hwx : (Lit.int .i64 x).wf = true) (hnot : x ∉ todo)
    (hC : ∀ w', IRange P K w' b r (del m x) todo → w'.rangeLeft b r ≤ w.rangeLeft b r → w.grownBy w' (some b) → wpList P ops Q rest (a.put o.dst (.tuple #[])) w') : wpList P ops Q (o :: rest) a w := by
  refine wpList_plain hg fun K' hK' => ?_
  obtain ⟨D, n, left, cnt, hr, ha, hs, hkk, hl⟩ := h.ex
  obtain ⟨w', cnt', hrun, r1, r2, r3⟩ := hr.drop hk ht (keyOf_int_mk hK hwx) o.type
  obtain ⟨c1, c2, c3⟩ := del_agree h.nodup (hr.owns.tidy hk) ha hs hkk x
  unfold Oper.wp
  simp [execOp, hop, resolve, invoke, builtin, hm, hx, hrun, Result.andThen]
  refine hK' _ _ (hC w' ⟨nodup_del h.nodup x, _, n, _, cnt', r1, c1, c2, c3, fun z => ?_⟩ (by rw [r1.left_eq, hr.left_eq]; exact r2) r3.grown)
  have hlz := hl z
  unfold kl at hlz ⊢
  rw [hlz, Bool.eq_iff_iff]
  by_cases e : z = x
  · subst e
    simp [hnot]
  · have : (Lit.int IntKind.i64 z).sameKey (.int .i64 x) = false := Maps.sameKey_ne (kl_ne e)
    simp [this]

end

end Go.Proofs.Ytcahedlgmljhkaa.IMap
