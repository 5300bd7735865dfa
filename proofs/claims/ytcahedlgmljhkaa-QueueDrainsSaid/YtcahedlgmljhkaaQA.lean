/- The queue in memory; the walks of the small methods. -/
import Derived.Test.YtcahedlgmljhkaaQG
import Derived.Test.YtcahedlgmljhkaaIMap
import Derived.Test.YtcahedlgmljhkaaRowAt
import Derived.Test.YtcahedlgmljhkaaProg
import Derived.Lib.Hide
import Derived.Deep.QuietTactic
import Derived.BigQuiet
import Derived.Laws.Entries
namespace Go.Proofs.Ytcahedlgmljhkaa.QA
open Go Go.RowKit Go.Maps Go.Proofs.Ytcahedlgmljhkaa.Mem Go.Proofs.Ytcahedlgmljhkaa.Plain Go.Proofs.Ytcahedlgmljhkaa.IMap Go.Proofs.Ytcahedlgmljhkaa.RowAt Go.Proofs.Ytcahedlgmljhkaa.QP Go.Proofs.Ytcahedlgmljhkaa.QG

theorem law3 : Keyed Try.prog 3 := int_keyed Try.underlying3
theorem zero3 (w : World) : (zeroValue 3).run Try.prog w = .ok (.int .i64 0) w := by kernel_rfl
theorem zero49 (w : World) : (zeroValue 49).run Try.prog w = .ok (.pointer none) w := by kernel_rfl

/-- Where a queue lies. -/
structure QM where
  q : Nat
  bo : Nat
  bm : Nat
  pv : Value
  lp : Int → Nat
  wv : Int → Value

def lane (m : QM) (k : Int) : Value := .pointer (some ⟨m.lp k, 0, none⟩)
def cells (m : QM) (s : QS) : Array Value := #[.int .i64 s.size, .bool s.short, .int .i64 s.seq, m.pv, .int .i64 s.cut, .map (some m.bo), .map (some m.bm)]
def openPairs (s : QS) : List (Int × Value) := s.opens.map fun p => (p.1, .int .i64 p.2)
def lanePairs (m : QM) (s : QS) : List (Int × Value) := s.keys.map fun k => (k, lane m k)
def flat (l : List Wt) : List Value := l.flatMap Wt.cells

structure QRep (w : World) (m : QM) (s : QS) : Prop where
  blk : Blk w m.q (cells m s) 48
  pk : RowAt w 0 9 1 m.pv s.packets.length (s.packets.map .string)
  op : IMap Try.prog 3 w m.bo (openPairs s)
  ln : IMap Try.prog 3 w m.bm (lanePairs m s)
  ne : m.bo ≠ m.bm
  lane : ∀ k ∈ s.keys, Blk w (m.lp k) #[m.wv k, .bool (s.drains k)] 52
  row : ∀ k ∈ s.keys, RowAt w 0 55 5 (m.wv k) (s.waits k).length (flat (s.waits k))
  inj : ∀ k ∈ s.keys, ∀ j ∈ s.keys, k ≠ j → m.lp k ≠ m.lp j
  apart : ∀ k ∈ s.keys, ∀ j ∈ s.keys, k ≠ j → ∀ b, (m.wv k).ownBlock = some b → (m.wv j).ownBlock ≠ some b

/-- The blocks that are the queue's own. -/
def own (m : QM) (s : QS) (b : Nat) : Prop := b = m.q ∨ b = m.bo ∨ b = m.bm ∨ m.pv.ownBlock = some b ∨ ∃ k ∈ s.keys, b = m.lp k ∨ (m.wv k).ownBlock = some b

/-- w' is w but for what is o's and what is new; what is o' s now was o's, or is new. -/
structure Mq (o o' : Nat → Prop) (w w' : World) : Prop where
  os : w'.os = w.os
  tape : w'.tape = w.tape
  output : w'.output = w.output
  size : w.heap.size ≤ w'.heap.size
  block : ∀ k, k < w.heap.size → ¬ o k → w'.heap[k]? = w.heap[k]?
  new : ∀ k, o' k → o k ∨ w.heap.size ≤ k

theorem Mq.refl (o : Nat → Prop) (w : World) : Mq o o w w := ⟨rfl, rfl, rfl, Nat.le_refl _, fun _ _ _ => rfl, fun _ h => .inl h⟩
theorem Mq.trans {o o' o'' : Nat → Prop} {w w' w'' : World} (h : Mq o o' w w') (k : Mq o' o'' w' w'') : Mq o o'' w w'' :=
  ⟨k.os.trans h.os, k.tape.trans h.tape, k.output.trans h.output, Nat.le_trans h.size k.size, fun i hi hno => (k.block i (Nat.lt_of_lt_of_le hi h.size) (fun ho => by
    rcases h.new i ho with h1 | h1
    · exact hno h1
    · omega)).trans (h.block i hi hno), fun i hi => by
    rcases k.new i hi with h1 | h1
    · exact h.new i h1
    · exact .inr (Nat.le_trans h.size h1)⟩
theorem Mq.below {o o' : Nat → Prop} {w w' w'' : World} (h : Mq o o' w w') (k : Below w'.heap.size w' w'') : Mq o o' w w'' :=
  ⟨k.os.trans h.os, k.tape.trans h.tape, k.output.trans h.output, Nat.le_trans h.size k.size, fun i hi hno => (k.block i (Nat.lt_of_lt_of_le hi h.size)).trans (h.block i hi hno), h.new⟩
theorem Mq.of_grown {o o' : Nat → Prop} {w w' : World} {row : Option Nat} (g : w.grownBy w' row) (hr : ∀ b, row = some b → o b ∨ w.heap.size ≤ b) (hn : ∀ k, o' k → o k ∨ w.heap.size ≤ k) : Mq o o' w w' :=
  ⟨g.os, g.tape, g.output, g.size, fun i hi hno => g.block i hi (fun e => by
    rcases hr i e.symm with h | h
    · exact hno h
    · omega), hn⟩
/-- Whoever lives below a bound that nothing of the queue is below sees nothing. -/
theorem Mq.to_below {o o' : Nat → Prop} {w w' : World} {B : Nat} (h : Mq o o' w w') (hB : B ≤ w.heap.size) (ho : ∀ k, o k → B ≤ k) : Below B w w' :=
  ⟨h.os, h.tape, h.output, h.size, fun k hk => h.block k (by omega) (fun hk2 => by have := ho k hk2; omega)⟩
theorem Mq.own_above {o o' : Nat → Prop} {w w' : World} {B : Nat} (h : Mq o o' w w') (hB : B ≤ w.heap.size) (ho : ∀ k, o k → B ≤ k) : ∀ k, o' k → B ≤ k := fun k hk => by
  rcases h.new k hk with h1 | h1
  · exact ho k h1
  · omega

variable {w w' : World} {m : QM} {s : QS} {n : Nat} {x : Int}

theorem own_q : own m s m.q := .inl rfl
theorem own_bo : own m s m.bo := .inr (.inl rfl)
theorem own_bm : own m s m.bm := .inr (.inr (.inl rfl))
theorem own_pv {b : Nat} (h : m.pv.ownBlock = some b) : own m s b := .inr (.inr (.inr (.inl h)))
theorem own_lp {k : Int} (hk : k ∈ s.keys) : own m s (m.lp k) := .inr (.inr (.inr (.inr ⟨k, hk, .inl rfl⟩)))
theorem own_wv {k : Int} (hk : k ∈ s.keys) {b : Nat} (h : (m.wv k).ownBlock = some b) : own m s b := .inr (.inr (.inr (.inr ⟨k, hk, .inr h⟩)))

theorem QRep.own_lt (h : QRep w m s) : ∀ b, own m s b → b < w.heap.size := by
  rintro b (rfl | rfl | rfl | hb | ⟨k, hk, rfl | hb⟩)
  · exact h.blk.lt
  · exact h.op.lt
  · exact h.ln.lt
  · exact (h.pk.lt b hb).2
  · exact (h.lane k hk).lt
  · exact ((h.row k hk).lt b hb).2

/-- What happens elsewhere is nothing to the queue. -/
theorem QRep.kept (h : QRep w m s) {row : Option Nat} (g : w.grownBy w' row) (hne : ∀ b, own m s b → some b ≠ row) : QRep w' m s :=
  ⟨h.blk.grown g (hne _ own_q), h.pk.kept g (fun b hb => hne b (own_pv hb)), h.op.kept g (hne _ own_bo), h.ln.kept g (hne _ own_bm), h.ne,
    fun k hk => (h.lane k hk).grown g (hne _ (own_lp hk)), fun k hk => (h.row k hk).kept g (fun b hb => hne b (own_wv hk hb)), h.inj, h.apart⟩
theorem QRep.grown (h : QRep w m s) (g : w.grownBy w' none) : QRep w' m s := h.kept g (by simp)
theorem grown_below (hb : Below w.heap.size w w') : w.grownBy w' none := ⟨hb.os, hb.tape, hb.output, hb.size, fun k hk _ => hb.block k hk⟩
theorem QRep.below (h : QRep w m s) (hb : Below w.heap.size w w') : QRep w' m s := h.grown (grown_below hb)
theorem QRep.drewN (h : QRep w m s) (k : Nat) : QRep (w.drewN k) m s := h.grown (grown_drewN (grown_refl _ _) k)

theorem obj_ne {b b' : Nat} {o o' : Obj} (h : w.heap[b]? = some o) (h' : w.heap[b']? = some o') (hne : o ≠ o') : b ≠ b' := fun e => by
  subst e
  rw [h] at h'
  exact hne (Option.some.inj h')

theorem look_lanes (m : QM) (s : QS) (x : Int) : IMap.look (lanePairs m s) x = if s.has x = true then some (lane m x) else none := by
  unfold IMap.look lanePairs QS.has
  rw [List.find?_map, Option.map_map]
  induction s.keys with
  | nil => rfl
  | cons k l ih =>
    by_cases h : k = x
    · subst h
      simp
    · have h1 : List.find? ((fun p : Int × Value => p.1 == x) ∘ fun k => (k, lane m k)) (k :: l) = List.find? ((fun p : Int × Value => p.1 == x) ∘ fun k => (k, lane m k)) l := List.find?_cons_of_neg (by simpa using h)
      have h2 : (k :: l).any (fun y => y == x) = l.any (fun y => y == x) := by simp [h]
      rw [h1, h2]
      exact ih

theorem look_in (h : x ∈ s.keys) : IMap.look (lanePairs m s) x = some (lane m x) := by rw [look_lanes, if_pos (has_spec.2 h)]
theorem look_out (h : s.has x = false) : IMap.look (lanePairs m s) x = none := by rw [look_lanes, h]; rfl

theorem len_lanes (m : QM) (s : QS) : (lanePairs m s).length = s.keys.length := by unfold lanePairs; simp
theorem len_opens (s : QS) : (openPairs s).length = s.opens.length := by unfold openPairs; simp

theorem num_calls (y : Int) (w : World) : Calls Try.prog 9 #[.int .i64 y] w fun e w' => e = .returned (.int .i64 y) ∧ w = w' := by
  go_enter Try.func9, Try.ntmps9
  go_wp2
  go_ret
  exact ⟨rfl, rfl⟩

theorem ring_calls (b : Bool) (w : World) : Calls Try.prog 23 #[.bool b] w fun e w' => e = .returned (.int .i64 (ringOf b)) ∧ w = w' := by
  cases b
  · go_enter Try.func23, Try.ntmps23
    go_wp2
    go_ret
    exact ⟨rfl, rfl⟩
  · go_enter Try.func23, Try.ntmps23
    go_wp2
    go_ret
    exact ⟨rfl, rfl⟩

theorem may_yes (y : Int) (w : World) (h0 : 1 ≤ y) (h1 : y ≤ 1500) : Calls Try.prog 17 #[.int .i64 y] w fun e w' => e = .returned (.bool true) ∧ w = w' := by
  have a0 : decide (1 ≤ y) = true := decide_eq_true h0
  have a1 : decide (y ≤ 1500) = true := decide_eq_true h1
  go_enter Try.func17, Try.ntmps17
  go_wp2
  go_ret
  exact ⟨rfl, rfl⟩

theorem may_no (y : Int) (w : World) (h : ¬ (1 ≤ y ∧ y ≤ 1500)) : Calls Try.prog 17 #[.int .i64 y] w fun e w' => e = .returned (.bool false) ∧ w = w' := by
  by_cases h0 : 1 ≤ y
  · have a0 : decide (1 ≤ y) = true := decide_eq_true h0
    have a1 : decide (y ≤ 1500) = false := decide_eq_false (by omega)
    clear h
    go_enter Try.func17, Try.ntmps17
    go_wp2
    go_ret
    exact ⟨rfl, rfl⟩
  · have a0 : decide (1 ≤ y) = false := decide_eq_false h0
    clear h
    go_enter Try.func17, Try.ntmps17
    go_wp2
    go_ret
    exact ⟨rfl, rfl⟩

/-- Runs of what reads the maps, for the walks. -/
theorem run_len_opens (h : QRep w m s) (k : Nat) : Sem.run Try.prog (Builtin.len_ #[45] 3 #[Value.map (some m.bo)]) (w.drewN k) = .ok (.int .i64 s.opens.length) (w.drewN k) := by
  have := (h.drewN k).op.len Try.underlying45 3
  rwa [len_opens] at this
theorem run_len_lanes (h : QRep w m s) : Sem.run Try.prog (Builtin.len_ #[46] 3 #[Value.map (some m.bm)]) w = .ok (.int .i64 s.keys.length) w := by
  have := h.ln.len Try.underlying46 3
  rwa [len_lanes] at this
theorem run_lane_in (h : QRep w m s) (hx : x ∈ s.keys) (hw : (Lit.int .i64 x).wf = true) : Sem.run Try.prog (Instr.lookup 46 (.map (some m.bm)) (.int .i64 x) false) w = .ok (.pointer (some ⟨m.lp x, 0, none⟩)) w := by
  have := h.ln.look_at law3 Try.underlying3 Try.underlying46 (zero49 w) hw
  rwa [look_in hx] at this
theorem run_lane_out (h : QRep w m s) (hx : s.has x = false) (hw : (Lit.int .i64 x).wf = true) : Sem.run Try.prog (Instr.lookup 46 (.map (some m.bm)) (.int .i64 x) false) w = .ok (.pointer none) w := by
  have := h.ln.look_at law3 Try.underlying3 Try.underlying46 (zero49 w) hw
  rwa [look_out hx] at this

set_option maxRecDepth 100000 in
theorem len_calls (h : QRep w m s) (hs : s.len ≤ 1000) : Calls Try.prog 16 #[.pointer (some ⟨m.q, 0, none⟩)] w fun e w' => e = .returned (.int .i64 s.len) ∧ ∃ k, w' = w.drewN k := by
  have c3 : w.cell? ⟨m.q, 3, none⟩ = some m.pv := h.blk.cell 3
  have c5 : w.cell? ⟨m.q, 5, none⟩ = some (.map (some m.bo)) := h.blk.cell 5
  obtain ⟨A, c, hpv⟩ := h.pk.form
  rw [hpv] at c3
  have hl := run_len_opens h
  unfold QS.len at hs
  have hq : ((s.packets.length : Int) + (s.opens.length : Int)) = (s.len : Int) := by unfold QS.len; omega
  have HQ := Lib.hid hq
  clear hq hpv
  go_enter Try.func16, Try.ntmps16
  go_wp2
  go_quiet (fail)
  go_wp2
  go_ret
  exact ⟨by rw [← HQ.out]; rfl, _, rfl⟩

set_option maxRecDepth 100000 in
theorem waits_out (h : QRep w m s) (hx : s.has x = false) (hw : (Lit.int .i64 x).wf = true) : Calls Try.prog 13 #[.pointer (some ⟨m.q, 0, none⟩), .int .i64 x] w fun e w' => e = .returned (.int .i64 0) ∧ w = w' := by
  have c6 : w.cell? ⟨m.q, 6, none⟩ = some (.map (some m.bm)) := h.blk.cell 6
  have hl := run_lane_out h hx hw
  clear h
  go_enter Try.func13, Try.ntmps13
  go_wp2
  go_ret
  exact ⟨rfl, rfl⟩

set_option maxRecDepth 100000 in
theorem waits_in (h : QRep w m s) (hx : x ∈ s.keys) (hw : (Lit.int .i64 x).wf = true) : Calls Try.prog 13 #[.pointer (some ⟨m.q, 0, none⟩), .int .i64 x] w fun e w' => e = .returned (.int .i64 (s.waits x).length) ∧ w = w' := by
  have c6 : w.cell? ⟨m.q, 6, none⟩ = some (.map (some m.bm)) := h.blk.cell 6
  have hl := run_lane_in h hx hw
  have l0 : w.cell? ⟨m.lp x, 0, none⟩ = some (m.wv x) := (h.lane x hx).cell 0
  obtain ⟨A, c, hwv⟩ := (h.row x hx).form
  rw [hwv] at l0
  clear h hwv
  go_enter Try.func13, Try.ntmps13
  go_wp2
  go_ret
  exact ⟨rfl, rfl⟩

theorem waits_calls (h : QRep w m s) (hw : (Lit.int .i64 x).wf = true) : Calls Try.prog 13 #[.pointer (some ⟨m.q, 0, none⟩), .int .i64 x] w fun e w' => e = .returned (.int .i64 (s.many x)) ∧ w = w' := by
  unfold QS.many
  cases hx : s.has x with
  | true =>
    rw [if_pos rfl]
    exact waits_in h (has_spec.1 hx) hw
  | false =>
    rw [if_neg (by simp)]
    exact waits_out h hx hw

/-- A lane that is marked. -/
theorem QRep.mark (h : QRep w m s) (hx : x ∈ s.keys) : QRep (w.setCell ⟨m.lp x, 1, none⟩ (.bool true)) m (s.drain x) ∧ Mq (own m s) (own m (s.drain x)) w (w.setCell ⟨m.lp x, 1, none⟩ (.bool true)) := by
  have hk : (s.drain x) = { s with drains := upd s.drains x true } := by unfold QS.drain; rw [if_pos (has_spec.2 hx)]
  rw [hk]
  have g : w.grownBy (w.setCell ⟨m.lp x, 1, none⟩ (.bool true)) (some (m.lp x)) := grown_set (grown_refl _ _) 1 _
  have hL := h.lane x hx
  have t1 : m.q ≠ m.lp x := obj_ne h.blk hL (by simp)
  have t2 : m.bo ≠ m.lp x := by
    obtain ⟨es, cl, ho, _⟩ := h.op.obj
    exact obj_ne ho hL (by simp)
  have t3 : m.bm ≠ m.lp x := by
    obtain ⟨es, cl, ho, _⟩ := h.ln.obj
    exact obj_ne ho hL (by simp)
  have t4 : ∀ {e : TypeId} {sz nn : Nat} {v : Value} {xs : List Value}, RowAt w 0 e sz v nn xs → e ≠ 52 → ∀ b, v.ownBlock = some b → b ≠ m.lp x := fun hr hne b hb => by
    rcases hr.2 with ⟨rfl, _⟩ | ⟨g1, off1, cap1, cur1, rfl, _, hg1, _⟩
    · simp [Value.ownBlock] at hb
    · simp [Value.ownBlock] at hb
      subst hb
      exact obj_ne hg1 hL (by simp; intro _ e; exact absurd e hne)
  refine ⟨⟨h.blk.grown g (by simpa using t1), h.pk.kept g (fun b hb => by simpa using t4 h.pk (by decide) b hb), h.op.kept g (by simpa using t2), h.ln.kept g (by simpa using t3), h.ne, fun k hk => ?_, fun k hk => (h.row k hk).kept g (fun b hb => by simpa using t4 (h.row k hk) (by decide) b hb), h.inj, h.apart⟩, Mq.of_grown g (fun b hb => by cases hb; exact .inl (own_lp hx)) (fun b hb => .inl hb)⟩
  by_cases e : k = x
  · subst e
    simp only [upd_same]
    exact hL.set 1 _
  · simp only [upd_other _ _ e]
    exact (h.lane k hk).grown g (by simpa using h.inj k hk x hx e)

set_option maxRecDepth 100000 in
theorem drain_calls (h : QRep w m s) (hw : (Lit.int .i64 x).wf = true) : Calls Try.prog 14 #[.pointer (some ⟨m.q, 0, none⟩), .int .i64 x] w fun e w' => e = .returned (.int .i64 (s.drainNum x)) ∧ QRep w' m (s.drain x) ∧ Mq (own m s) (own m (s.drain x)) w w' := by
  have c6 : w.cell? ⟨m.q, 6, none⟩ = some (.map (some m.bm)) := h.blk.cell 6
  cases hx : s.has x with
  | true =>
    have e1 : s.drainNum x = 0 := by unfold QS.drainNum; rw [if_pos hx]
    have hxk := has_spec.1 hx
    have HM := Lib.hid (h.mark hxk)
    have hl := run_lane_in h hxk hw
    have l1 : w.cell? ⟨m.lp x, 1, none⟩ = some (.bool (s.drains x)) := (h.lane x hxk).cell 1
    have f1 := (h.lane x hxk).free 1
    rw [e1]
    clear h hx e1
    go_enter Try.func14, Try.ntmps14
    go_wp2
    go_ret
    exact ⟨rfl, HM.out⟩
  | false =>
    have e1 : s.drainNum x = 2002 := by unfold QS.drainNum; rw [hx]; rfl
    have e2 : s.drain x = s := by unfold QS.drain; rw [hx]; rfl
    have hl := run_lane_out h hx hw
    rw [e1, e2]
    clear e1 e2 hx
    go_enter Try.func14, Try.ntmps14
    go_wp2
    go_ret
    exact ⟨rfl, h, Mq.refl _ _⟩

end Go.Proofs.Ytcahedlgmljhkaa.QA
