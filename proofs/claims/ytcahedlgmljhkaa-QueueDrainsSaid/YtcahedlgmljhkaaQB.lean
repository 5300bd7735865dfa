/- The queue: the walks of Drop, Add, New, Submit. -/
import Derived.Test.YtcahedlgmljhkaaQA
namespace Go.Proofs.Ytcahedlgmljhkaa.QB
open Go Go.RowKit Go.Maps Go.Proofs.Ytcahedlgmljhkaa.Mem Go.Proofs.Ytcahedlgmljhkaa.Plain Go.Proofs.Ytcahedlgmljhkaa.IMap Go.Proofs.Ytcahedlgmljhkaa.RowAt Go.Proofs.Ytcahedlgmljhkaa.QP Go.Proofs.Ytcahedlgmljhkaa.QG Go.Proofs.Ytcahedlgmljhkaa.QA

variable {w w' : World} {m : QM} {s : QS} {n : Nat} {x : Int}

theorem row_ty {B : Nat} {e : TypeId} {sz nn b : Nat} {v : Value} {xs : List Value} (h : RowAt w B e sz v nn xs) (hb : v.ownBlock = some b) : ∃ cur, w.heap[b]? = some (.cells cur e (0, 0)) := by
  rcases h.2 with ⟨rfl, _⟩ | ⟨g1, off1, cap1, cur1, rfl, _, hg1, _⟩
  · simp [Value.ownBlock] at hb
  · simp [Value.ownBlock] at hb
    subst hb
    exact ⟨_, hg1⟩
theorem map_obj {P : Program} {K : TypeId} {b : Nat} {l : List (Int × Value)} (h : IMap P K w b l) : ∃ es cl, w.heap[b]? = some (.map es cl) := by
  obtain ⟨es, cl, ho, _⟩ := h.obj
  exact ⟨es, cl, ho⟩
theorem ne_of_ty {b b' : Nat} {cs cs' : Array Value} {e e' : TypeId} (h : w.heap[b]? = some (.cells cs e (0, 0))) (h' : w.heap[b']? = some (.cells cs' e' (0, 0))) (hne : e ≠ e') : b ≠ b' :=
  obj_ne h h' (fun e => by injection e with _ e2 _; exact hne e2)
theorem ne_of_map {b b' : Nat} {cs : Array Value} {e : TypeId} {es : Array MapEntry} {cl : Nat} (h : w.heap[b]? = some (.cells cs e (0, 0))) (h' : w.heap[b']? = some (.map es cl)) : b ≠ b' :=
  obj_ne h h' (fun e => by cases e)

/-- A map's block is none of the others. -/
theorem ne_bm (h : QRep w m s) : m.q ≠ m.bm ∧ m.bo ≠ m.bm ∧ (∀ b, m.pv.ownBlock = some b → b ≠ m.bm) ∧ (∀ k ∈ s.keys, m.lp k ≠ m.bm) ∧ ∀ k ∈ s.keys, ∀ b, (m.wv k).ownBlock = some b → b ≠ m.bm := by
  obtain ⟨es, cl, ho⟩ := map_obj h.ln
  refine ⟨ne_of_map h.blk ho, h.ne, fun b hb => ?_, fun k hk => ne_of_map (h.lane k hk) ho, fun k hk b hb => ?_⟩
  · obtain ⟨cur, hc⟩ := row_ty h.pk hb; exact ne_of_map hc ho
  · obtain ⟨cur, hc⟩ := row_ty (h.row k hk) hb; exact ne_of_map hc ho

/-- The links' map is another. -/
theorem dropLane (h : QRep w m s) (hg : w.grownBy w' (some m.bm)) (hm : IMap Try.prog 3 w' m.bm (IMap.del (lanePairs m s) x)) : QRep w' m { s with keys := s.keys.filter (· != x) } ∧ Mq (own m s) (own m { s with keys := s.keys.filter (· != x) }) w w' := by
  obtain ⟨a, b, c, d, e⟩ := ne_bm h
  have hs : ∀ {k}, k ∈ s.keys.filter (· != x) → k ∈ s.keys := fun hk => (List.mem_filter.1 hk).1
  refine ⟨⟨h.blk.grown hg (by simpa using a), h.pk.kept hg (fun b hb => by simpa using c b hb), h.op.kept hg (by simpa using b), ?_, h.ne, fun k hk => (h.lane k (hs hk)).grown hg (by simpa using d k (hs hk)), fun k hk => (h.row k (hs hk)).kept hg (fun b hb => by simpa using e k (hs hk) b hb), fun k hk j hj => h.inj k (hs hk) j (hs hj), fun k hk j hj => h.apart k (hs hk) j (hs hj)⟩, Mq.of_grown hg (fun b hb => by cases hb; exact .inl own_bm) ?_⟩
  · have : lanePairs m { s with keys := s.keys.filter (· != x) } = IMap.del (lanePairs m s) x := by
      unfold lanePairs IMap.del
      rw [List.filter_map]
      rfl
    rw [this]
    exact hm
  · rintro k (h1 | h1 | h1 | h1 | ⟨j, hj, h1⟩)
    · exact .inl (.inl h1)
    · exact .inl (.inr (.inl h1))
    · exact .inl (.inr (.inr (.inl h1)))
    · exact .inl (.inr (.inr (.inr (.inl h1))))
    · exact .inl (.inr (.inr (.inr (.inr ⟨j, hs hj, h1⟩))))

set_option maxRecDepth 100000 in
theorem drop_calls (h : QRep w m s) (hw : (Lit.int .i64 x).wf = true) : Calls Try.prog 15 #[.pointer (some ⟨m.q, 0, none⟩), .int .i64 x] w fun e w' => e = .returned (.int .i64 (s.dropNum x)) ∧ QRep w' m (s.drop x) ∧ Mq (own m s) (own m (s.drop x)) w w' := by
  have c6 : w.cell? ⟨m.q, 6, none⟩ = some (.map (some m.bm)) := h.blk.cell 6
  cases hx : s.has x with
  | false =>
    have e1 : s.dropNum x = 2002 := by unfold QS.dropNum; rw [hx]; rfl
    have e2 : s.drop x = s := by unfold QS.drop; rw [e1]; rfl
    have hl := run_lane_out h hx hw
    rw [e1, e2]
    clear e1 e2 hx
    go_enter Try.func15, Try.ntmps15
    go_wp2
    go_ret
    exact ⟨rfl, h, Mq.refl _ _⟩
  | true =>
    have hxk := has_spec.1 hx
    have hl := run_lane_in h hxk hw
    have l0 : w.cell? ⟨m.lp x, 0, none⟩ = some (m.wv x) := (h.lane x hxk).cell 0
    obtain ⟨A, c, hwv⟩ := (h.row x hxk).form
    rw [hwv] at l0
    by_cases hem : s.waits x = []
    · have e1 : s.dropNum x = 0 := by unfold QS.dropNum; rw [if_pos hx, if_pos hem]
      have e2 : s.drop x = { s with keys := s.keys.filter (· != x) } := by unfold QS.drop; rw [e1]; rfl
      rw [e1, e2]
      rw [hem] at l0
      clear e1 e2 hx hem hwv
      go_enter Try.func15, Try.ntmps15
      go_wp2_with (first | (at_delete; refine wpList_idelete h.ln rfl _ _ 46 49 rfl law3 Try.underlying3 Try.underlying46 rfl x rfl hw ?_; intro w1 hm1 hg1))
      go_ret
      exact ⟨rfl, dropLane h hg1 hm1⟩
    · have e1 : s.dropNum x = 2003 := by unfold QS.dropNum; rw [if_pos hx, if_neg hem]
      have e2 : s.drop x = s := by unfold QS.drop; rw [e1]; rfl
      have hpos : 0 < (s.waits x).length := List.length_pos_iff.2 hem
      rw [e1, e2]
      clear e1 e2 hx hem hwv
      go_enter Try.func15, Try.ntmps15
      go_wp2
      go_ret
      exact ⟨rfl, h, Mq.refl _ _⟩

/-- Where the queue lies behind a link more. -/
def QM.addLane (m : QM) (x : Int) (b : Nat) : QM := { m with lp := upd m.lp x b, wv := upd m.wv x (.slice none 0 0) }

theorem addLane (h : QRep w m s) (hx : ¬ x ∈ s.keys) (hg : (w.alloc (.cells #[.slice none 0 0, .bool false] 52)).grownBy w' (some m.bm)) (hm : IMap Try.prog 3 w' m.bm (IMap.put (lanePairs m s) x (.pointer (some ⟨w.heap.size, 0, none⟩)))) :
    QRep w' (QM.addLane m x w.heap.size) { s with keys := s.keys ++ [x], drains := upd s.drains x false, waits := upd s.waits x [] } ∧ Mq (own m s) (own (QM.addLane m x w.heap.size) { s with keys := s.keys ++ [x], drains := upd s.drains x false, waits := upd s.waits x [] }) w w' := by
  have h1 := h.grown (grown_alloc (grown_refl w none) (.cells #[.slice none 0 0, .bool false] 52))
  obtain ⟨a, b, c, d, e⟩ := ne_bm h1
  have hne : ∀ {k}, k ∈ s.keys → k ≠ x := fun hk e => hx (e ▸ hk)
  have hlt : ∀ k ∈ s.keys, m.lp k ≠ w.heap.size := fun k hk e => by have := (h.lane k hk).lt; omega
  have hsz : w.heap.size ≠ m.bm := fun e => by have := h.ln.lt; omega
  have hk1 : ∀ {k}, k ∈ s.keys ++ [x] → k ∈ s.keys ∨ k = x := fun hk => by simpa using hk
  refine ⟨⟨h1.blk.grown hg (by simpa using a), h1.pk.kept hg (fun b hb => by simpa using c b hb), h1.op.kept hg (by simpa using b), ?_, h.ne, fun k hk => ?_, fun k hk => ?_, fun k hk j hj hkj => ?_, fun k hk j hj hkj => ?_⟩, ?_⟩
  · have : lanePairs (QM.addLane m x w.heap.size) { s with keys := s.keys ++ [x], drains := upd s.drains x false, waits := upd s.waits x [] } = IMap.put (lanePairs m s) x (.pointer (some ⟨w.heap.size, 0, none⟩)) := by
      unfold IMap.put
      rw [length_del_none (look_out (m := m) (by cases hh : s.has x; rfl; exact absurd (has_spec.1 hh) hx))]
      unfold lanePairs
      simp only [List.map_append, List.map_cons, List.map_nil]
      congr 1
      · refine List.map_congr_left (fun k hk => ?_)
        unfold lane QM.addLane
        simp only [upd_other _ _ (hne hk)]
      · unfold lane QM.addLane
        simp only [upd_same]
    rw [this]
    exact hm
  · rcases hk1 hk with hk | rfl
    · unfold QM.addLane
      simp only [upd_other _ _ (hne hk)]
      exact (h1.lane k hk).grown hg (by simpa using d k hk)
    · unfold QM.addLane
      simp only [upd_same]
      exact (Blk.new w #[.slice none 0 0, .bool false] 52).grown hg (by simpa using hsz)
  · rcases hk1 hk with hk | rfl
    · unfold QM.addLane
      simp only [upd_other _ _ (hne hk)]
      exact (h1.row k hk).kept hg (fun b hb => by simpa using e k hk b hb)
    · unfold QM.addLane
      simp only [upd_same]
      exact RowAt.nil _ _ _ _
  · unfold QM.addLane
    rcases hk1 hk with hk' | ek <;> rcases hk1 hj with hj' | ej
    · simp only [upd_other _ _ (hne hk'), upd_other _ _ (hne hj')]
      exact h.inj k hk' j hj' hkj
    · subst ej
      simp only [upd_other _ _ (hne hk'), upd_same]
      exact hlt k hk'
    · subst ek
      simp only [upd_other _ _ (hne hj'), upd_same]
      exact (hlt j hj').symm
    · exact absurd (ek.trans ej.symm) hkj
  · unfold QM.addLane
    rcases hk1 hk with hk' | ek <;> rcases hk1 hj with hj' | ej
    · simp only [upd_other _ _ (hne hk'), upd_other _ _ (hne hj')]
      exact h.apart k hk' j hj' hkj
    · subst ej
      simp only [upd_same]
      intro b _ hb
      simp [Value.ownBlock] at hb
    · subst ek
      simp only [upd_same]
      intro b hb
      simp [Value.ownBlock] at hb
    · exact absurd (ek.trans ej.symm) hkj
  · have g2 : Mq (own m s) (own m s) w (w.alloc (.cells #[.slice none 0 0, .bool false] 52)) := Mq.of_grown (grown_alloc (grown_refl w none) _) (fun b hb => by cases hb) (fun k hk => .inl hk)
    have g3 := g2.trans (Mq.of_grown hg (fun b hb => by cases hb; exact .inl own_bm) (fun k hk => .inl hk))
    refine ⟨g3.os, g3.tape, g3.output, g3.size, g3.block, ?_⟩
    rintro k (h1 | h1 | h1 | h1 | ⟨j, hj, h1⟩)
    · exact .inl (.inl h1)
    · exact .inl (.inr (.inl h1))
    · exact .inl (.inr (.inr (.inl h1)))
    · exact .inl (.inr (.inr (.inr (.inl h1))))
    · unfold QM.addLane at h1
      rcases hk1 hj with hj | rfl
      · simp only [upd_other _ _ (hne hj)] at h1
        exact .inl (.inr (.inr (.inr (.inr ⟨j, hj, h1⟩))))
      · simp only [upd_same] at h1
        rcases h1 with h1 | h1
        · exact .inr (by omega)
        · simp [Value.ownBlock] at h1

set_option maxHeartbeats 1000000 in
set_option maxRecDepth 100000 in
theorem add_calls (h : QRep w m s) (hkn : s.keys.length ≤ 8) (hw : (Lit.int .i64 x).wf = true) : Calls Try.prog 10 #[.pointer (some ⟨m.q, 0, none⟩), .int .i64 x] w fun e w' => ∃ m', e = .returned (.int .i64 (s.addNum x)) ∧ QRep w' m' (s.add x) ∧ Mq (own m s) (own m' (s.add x)) w w' ∧ m'.q = m.q := by
  have c6 : w.cell? ⟨m.q, 6, none⟩ = some (.map (some m.bm)) := h.blk.cell 6
  have hll := run_len_lanes h
  have hqlt := h.blk.lt
  by_cases hneg : x < 0
  · have hd : decide (x < 0) = true := decide_eq_true hneg
    have e1 : s.addNum x = 2000 := by unfold QS.addNum; rw [if_pos (.inl hneg)]
    have e2 : s.add x = s := by unfold QS.add; rw [e1]; rfl
    rw [e1, e2]
    clear e1 e2 hneg
    go_enter Try.func10, Try.ntmps10
    go_wp2
    go_ret
    exact ⟨m, rfl, h, Mq.refl _ _, rfl⟩
  · have hd : decide (x < 0) = false := decide_eq_false hneg
    cases hx : s.has x with
    | true =>
      have e1 : s.addNum x = 2000 := by unfold QS.addNum; rw [if_pos (.inr hx)]
      have e2 : s.add x = s := by unfold QS.add; rw [e1]; rfl
      have hl := run_lane_in h (has_spec.1 hx) hw
      rw [e1, e2]
      clear e1 e2 hneg hx
      go_enter Try.func10, Try.ntmps10
      go_wp2
      go_ret
      exact ⟨m, rfl, h, Mq.refl _ _, rfl⟩
    | false =>
      have hl := run_lane_out h hx hw
      have hnk : ¬ x ∈ s.keys := fun hk => by rw [has_spec.2 hk] at hx; cases hx
      by_cases h8 : 8 ≤ s.keys.length
      · have e1 : s.addNum x = 2001 := by unfold QS.addNum; rw [if_neg (by simp [hneg, hx]), if_pos h8]
        have e2 : s.add x = s := by unfold QS.add; rw [e1]; rfl
        rw [e1, e2]
        clear e1 e2 hneg hx
        go_enter Try.func10, Try.ntmps10
        go_wp2
        go_ret
        exact ⟨m, rfl, h, Mq.refl _ _, rfl⟩
      · have e1 : s.addNum x = 0 := by unfold QS.addNum; rw [if_neg (by simp [hneg, hx]), if_neg h8]
        have e2 : s.add x = { s with keys := s.keys ++ [x], drains := upd s.drains x false, waits := upd s.waits x [] } := by unfold QS.add; rw [e1]; rfl
        rw [e1, e2]
        have HLM : Hid ((lanePairs m s).length < maxLen) := Lib.hid (by rw [len_lanes]; unfold maxLen; omega)
        have HL := Lib.hid (h.grown (grown_alloc (grown_refl w none) (.cells #[.slice none 0 0, .bool false] 52)))
        clear e1 e2 hneg hx
        go_enter Try.func10, Try.ntmps10
        go_wp2_with (first | (at_mapUpdate; refine wpList_istore HL.out.ln rfl _ _ _ 46 49 rfl law3 Try.underlying3 Try.underlying46 HLM.out rfl x rfl hw (.pointer (some ⟨w.heap.size, 0, none⟩)) rfl ?_; intro w1 hm1 hg1))
        go_ret
        obtain ⟨a, b⟩ := addLane h hnk hg1 hm1
        exact ⟨_, rfl, a, b, rfl⟩

end Go.Proofs.Ytcahedlgmljhkaa.QB
