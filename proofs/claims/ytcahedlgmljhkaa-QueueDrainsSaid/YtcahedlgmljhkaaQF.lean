/- The queue: the walks of Peek and Take. -/
import Derived.Test.YtcahedlgmljhkaaQE
namespace Go.Proofs.Ytcahedlgmljhkaa.QF
open Go Go.RowKit Go.Maps Go.Proofs.Ytcahedlgmljhkaa.Mem Go.Proofs.Ytcahedlgmljhkaa.Plain Go.Proofs.Ytcahedlgmljhkaa.IMap Go.Proofs.Ytcahedlgmljhkaa.RowAt Go.Proofs.Ytcahedlgmljhkaa.QP Go.Proofs.Ytcahedlgmljhkaa.QG Go.Proofs.Ytcahedlgmljhkaa.QA Go.Proofs.Ytcahedlgmljhkaa.QB Go.Proofs.Ytcahedlgmljhkaa.QC Go.Proofs.Ytcahedlgmljhkaa.QR Go.Proofs.Ytcahedlgmljhkaa.QD Go.Proofs.Ytcahedlgmljhkaa.QE

variable {w wr : World} {m : QM} {s : QS} {n : Nat} {x : Int}

/-- What the first of a link's fragments looks like in memory. -/
theorem first_cells (h : QRep w m s) (hx : x ∈ s.keys) {y : Wt} {ys : List Wt} (hy : s.waits x = y :: ys) : ∃ g o c, m.wv x = .slice (some ⟨g, o, none⟩) (s.waits x).length c ∧ (s.waits x).length ≤ c ∧ g < w.heap.size ∧ w.cell? ⟨g, o, none⟩ = some (.bool y.f.b) ∧ w.cell? ⟨g, o + 1, none⟩ = some (.bool y.f.e) ∧ w.cell? ⟨g, o + 2, none⟩ = some (.int .i64 y.f.q) ∧ w.cell? ⟨g, o + 3, none⟩ = some (.string y.f.d) ∧ w.cell? ⟨g, o + 4, none⟩ = some (.int .i64 y.p) := by
  have hr := h.row x hx
  obtain ⟨A, c, hv⟩ := hr.form
  rw [hv] at hr
  have hl : 0 < (s.waits x).length := by rw [hy]; simp
  obtain ⟨g, o, rfl⟩ := row_some hr hl
  have hc : (s.waits x).length ≤ c := by
    rcases hr.2 with ⟨h0, _⟩ | ⟨g', off', cap', cur, h0, _, _, hnc, _⟩
    · cases h0
    · injection h0 with _ _ h0
      omega
  have hcell : ∀ j, j < 5 → w.cell? ⟨g, o + j, none⟩ = (Wt.cells y)[j]? := fun j hj => by
    rw [hr.cell j (by omega), hy]
    unfold flat
    rw [List.flatMap_cons, List.getElem?_append_left (by simp [Wt.cells]; omega)]
  exact ⟨g, o, c, hv, hc, (hr.lt g rfl).2, hcell 0 (by omega), hcell 1 (by omega), hcell 2 (by omega), hcell 3 (by omega), hcell 4 (by omega)⟩

def PeekPost (m : QM) (s : QS) (x : Int) (w : World) (e : Ending) (w' : World) : Prop :=
  ∃ m', e = .returned (.tuple #[(if s.takeNum x = 0 then (((s.peek x).waits x).headD ⟨Fr.none, 0⟩).f else Fr.none).val, .int .i64 (s.takeNum x)]) ∧ QRep w' m' (if s.takeNum x = 0 then s.peek x else s) ∧ Mq (own m s) (own m' (if s.takeNum x = 0 then s.peek x else s)) w w' ∧ m'.q = m.q

set_option maxHeartbeats 1000000 in
set_option maxRecDepth 100000 in
theorem peek_no (h : QRep w m s) (hw : (Lit.int .i64 x).wf = true) (hx : s.has x = false) : Calls Try.prog 19 #[.pointer (some ⟨m.q, 0, none⟩), .int .i64 x] w (PeekPost m s x w) := by
  have e1 : s.takeNum x = 2002 := by unfold QS.takeNum; rw [hx]; rfl
  unfold PeekPost
  rw [e1, if_neg (by decide), if_neg (by decide)]
  have c6 : w.cell? ⟨m.q, 6, none⟩ = some (.map (some m.bm)) := h.blk.cell 6
  have hq := h.blk.lt
  have h1 := h.grown (grown_alloc (grown_refl w none) (.cells #[.bool false, .bool false, .int .i64 0, .string ⟨#[]⟩] 32))
  have hl := run_lane_out h1 hx hw
  have H1 := Lib.hid h1
  clear e1 hx h1
  go_enter Try.func19, Try.ntmps19
  go_wp2
  refine bodyPost_ret (v := .tuple #[.agg #[.bool false, .bool false, .int .i64 0, .string ⟨#[]⟩], .int .i64 2002]) (by simp [results, Try.results19, go_sem]) rfl ⟨m, rfl, H1.out, ?_, rfl⟩
  exact Mq.of_grown (row := none) (grown_alloc (grown_refl w none) _) (fun b hb => by cases hb) (fun k hk => .inl hk)

/-- A lane with nothing, and nothing to be dealt. -/
theorem peek_busy (h : QRep w m s) (hw : (Lit.int .i64 x).wf = true) (hx : x ∈ s.keys) (he : s.waits x = []) (hd : s.drains x = true ∨ s.packets = []) : Calls Try.prog 19 #[.pointer (some ⟨m.q, 0, none⟩), .int .i64 x] w (PeekPost m s x w) := by
  have e1 : s.takeNum x = 2003 := by unfold QS.takeNum; rw [if_pos (has_spec.2 hx), if_pos ⟨he, hd⟩]
  unfold PeekPost
  rw [e1, if_neg (by decide), if_neg (by decide)]
  have h1 := h.grown (grown_alloc (grown_refl w none) (.cells #[.bool false, .bool false, .int .i64 0, .string ⟨#[]⟩] 32))
  have c6 : w.cell? ⟨m.q, 6, none⟩ = some (.map (some m.bm)) := h.blk.cell 6
  have hq := h.blk.lt
  have hl := run_lane_in h1 hx hw
  have hlt := (h.lane x hx).lt
  have l0 : w.cell? ⟨m.lp x, 0, none⟩ = some (m.wv x) := (h.lane x hx).cell 0
  have l1 : w.cell? ⟨m.lp x, 1, none⟩ = some (.bool (s.drains x)) := (h.lane x hx).cell 1
  obtain ⟨A, c, hv⟩ := (h.row x hx).form
  rw [hv, he] at l0
  have c3 : w.cell? ⟨m.q, 3, none⟩ = some m.pv := h.blk.cell 3
  obtain ⟨Ap, cp, hpv⟩ := h.pk.form
  rw [hpv] at c3
  have H1 := Lib.hid h1
  clear e1 h1 hv hpv
  cases hdx : s.drains x with
  | true =>
    rw [hdx] at l1
    clear hd hdx he
    go_enter Try.func19, Try.ntmps19
    go_wp2
    refine bodyPost_ret (v := .tuple #[.agg #[.bool false, .bool false, .int .i64 0, .string ⟨#[]⟩], .int .i64 2003]) (by simp [results, Try.results19, go_sem]) rfl ⟨m, rfl, H1.out, ?_, rfl⟩
    exact Mq.of_grown (row := none) (grown_alloc (grown_refl w none) _) (fun b hb => by cases hb) (fun k hk => .inl hk)
  | false =>
    have hp : s.packets = [] := by
      rcases hd with hd | hd
      · rw [hdx] at hd; cases hd
      · exact hd
    rw [hdx] at l1
    rw [hp] at c3
    clear hd hdx he hp
    go_enter Try.func19, Try.ntmps19
    go_wp2
    refine bodyPost_ret (v := .tuple #[.agg #[.bool false, .bool false, .int .i64 0, .string ⟨#[]⟩], .int .i64 2003]) (by simp [results, Try.results19, go_sem]) rfl ⟨m, rfl, H1.out, ?_, rfl⟩
    exact Mq.of_grown (row := none) (grown_alloc (grown_refl w none) _) (fun b hb => by cases hb) (fun k hk => .inl hk)

set_option maxHeartbeats 2000000 in
set_option maxRecDepth 100000 in
theorem peek_some (h : QRep w m s) (hw : (Lit.int .i64 x).wf = true) (hx : x ∈ s.keys) (he : s.waits x ≠ []) : Calls Try.prog 19 #[.pointer (some ⟨m.q, 0, none⟩), .int .i64 x] w (PeekPost m s x w) := by
  obtain ⟨y, ys, hy⟩ : ∃ y ys, s.waits x = y :: ys := by cases hq : s.waits x with | nil => exact absurd hq he | cons t ts => exact ⟨t, ts, rfl⟩
  have e1 : s.takeNum x = 0 := by unfold QS.takeNum; rw [if_pos (has_spec.2 hx), if_neg (fun e => he e.1)]
  have e2 : s.peek x = s := by unfold QS.peek; rw [if_neg he]
  unfold PeekPost
  rw [e1, if_pos rfl, if_pos rfl, e2, hy]
  simp only [List.headD_cons]
  have h1 := h.grown (grown_alloc (grown_refl w none) (.cells #[.bool false, .bool false, .int .i64 0, .string ⟨#[]⟩] 32))
  have hn : ¬ own m s w.heap.size := fun ho => by have := h.own_lt _ ho; omega
  obtain ⟨g, o, c, hv, hlc, hgl, f0, f1, f2, f3, f4⟩ := first_cells h hx hy
  have c6 : w.cell? ⟨m.q, 6, none⟩ = some (.map (some m.bm)) := h.blk.cell 6
  have hq := h.blk.lt
  have hl := run_lane_in h1 hx hw
  have hlt := (h.lane x hx).lt
  have l0 : w.cell? ⟨m.lp x, 0, none⟩ = some (m.wv x) := (h.lane x hx).cell 0
  rw [hv] at l0
  have hpos : 0 < (s.waits x).length := by rw [hy]; simp
  have hpI : (0 : Int) < ((s.waits x).length : Int) := by omega
  have hne : (((s.waits x).length : Int) == 0) = false := by simp; omega
  have H1 := Lib.hid h1
  have H := Lib.hid h
  clear e1 h1 hv hy he e2
  go_enter Try.func19, Try.ntmps19
  go_wp2
  refine bodyPost_ret (v := .tuple #[.agg #[.bool y.f.b, .bool y.f.e, .int .i64 y.f.q, .string y.f.d], .int .i64 0]) (by simp [results, Try.results19, go_sem]) rfl ⟨m, rfl, ?_, ?_, rfl⟩
  · exact H.out.grown (grown_alloc (grown_refl w none) _)
  · exact Mq.of_grown (row := none) (grown_alloc (grown_refl w none) _) (fun b hb => by cases hb) (fun k hk => .inl hk)

set_option maxHeartbeats 2000000 in
set_option maxRecDepth 100000 in
theorem peek_deal (h : QRep w m s) (G : QG.Good s n) (hn : n ≤ 1000000) (hw : (Lit.int .i64 x).wf = true) (hx : x ∈ s.keys) (he : s.waits x = []) (hd : s.drains x = false) (hp : s.packets ≠ []) : Calls Try.prog 19 #[.pointer (some ⟨m.q, 0, none⟩), .int .i64 x] w (PeekPost m s x w) := by
  have e1 : s.takeNum x = 0 := by unfold QS.takeNum; rw [if_pos (has_spec.2 hx), if_neg (fun e => by rcases e.2 with e | e; rw [hd] at e; cases e; exact hp e)]
  have e2 : s.peek x = s.deal x := by unfold QS.peek; rw [if_pos he]
  obtain ⟨y, ys, hy⟩ : ∃ y ys, (s.deal x).waits x = y :: ys := by cases hq : (s.deal x).waits x with | nil => exact absurd hq (deal_first G hx hd hp) | cons t ts => exact ⟨t, ts, rfl⟩
  unfold PeekPost
  rw [e1, if_pos rfl, if_pos rfl, e2, hy]
  simp only [List.headD_cons]
  have h1 := h.grown (grown_alloc (grown_refl w none) (.cells #[.bool false, .bool false, .int .i64 0, .string ⟨#[]⟩] 32))
  have hno : ¬ own m s w.heap.size := fun ho => by have := h.own_lt _ ho; omega
  have c6 : w.cell? ⟨m.q, 6, none⟩ = some (.map (some m.bm)) := h.blk.cell 6
  have hq := h.blk.lt
  have hl := run_lane_in h1 hx hw
  have hlt := (h.lane x hx).lt
  have l0 : w.cell? ⟨m.lp x, 0, none⟩ = some (m.wv x) := (h.lane x hx).cell 0
  have l1 : w.cell? ⟨m.lp x, 1, none⟩ = some (.bool false) := by rw [← hd]; exact (h.lane x hx).cell 1
  obtain ⟨A, c, hv⟩ := (h.row x hx).form
  rw [hv, he] at l0
  have c3 : w.cell? ⟨m.q, 3, none⟩ = some m.pv := h.blk.cell 3
  obtain ⟨Ap, cp, hpv⟩ := h.pk.form
  rw [hpv] at c3
  have hpl : 0 < s.packets.length := List.length_pos_iff.2 hp
  have hpl2 : ((s.packets.length : Int) == 0) = false := by simp; omega
  have H1 := Lib.hid h1
  have HD := Lib.hid (deal_calls h1 G hn hx hd hp)
  have HY := Lib.hid hy
  have HX := Lib.hid (show x ∈ (s.deal x).keys from hx)
  have HNO := Lib.hid hno
  clear e1 e2 h1 hv hpv hy hd he hp hno
  go_enter Try.func19, Try.ntmps19
  go_wp2_with fail
  refine HD.out.mono ?_
  rintro e w3 ⟨m3, rfl, hr3, hm3, hq3, hbm3, hbo3, hlp3⟩
  obtain ⟨g, o, c', hv3, hlc, hgl, f0, f1, f2, f3, f4⟩ := first_cells hr3 HX.out HY.out
  have k0 : w3.cell? ⟨m.lp x, 0, none⟩ = some (.slice (some ⟨g, o, none⟩) ((s.deal x).waits x).length c') := by
    have := (hr3.lane x HX.out).cell 0
    rw [hlp3, hv3] at this
    exact this
  have hB3 : Blk w3 w.heap.size #[.bool false, .bool false, .int .i64 0, .string ⟨#[]⟩] 32 := (hm3.block _ (Blk.new w _ 32).lt HNO.out).trans (Blk.new w _ 32)
  have b0 : w3.cell? ⟨w.heap.size, 0, none⟩ = some (.bool false) := hB3.cell 0
  have b1 : w3.cell? ⟨w.heap.size, 1, none⟩ = some (.bool false) := hB3.cell 1
  have b2 : w3.cell? ⟨w.heap.size, 2, none⟩ = some (.int .i64 0) := hB3.cell 2
  have b3 : w3.cell? ⟨w.heap.size, 3, none⟩ = some (.string ⟨#[]⟩) := hB3.cell 3
  have z0 := hB3.free 0
  have z1 := hB3.free 1
  have z2 := hB3.free 2
  have z3 := hB3.free 3
  have hpos : 0 < ((s.deal x).waits x).length := by rw [HY.out]; simp
  have HB8 := Lib.hid ((((hB3.set 0 (.bool y.f.b)).set 1 (.bool y.f.e)).set 2 (.int .i64 y.f.q)).set 3 (.string y.f.d))
  have HG8 := Lib.hid (grown_set (grown_set (grown_set (grown_set (grown_refl w3 (some w.heap.size)) 0 (.bool y.f.b)) 1 (.bool y.f.e)) 2 (.int .i64 y.f.q)) 3 (.string y.f.d))
  have HR3 := Lib.hid hr3
  have HM3 := Lib.hid hm3
  have HQ3 := Lib.hid hq3
  have hnb : ¬ own m3 (s.deal x) w.heap.size := fun ho => by
    rcases hm3.new _ ho with h1 | h1
    · exact HNO.out h1
    · simp only [World.alloc, Array.size_push] at h1
      omega
  have HNB := Lib.hid hnb
  have hB3lt := hB3.lt
  clear hr3 hm3 hq3 hbm3 hbo3 hlp3 hB3 hv3 hnb
  go_wp2
  generalize (((w3.setCell ⟨w.heap.size, 0, none⟩ (.bool y.f.b)).setCell ⟨w.heap.size, 1, none⟩ (.bool y.f.e)).setCell ⟨w.heap.size, 2, none⟩ (.int .i64 y.f.q)).setCell ⟨w.heap.size, 3, none⟩ (.string y.f.d) = w8 at *
  have d0 : w8.cell? ⟨w.heap.size, 0, none⟩ = some (.bool y.f.b) := HB8.out.cell 0
  have d1 : w8.cell? ⟨w.heap.size, 1, none⟩ = some (.bool y.f.e) := HB8.out.cell 1
  have d2 : w8.cell? ⟨w.heap.size, 2, none⟩ = some (.int .i64 y.f.q) := HB8.out.cell 2
  have d3 : w8.cell? ⟨w.heap.size, 3, none⟩ = some (.string y.f.d) := HB8.out.cell 3
  refine bodyPost_ret (v := .tuple #[.agg #[.bool y.f.b, .bool y.f.e, .int .i64 y.f.q, .string y.f.d], .int .i64 0]) (by simp [results, Try.results19, go_sem, d0, d1, d2, d3]) rfl ⟨m3, rfl, ?_, ?_, HQ3.out⟩
  · exact HR3.out.kept HG8.out (fun k hk e => HNB.out (Option.some.inj e ▸ hk))
  · have m1 : Mq (own m s) (own m s) w (w.alloc (.cells #[.bool false, .bool false, .int .i64 0, .string ⟨#[]⟩] 32)) := Mq.of_grown (row := none) (grown_alloc (grown_refl w none) _) (fun b hb => by cases hb) (fun k hk => .inl hk)
    have m2 := m1.trans HM3.out
    exact ⟨HG8.out.os.trans m2.os, HG8.out.tape.trans m2.tape, HG8.out.output.trans m2.output, Nat.le_trans m2.size HG8.out.size, fun i hi hno => (HG8.out.block i (by have := m2.size; omega) (fun e => by have := Option.some.inj e; omega)).trans (m2.block i hi hno), m2.new⟩

theorem peek_calls (h : QRep w m s) (G : QG.Good s n) (hn : n ≤ 1000000) (hw : (Lit.int .i64 x).wf = true) : Calls Try.prog 19 #[.pointer (some ⟨m.q, 0, none⟩), .int .i64 x] w (PeekPost m s x w) := by
  cases hx : s.has x with
  | false => exact peek_no h hw hx
  | true =>
    have hxk := has_spec.1 hx
    by_cases he : s.waits x = []
    · by_cases hd : s.drains x = true ∨ s.packets = []
      · exact peek_busy h hw hxk he hd
      · exact peek_deal h G hn hw hxk he (by cases hq : s.drains x; rfl; exact absurd (.inl hq) hd) (fun e => hd (.inr e))
    · exact peek_some h hw hxk he

end Go.Proofs.Ytcahedlgmljhkaa.QF
