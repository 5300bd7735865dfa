/- The queue: the walk of Take. -/
import Derived.Test.YtcahedlgmljhkaaQF
namespace Go.Proofs.Ytcahedlgmljhkaa.QT
open Go Go.RowKit Go.Maps Go.Proofs.Ytcahedlgmljhkaa.Mem Go.Proofs.Ytcahedlgmljhkaa.Plain Go.Proofs.Ytcahedlgmljhkaa.IMap Go.Proofs.Ytcahedlgmljhkaa.RowAt Go.Proofs.Ytcahedlgmljhkaa.QP Go.Proofs.Ytcahedlgmljhkaa.QG Go.Proofs.Ytcahedlgmljhkaa.QA Go.Proofs.Ytcahedlgmljhkaa.QB Go.Proofs.Ytcahedlgmljhkaa.QC Go.Proofs.Ytcahedlgmljhkaa.QR Go.Proofs.Ytcahedlgmljhkaa.QD Go.Proofs.Ytcahedlgmljhkaa.QE Go.Proofs.Ytcahedlgmljhkaa.QF

variable {w wr : World} {m : QM} {s : QS} {n : Nat} {x : Int}

theorem sum_le {f : Int → Nat} {b : Nat} : ∀ {l : List Int}, (∀ k ∈ l, f k ≤ b) → (l.map f).sum ≤ l.length * b
  | [], _ => by simp
  | k :: l, h => by
    have h1 := h k (by simp)
    have h2 := sum_le (l := l) (fun j hj => h j (List.mem_cons_of_mem _ hj))
    simp only [List.map_cons, List.sum_cons, List.length_cons]
    rw [Nat.succ_mul]
    omega

theorem cnt_le (G : QG.Good s n) (p : Nat) : cnt s p ≤ 512 * s.cut := by
  have h1 : ∀ k ∈ s.keys, cntL (s.waits k) p ≤ 64 * s.cut := fun k hk => Nat.le_trans (List.length_filter_le _ _) (G.wl k hk)
  have h2 := sum_le h1
  have h3 := G.kn
  have h4 : s.keys.length * (64 * s.cut) ≤ 8 * (64 * s.cut) := Nat.mul_le_mul_right _ h3
  unfold cnt
  omega

/-- The count of a packet of which something waits. -/
theorem open_at (G : QG.Good s n) (hx : x ∈ s.keys) {y : Wt} {ys : List Wt} (hy : s.waits x = y :: ys) : ∃ v : Int, lkp s.opens y.p = some v ∧ 1 ≤ v ∧ v ≤ 512 * (s.cut : Int) ∧ y.p < s.cut := by
  obtain ⟨h1, h2⟩ := G.wp x hx y (by rw [hy]; simp)
  obtain ⟨v, hv⟩ := Option.isSome_iff_exists.1 h2
  obtain ⟨q, a, b, c, d⟩ := G.op _ (lkp_mem hv)
  simp only at a c
  have := cnt_le G q
  exact ⟨v, hv, by omega, by omega, h1⟩

/-- Boxes of the call's own are written. -/
theorem boxed {w1 W : World} {o : Nat → Prop} {b : Nat} (h : QRep w1 m s) (hM : Mq o (own m s) w w1) (hb : ¬ own m s b) (hb2 : w.heap.size ≤ b) (g : w1.grownBy W (some b)) : QRep W m s ∧ Mq o (own m s) w W :=
  ⟨h.kept g (fun k hk e => hb (Option.some.inj e ▸ hk)), g.os.trans hM.os, g.tape.trans hM.tape, g.output.trans hM.output, Nat.le_trans hM.size g.size, fun i hi hno => (g.block i (by have := hM.size; omega) (fun e => by have := Option.some.inj e; omega)).trans (hM.block i hi hno), hM.new⟩

theorem lkp_pst (l : List (Int × Int)) (a v : Int) : lkp (pst l a v) a = some v := by
  have : lkp (dlt l a) a = none := lkp_none.2 (fun p hp => by simp [dlt] at hp; exact hp.2)
  unfold lkp at this ⊢
  unfold pst
  rw [List.find?_append]
  cases hf : (dlt l a).find? (fun p => p.1 == a) with
  | none => simp
  | some q => rw [hf] at this; simp at this

theorem less_of {l : List (Int × Int)} {p : Nat} {v : Int} (h : lkp l p = some v) : less l p = if v - 1 = 0 then dlt (pst l p (v - 1)) p else pst l p (v - 1) := by
  unfold less
  simp [h]

def TakePost (m : QM) (s : QS) (x : Int) (w : World) (e : Ending) (w' : World) : Prop :=
  ∃ m', e = .returned (.tuple #[(s.took x).val, .int .i64 (s.takeNum x)]) ∧ QRep w' m' (s.take x) ∧ Mq (own m s) (own m' (s.take x)) w w' ∧ m'.q = m.q

set_option maxHeartbeats 2000000 in
set_option maxRecDepth 100000 in
theorem take_no (h : QRep w m s) (G : QG.Good s n) (hn : n ≤ 1000000) (hw : (Lit.int .i64 x).wf = true) (ht : ¬ s.takeNum x = 0) : Calls Try.prog 12 #[.pointer (some ⟨m.q, 0, none⟩), .int .i64 x] w (TakePost m s x w) := by
  have h1 := h.grown (grown_alloc (grown_refl w none) (.cells #[.bool false, .bool false, .int .i64 0, .string ⟨#[]⟩] 32))
  have hP := peek_calls h1 G hn hw
  have e1 : s.took x = Fr.none := by unfold QS.took; rw [if_neg ht]
  have e2 : s.take x = s := by unfold QS.take; rw [if_neg ht]
  unfold PeekPost at hP
  rw [if_neg ht, if_neg ht] at hP
  unfold TakePost
  rw [e1, e2]
  have HP := Lib.hid hP
  obtain ⟨tn, htn⟩ : ∃ tn, s.takeNum x = tn := ⟨_, rfl⟩
  rw [htn] at HP ht
  have htb : (tn == 0) = false := by simpa using ht
  have hno : ¬ own m s w.heap.size := fun ho => by have := h.own_lt _ ho; omega
  have HNO := Lib.hid hno
  rw [htn]
  clear e1 e2 hP htn h1 hno
  go_enter Try.func12, Try.ntmps12
  go_wp2_with fail
  refine HP.out.mono ?_
  rintro e w1 ⟨m1, rfl, hr1, hm1, hq1⟩
  unfold Fr.val Fr.none
  have hB3 : Blk w1 w.heap.size #[.bool false, .bool false, .int .i64 0, .string ⟨#[]⟩] 32 := (hm1.block _ (Blk.new w _ 32).lt HNO.out).trans (Blk.new w _ 32)
  have b0 : w1.cell? ⟨w.heap.size, 0, none⟩ = some (.bool false) := hB3.cell 0
  have b1 : w1.cell? ⟨w.heap.size, 1, none⟩ = some (.bool false) := hB3.cell 1
  have b2 : w1.cell? ⟨w.heap.size, 2, none⟩ = some (.int .i64 0) := hB3.cell 2
  have b3 : w1.cell? ⟨w.heap.size, 3, none⟩ = some (.string ⟨#[]⟩) := hB3.cell 3
  have z0 := hB3.free 0
  have z1 := hB3.free 1
  have z2 := hB3.free 2
  have z3 := hB3.free 3
  have hlt := hB3.lt
  have hnb : ¬ own m1 s w.heap.size := fun ho => by
    rcases hm1.new _ ho with h1 | h1
    · exact HNO.out h1
    · simp only [World.alloc, Array.size_push] at h1
      omega
  have HB8 := Lib.hid (((((hB3.set 0 (.bool false)).set 1 (.bool false)).set 2 (.int .i64 0)).set 3 (.string ⟨#[]⟩)).alloc (.cells #[.bool false, .bool false, .int .i64 0, .string ⟨#[]⟩] 32))
  have HG8 := Lib.hid (grown_alloc (grown_set (grown_set (grown_set (grown_set (grown_refl w1 (some w.heap.size)) 0 (.bool false)) 1 (.bool false)) 2 (.int .i64 0)) 3 (.string ⟨#[]⟩)) (.cells #[.bool false, .bool false, .int .i64 0, .string ⟨#[]⟩] 32))
  have HBX := Lib.hid (boxed (w := w) hr1 ((Mq.of_grown (o := own m s) (o' := own m s) (row := none) (grown_alloc (grown_refl w none) _) (fun b hb => by cases hb) (fun k hk => .inl hk)).trans hm1) hnb (Nat.le_refl _) HG8.out)
  have HQ1 := Lib.hid hq1
  clear hr1 hm1 hq1 hB3 hnb
  go_wp2
  generalize ((((w1.setCell ⟨w.heap.size, 0, none⟩ (.bool false)).setCell ⟨w.heap.size, 1, none⟩ (.bool false)).setCell ⟨w.heap.size, 2, none⟩ (.int .i64 0)).setCell ⟨w.heap.size, 3, none⟩ (.string ⟨#[]⟩)).alloc (.cells #[.bool false, .bool false, .int .i64 0, .string ⟨#[]⟩] 32) = w8 at *
  have d0 : w8.cell? ⟨w.heap.size, 0, none⟩ = some (.bool false) := HB8.out.cell 0
  have d1 : w8.cell? ⟨w.heap.size, 1, none⟩ = some (.bool false) := HB8.out.cell 1
  have d2 : w8.cell? ⟨w.heap.size, 2, none⟩ = some (.int .i64 0) := HB8.out.cell 2
  have d3 : w8.cell? ⟨w.heap.size, 3, none⟩ = some (.string ⟨#[]⟩) := HB8.out.cell 3
  exact bodyPost_ret (v := .tuple #[.agg #[.bool false, .bool false, .int .i64 0, .string ⟨#[]⟩], .int .i64 tn]) (by simp [results, Try.results12, go_sem, d0, d1, d2, d3]) rfl ⟨m1, rfl, HBX.out.1, HBX.out.2, HQ1.out⟩

set_option maxHeartbeats 4000000 in
set_option maxRecDepth 100000 in
theorem take_yes (h : QRep w m s) (G : QG.Good s n) (hn : n ≤ 1000000) (hw : (Lit.int .i64 x).wf = true) (ht : s.takeNum x = 0) : Calls Try.prog 12 #[.pointer (some ⟨m.q, 0, none⟩), .int .i64 x] w (TakePost m s x w) := by
  have h1 := h.grown (grown_alloc (grown_refl w none) (.cells #[.bool false, .bool false, .int .i64 0, .string ⟨#[]⟩] 32))
  have hP := peek_calls h1 G hn hw
  obtain ⟨hG1, hW1, hK1⟩ := peek_good G ht
  have hxk : x ∈ (s.peek x).keys := by rw [hK1]; exact (take_spec ht).1
  obtain ⟨y, ys, hy⟩ : ∃ y ys, (s.peek x).waits x = y :: ys := by cases hq : (s.peek x).waits x with | nil => exact absurd hq hW1 | cons t ts => exact ⟨t, ts, rfl⟩
  have e1 : s.took x = y.f := by unfold QS.took; rw [if_pos ht, hy]; rfl
  have e2 : s.take x = (s.peek x).pop x := by unfold QS.take; rw [if_pos ht]
  unfold PeekPost at hP
  rw [if_pos ht, if_pos ht, ht, hy] at hP
  simp only [List.headD_cons] at hP
  unfold TakePost
  rw [e1, e2, ht]
  obtain ⟨s1, hs1⟩ : ∃ s1, s.peek x = s1 := ⟨_, rfl⟩
  rw [hs1] at hP hG1 hxk hy ⊢
  obtain ⟨v, hv, hv1, hv2, hpc⟩ := open_at hG1 hxk hy
  have hcut1 := hG1.cut
  have hfew1 := hG1.few
  have HP := Lib.hid hP
  have HY := Lib.hid hy
  have HV := Lib.hid hv
  have HG1 := Lib.hid hG1
  have hno : ¬ own m s w.heap.size := fun ho => by have := h.own_lt _ ho; omega
  have HNO := Lib.hid hno
  clear e1 e2 hP ht h1 hno hy hv hs1 hG1 hW1 hK1
  unfold Fr.val
  go_enter Try.func12, Try.ntmps12
  go_wp2_with fail
  refine HP.out.mono ?_
  rintro e w1 ⟨m1, rfl, hr1, hm1, hq1⟩
  unfold Fr.val
  have hB3 : Blk w1 w.heap.size #[.bool false, .bool false, .int .i64 0, .string ⟨#[]⟩] 32 := (hm1.block _ (Blk.new w _ 32).lt HNO.out).trans (Blk.new w _ 32)
  have hnb : ¬ own m1 s1 w.heap.size := fun ho => by
    rcases hm1.new _ ho with h1 | h1
    · exact HNO.out h1
    · simp only [World.alloc, Array.size_push] at h1
      omega
  have HNB := Lib.hid hnb
  have HM1 := Lib.hid ((Mq.of_grown (o := own m s) (o' := own m s) (row := none) (grown_alloc (grown_refl w none) (.cells #[.bool false, .bool false, .int .i64 0, .string ⟨#[]⟩] 32)) (fun b hb => by cases hb) (fun k hk => .inl hk)).trans hm1)
  have HQ1 := Lib.hid hq1
  obtain ⟨g, o, c, hv3, hlc, hgl, f0, f1, f2, f3, f4⟩ := first_cells hr1 hxk HY.out
  -- the box of f
  have hr2 := hr1.grown (grown_alloc (grown_refl w1 none) (.cells #[.bool y.f.b, .bool y.f.e, .int .i64 y.f.q, .string y.f.d] 32))
  have hl := run_lane_in hr2 hxk hw
  have k6 : w1.cell? ⟨m.q, 6, none⟩ = some (.map (some m1.bm)) := by have := hr1.blk.cell 6; rw [hq1] at this; exact this
  have hqlt : m.q < w1.heap.size := by have := hr1.blk.lt; rwa [hq1] at this
  have k0 : w1.cell? ⟨m1.lp x, 0, none⟩ = some (.slice (some ⟨g, o, none⟩) (s1.waits x).length c) := by
    have := (hr1.lane x hxk).cell 0
    rw [hv3] at this
    exact this
  have kf := (hr1.lane x hxk).free 0
  have klt := (hr1.lane x hxk).lt
  have HR2 := Lib.hid hr2
  have HR1 := Lib.hid hr1
  have HB3 := Lib.hid hB3
  have HV3 := Lib.hid hv3
  have hpos : 0 < (s1.waits x).length := by rw [HY.out]; simp
  have hp1 : 1 ≤ (s1.waits x).length := hpos
  have hp2 : 1 ≤ c := by omega
  have hblt := hB3.lt
  clear hr1 hm1 hq1 hB3 hnb hr2 hv3
  have hpw : (Lit.int .i64 (y.p : Int)).wf = true := wf_i64_iff.2 (by omega)
  have HLK7 : Hid (IMap.look (openPairs { s1 with waits := upd s1.waits x ys }) (y.p : Int) = some (.int .i64 v)) := Lib.hid (by rw [look_opens]; show (lkp s1.opens (y.p : Int)).map _ = _; rw [HV.out]; rfl)
  have HLK8 : Hid (IMap.look (openPairs { s1 with waits := upd s1.waits x ys, opens := pst s1.opens (y.p : Int) (v - 1) }) (y.p : Int) = some (.int .i64 (v - 1))) := Lib.hid (by rw [look_opens]; show (lkp (pst s1.opens (y.p : Int) (v - 1)) (y.p : Int)).map _ = _; rw [lkp_pst]; rfl)
  have HLM : Hid ((openPairs { s1 with waits := upd s1.waits x ys }).length < maxLen) := Lib.hid (by rw [len_opens]; unfold maxLen; simp only; omega)
  have hne1 : ¬ m.q = m1.lp x := fun e => ne_of_ty HR1.out.blk (HR1.out.lane x hxk) (by decide) (HQ1.out.trans e)
  have hne2 : ¬ m1.lp x = m.q := fun e => hne1 e.symm
  have k5 : w1.cell? ⟨m.q, 5, none⟩ = some (.map (some m1.bo)) := by have := HR1.out.blk.cell 5; rw [HQ1.out] at this; exact this
  by_cases hv : v = 1
  · subst hv
    rw [Int.sub_self] at HLK8
    by_cases hc : c = 1
    · subst hc
      have hl1 : (s1.waits x).length = 1 := by omega
      have hr7 : RowAt w1 0 55 5 (.slice (some ⟨g, o, none⟩) 0 0) ys.length (flat ys) := by
        have hr := (HR1.out.row x hxk)
        rw [HV3.out] at hr
        have hys : ys = [] := by have := hl1; rw [HY.out] at this; simpa using this
        subst hys
        exact row_nil hr (Nat.zero_le _)
      have hs7 := setLane (v7 := .slice (some ⟨g, o, none⟩) 0 0) HR1.out hxk (grown_refl w1 _) hr7 (.inl (by rw [HV3.out]; rfl))
      have H7 := Lib.hid (hs7.1.grown (grown_alloc (grown_refl _ none) (.cells #[.bool y.f.b, .bool y.f.e, .int .i64 y.f.q, .string y.f.d] 32)))
      have N7 := Lib.hid ((hs7.2.trans (Mq.of_grown (row := none) (o' := own (QM.setWv m1 x (.slice (some ⟨g, o, none⟩) 0 0)) { s1 with waits := upd s1.waits x ys }) (grown_alloc (grown_refl _ none) (.cells #[.bool y.f.b, .bool y.f.e, .int .i64 y.f.q, .string y.f.d] 32)) (fun b hb => by cases hb) (fun k hk => .inl hk))))
      have M7 := Lib.hid (HM1.out.trans N7.out)
      have HBF : Hid (Blk ((w1.setCell ⟨m1.lp x, 0, none⟩ (.slice (some ⟨g, o, none⟩) 0 0)).alloc (.cells #[.bool y.f.b, .bool y.f.e, .int .i64 y.f.q, .string y.f.d] 32)) w1.heap.size #[.bool y.f.b, .bool y.f.e, .int .i64 y.f.q, .string y.f.d] 32) := Lib.hid (by have := Blk.new (w1.setCell ⟨m1.lp x, 0, none⟩ (.slice (some ⟨g, o, none⟩) 0 0)) #[.bool y.f.b, .bool y.f.e, .int .i64 y.f.q, .string y.f.d] 32; simpa using this)
      have HBR := Lib.hid ((HB3.out.other (a := ⟨m1.lp x, 0, none⟩) (fun e => HNB.out (e ▸ own_lp hxk)) (.slice (some ⟨g, o, none⟩) 0 0)).alloc (.cells #[.bool y.f.b, .bool y.f.e, .int .i64 y.f.q, .string y.f.d] 32))
      have nbf : some w1.heap.size ≠ some m1.bo := fun e => by obtain ⟨es, cl, hc⟩ := map_obj H7.out.op; exact ne_of_map HBF.out hc (Option.some.inj e)
      have nbr : some w.heap.size ≠ some m1.bo := fun e => by obtain ⟨es, cl, hc⟩ := map_obj H7.out.op; exact ne_of_map HBR.out hc (Option.some.inj e)
      have NBF := Lib.hid nbf
      have NBR := Lib.hid nbr
      clear hr7 hs7 nbf nbr
      rw [hl1] at k0
      go_wp2_with (first
        | (at_lookup; ((with_reducible refine wpList_ilook H7.out.op rfl _ _ 45 3 rfl law3 Try.underlying3 Try.underlying45 _ (zero3 _) rfl (y.p : Int) rfl hpw ?_); rw [HLK7.out]))
        | (at_mapUpdate; ((with_reducible refine wpList_istore H7.out.op rfl _ _ _ 45 3 rfl law3 Try.underlying3 Try.underlying45 HLM.out rfl (y.p : Int) rfl hpw (.int .i64 0) rfl ?_); intro w8 hm8 hg8; rw [put_opens] at hm8; have hs8 := setOpens H7.out hg8 hm8; have H8 := Lib.hid hs8.1; have M8 := Lib.hid (M7.out.trans hs8.2); have N8 := Lib.hid (N7.out.trans hs8.2); have HBF8 := Lib.hid (HBF.out.grown hg8 NBF.out); have HBR8 := Lib.hid (HBR.out.grown hg8 NBR.out); have n5 : w8.cell? ⟨m.q, 5, none⟩ = some (.map (some m1.bo)) := (by have := H8.out.blk.cell 5; rw [show (QM.setWv m1 x (.slice (some ⟨g, o, none⟩) 0 0)).q = m.q from HQ1.out] at this; exact this); clear hm8 hg8 hs8))
        | (at_lookup; ((with_reducible refine wpList_ilook H8.out.op rfl _ _ 45 3 rfl law3 Try.underlying3 Try.underlying45 _ (zero3 _) rfl (y.p : Int) rfl hpw ?_); rw [HLK8.out]))
        | (at_delete; ((with_reducible refine wpList_idelete H8.out.op rfl _ _ 45 3 rfl law3 Try.underlying3 Try.underlying45 rfl (y.p : Int) rfl hpw ?_); intro w9 hm9 hg9; rw [del_opens] at hm9; have hs9 := setOpens H8.out hg9 hm9; have H9 := Lib.hid hs9.1; have M9 := Lib.hid (M8.out.trans hs9.2); have N9 := Lib.hid (N8.out.trans hs9.2); have HBF9 := Lib.hid (HBF8.out.grown hg9 NBF.out); have HBR9 := Lib.hid (HBR8.out.grown hg9 NBR.out); clear hm9 hg9 hs9; have a0 : w9.cell? ⟨w1.heap.size, 0, none⟩ = some (.bool y.f.b) := HBF9.out.cell 0; have a1 : w9.cell? ⟨w1.heap.size, 1, none⟩ = some (.bool y.f.e) := HBF9.out.cell 1; have a2 : w9.cell? ⟨w1.heap.size, 2, none⟩ = some (.int .i64 y.f.q) := HBF9.out.cell 2; have a3 : w9.cell? ⟨w1.heap.size, 3, none⟩ = some (.string y.f.d) := HBF9.out.cell 3; have b0 : w9.cell? ⟨w.heap.size, 0, none⟩ = some (.bool false) := HBR9.out.cell 0; have b1 : w9.cell? ⟨w.heap.size, 1, none⟩ = some (.bool false) := HBR9.out.cell 1; have b2 : w9.cell? ⟨w.heap.size, 2, none⟩ = some (.int .i64 0) := HBR9.out.cell 2; have b3 : w9.cell? ⟨w.heap.size, 3, none⟩ = some (.string ⟨#[]⟩) := HBR9.out.cell 3; have z0 := HBR9.out.free 0; have z1 := HBR9.out.free 1; have z2 := HBR9.out.free 2; have z3 := HBR9.out.free 3)))
      have hno : ¬ own (QM.setWv m1 x (.slice (some ⟨g, o, none⟩) 0 0)) { s1 with waits := upd s1.waits x ys, opens := dlt (pst s1.opens (y.p : Int) 0) (y.p : Int) } w.heap.size := fun ho => by
        rcases N9.out.new _ ho with h1 | h1
        · exact HNB.out h1
        · omega
      have hbx := boxed H9.out M9.out hno (Nat.le_refl _) (grown_set (grown_set (grown_set (grown_set (grown_refl w9 (some w.heap.size)) 0 (.bool y.f.b)) 1 (.bool y.f.e)) 2 (.int .i64 y.f.q)) 3 (.string y.f.d))
      have HB9 := ((((HBR9.out.set 0 (.bool y.f.b)).set 1 (.bool y.f.e)).set 2 (.int .i64 y.f.q)).set 3 (.string y.f.d))
      generalize (((w9.setCell ⟨w.heap.size, 0, none⟩ (.bool y.f.b)).setCell ⟨w.heap.size, 1, none⟩ (.bool y.f.e)).setCell ⟨w.heap.size, 2, none⟩ (.int .i64 y.f.q)).setCell ⟨w.heap.size, 3, none⟩ (.string y.f.d) = w10 at *
      have d0 : w10.cell? ⟨w.heap.size, 0, none⟩ = some (.bool y.f.b) := HB9.cell 0
      have d1 : w10.cell? ⟨w.heap.size, 1, none⟩ = some (.bool y.f.e) := HB9.cell 1
      have d2 : w10.cell? ⟨w.heap.size, 2, none⟩ = some (.int .i64 y.f.q) := HB9.cell 2
      have d3 : w10.cell? ⟨w.heap.size, 3, none⟩ = some (.string y.f.d) := HB9.cell 3
      have hpop : s1.pop x = { s1 with waits := upd s1.waits x ys, opens := dlt (pst s1.opens (y.p : Int) 0) (y.p : Int) } := by
        unfold QS.pop
        rw [HY.out]
        simp only [List.tail_cons, List.headD_cons]
        rw [less_of HV.out, Int.sub_self, if_pos rfl]
      rw [hpop]
      exact bodyPost_ret (v := .tuple #[.agg #[.bool y.f.b, .bool y.f.e, .int .i64 y.f.q, .string y.f.d], .int .i64 0]) (by simp [results, Try.results12, go_sem, d0, d1, d2, d3]) rfl ⟨rfl, _, hbx.1, hbx.2, HQ1.out⟩
    · have hr7 : RowAt w1 0 55 5 (.slice (some ⟨g, o + 5, none⟩) ((s1.waits x).length - 1) (c - 1)) ys.length (flat ys) := by
        have hr := (HR1.out.row x hxk)
        rw [HV3.out] at hr
        have := row_drop (p := 1) hr (by omega)
        rw [HY.out] at this ⊢
        simpa [flat, Wt.cells] using this
      have hs7 := setLane (v7 := .slice (some ⟨g, o + 5, none⟩) ((s1.waits x).length - 1) (c - 1)) HR1.out hxk (grown_refl w1 _) hr7 (.inl (by rw [HV3.out]; rfl))
      have H7 := Lib.hid (hs7.1.grown (grown_alloc (grown_refl _ none) (.cells #[.bool y.f.b, .bool y.f.e, .int .i64 y.f.q, .string y.f.d] 32)))
      have N7 := Lib.hid ((hs7.2.trans (Mq.of_grown (row := none) (o' := own (QM.setWv m1 x (.slice (some ⟨g, o + 5, none⟩) ((s1.waits x).length - 1) (c - 1))) { s1 with waits := upd s1.waits x ys }) (grown_alloc (grown_refl _ none) (.cells #[.bool y.f.b, .bool y.f.e, .int .i64 y.f.q, .string y.f.d] 32)) (fun b hb => by cases hb) (fun k hk => .inl hk))))
      have M7 := Lib.hid (HM1.out.trans N7.out)
      have HBF : Hid (Blk ((w1.setCell ⟨m1.lp x, 0, none⟩ (.slice (some ⟨g, o + 5, none⟩) ((s1.waits x).length - 1) (c - 1))).alloc (.cells #[.bool y.f.b, .bool y.f.e, .int .i64 y.f.q, .string y.f.d] 32)) w1.heap.size #[.bool y.f.b, .bool y.f.e, .int .i64 y.f.q, .string y.f.d] 32) := Lib.hid (by have := Blk.new (w1.setCell ⟨m1.lp x, 0, none⟩ (.slice (some ⟨g, o + 5, none⟩) ((s1.waits x).length - 1) (c - 1))) #[.bool y.f.b, .bool y.f.e, .int .i64 y.f.q, .string y.f.d] 32; simpa using this)
      have HBR := Lib.hid ((HB3.out.other (a := ⟨m1.lp x, 0, none⟩) (fun e => HNB.out (e ▸ own_lp hxk)) (.slice (some ⟨g, o + 5, none⟩) ((s1.waits x).length - 1) (c - 1))).alloc (.cells #[.bool y.f.b, .bool y.f.e, .int .i64 y.f.q, .string y.f.d] 32))
      have nbf : some w1.heap.size ≠ some m1.bo := fun e => by obtain ⟨es, cl, hc⟩ := map_obj H7.out.op; exact ne_of_map HBF.out hc (Option.some.inj e)
      have nbr : some w.heap.size ≠ some m1.bo := fun e => by obtain ⟨es, cl, hc⟩ := map_obj H7.out.op; exact ne_of_map HBR.out hc (Option.some.inj e)
      have NBF := Lib.hid nbf
      have NBR := Lib.hid nbr
      clear hr7 hs7 nbf nbr
      go_wp2_with (first
        | (at_lookup; ((with_reducible refine wpList_ilook H7.out.op rfl _ _ 45 3 rfl law3 Try.underlying3 Try.underlying45 _ (zero3 _) rfl (y.p : Int) rfl hpw ?_); rw [HLK7.out]))
        | (at_mapUpdate; ((with_reducible refine wpList_istore H7.out.op rfl _ _ _ 45 3 rfl law3 Try.underlying3 Try.underlying45 HLM.out rfl (y.p : Int) rfl hpw (.int .i64 0) rfl ?_); intro w8 hm8 hg8; rw [put_opens] at hm8; have hs8 := setOpens H7.out hg8 hm8; have H8 := Lib.hid hs8.1; have M8 := Lib.hid (M7.out.trans hs8.2); have N8 := Lib.hid (N7.out.trans hs8.2); have HBF8 := Lib.hid (HBF.out.grown hg8 NBF.out); have HBR8 := Lib.hid (HBR.out.grown hg8 NBR.out); have n5 : w8.cell? ⟨m.q, 5, none⟩ = some (.map (some m1.bo)) := (by have := H8.out.blk.cell 5; rw [show (QM.setWv m1 x (.slice (some ⟨g, o + 5, none⟩) ((s1.waits x).length - 1) (c - 1))).q = m.q from HQ1.out] at this; exact this); clear hm8 hg8 hs8))
        | (at_lookup; ((with_reducible refine wpList_ilook H8.out.op rfl _ _ 45 3 rfl law3 Try.underlying3 Try.underlying45 _ (zero3 _) rfl (y.p : Int) rfl hpw ?_); rw [HLK8.out]))
        | (at_delete; ((with_reducible refine wpList_idelete H8.out.op rfl _ _ 45 3 rfl law3 Try.underlying3 Try.underlying45 rfl (y.p : Int) rfl hpw ?_); intro w9 hm9 hg9; rw [del_opens] at hm9; have hs9 := setOpens H8.out hg9 hm9; have H9 := Lib.hid hs9.1; have M9 := Lib.hid (M8.out.trans hs9.2); have N9 := Lib.hid (N8.out.trans hs9.2); have HBF9 := Lib.hid (HBF8.out.grown hg9 NBF.out); have HBR9 := Lib.hid (HBR8.out.grown hg9 NBR.out); clear hm9 hg9 hs9; have a0 : w9.cell? ⟨w1.heap.size, 0, none⟩ = some (.bool y.f.b) := HBF9.out.cell 0; have a1 : w9.cell? ⟨w1.heap.size, 1, none⟩ = some (.bool y.f.e) := HBF9.out.cell 1; have a2 : w9.cell? ⟨w1.heap.size, 2, none⟩ = some (.int .i64 y.f.q) := HBF9.out.cell 2; have a3 : w9.cell? ⟨w1.heap.size, 3, none⟩ = some (.string y.f.d) := HBF9.out.cell 3; have b0 : w9.cell? ⟨w.heap.size, 0, none⟩ = some (.bool false) := HBR9.out.cell 0; have b1 : w9.cell? ⟨w.heap.size, 1, none⟩ = some (.bool false) := HBR9.out.cell 1; have b2 : w9.cell? ⟨w.heap.size, 2, none⟩ = some (.int .i64 0) := HBR9.out.cell 2; have b3 : w9.cell? ⟨w.heap.size, 3, none⟩ = some (.string ⟨#[]⟩) := HBR9.out.cell 3; have z0 := HBR9.out.free 0; have z1 := HBR9.out.free 1; have z2 := HBR9.out.free 2; have z3 := HBR9.out.free 3)))
      have hno : ¬ own (QM.setWv m1 x (.slice (some ⟨g, o + 5, none⟩) ((s1.waits x).length - 1) (c - 1))) { s1 with waits := upd s1.waits x ys, opens := dlt (pst s1.opens (y.p : Int) 0) (y.p : Int) } w.heap.size := fun ho => by
        rcases N9.out.new _ ho with h1 | h1
        · exact HNB.out h1
        · omega
      have hbx := boxed H9.out M9.out hno (Nat.le_refl _) (grown_set (grown_set (grown_set (grown_set (grown_refl w9 (some w.heap.size)) 0 (.bool y.f.b)) 1 (.bool y.f.e)) 2 (.int .i64 y.f.q)) 3 (.string y.f.d))
      have HB9 := ((((HBR9.out.set 0 (.bool y.f.b)).set 1 (.bool y.f.e)).set 2 (.int .i64 y.f.q)).set 3 (.string y.f.d))
      generalize (((w9.setCell ⟨w.heap.size, 0, none⟩ (.bool y.f.b)).setCell ⟨w.heap.size, 1, none⟩ (.bool y.f.e)).setCell ⟨w.heap.size, 2, none⟩ (.int .i64 y.f.q)).setCell ⟨w.heap.size, 3, none⟩ (.string y.f.d) = w10 at *
      have d0 : w10.cell? ⟨w.heap.size, 0, none⟩ = some (.bool y.f.b) := HB9.cell 0
      have d1 : w10.cell? ⟨w.heap.size, 1, none⟩ = some (.bool y.f.e) := HB9.cell 1
      have d2 : w10.cell? ⟨w.heap.size, 2, none⟩ = some (.int .i64 y.f.q) := HB9.cell 2
      have d3 : w10.cell? ⟨w.heap.size, 3, none⟩ = some (.string y.f.d) := HB9.cell 3
      have hpop : s1.pop x = { s1 with waits := upd s1.waits x ys, opens := dlt (pst s1.opens (y.p : Int) 0) (y.p : Int) } := by
        unfold QS.pop
        rw [HY.out]
        simp only [List.tail_cons, List.headD_cons]
        rw [less_of HV.out, Int.sub_self, if_pos rfl]
      rw [hpop]
      exact bodyPost_ret (v := .tuple #[.agg #[.bool y.f.b, .bool y.f.e, .int .i64 y.f.q, .string y.f.d], .int .i64 0]) (by simp [results, Try.results12, go_sem, d0, d1, d2, d3]) rfl ⟨rfl, _, hbx.1, hbx.2, HQ1.out⟩
  · have hvb : ((v - 1) == 0) = false := by simp; omega
    have hvn : ¬ v - 1 = 0 := by omega
    by_cases hc : c = 1
    · subst hc
      have hl1 : (s1.waits x).length = 1 := by omega
      have hr7 : RowAt w1 0 55 5 (.slice (some ⟨g, o, none⟩) 0 0) ys.length (flat ys) := by
        have hr := (HR1.out.row x hxk)
        rw [HV3.out] at hr
        have hys : ys = [] := by have := hl1; rw [HY.out] at this; simpa using this
        subst hys
        exact row_nil hr (Nat.zero_le _)
      have hs7 := setLane (v7 := .slice (some ⟨g, o, none⟩) 0 0) HR1.out hxk (grown_refl w1 _) hr7 (.inl (by rw [HV3.out]; rfl))
      have H7 := Lib.hid (hs7.1.grown (grown_alloc (grown_refl _ none) (.cells #[.bool y.f.b, .bool y.f.e, .int .i64 y.f.q, .string y.f.d] 32)))
      have N7 := Lib.hid ((hs7.2.trans (Mq.of_grown (row := none) (o' := own (QM.setWv m1 x (.slice (some ⟨g, o, none⟩) 0 0)) { s1 with waits := upd s1.waits x ys }) (grown_alloc (grown_refl _ none) (.cells #[.bool y.f.b, .bool y.f.e, .int .i64 y.f.q, .string y.f.d] 32)) (fun b hb => by cases hb) (fun k hk => .inl hk))))
      have M7 := Lib.hid (HM1.out.trans N7.out)
      have HBF : Hid (Blk ((w1.setCell ⟨m1.lp x, 0, none⟩ (.slice (some ⟨g, o, none⟩) 0 0)).alloc (.cells #[.bool y.f.b, .bool y.f.e, .int .i64 y.f.q, .string y.f.d] 32)) w1.heap.size #[.bool y.f.b, .bool y.f.e, .int .i64 y.f.q, .string y.f.d] 32) := Lib.hid (by have := Blk.new (w1.setCell ⟨m1.lp x, 0, none⟩ (.slice (some ⟨g, o, none⟩) 0 0)) #[.bool y.f.b, .bool y.f.e, .int .i64 y.f.q, .string y.f.d] 32; simpa using this)
      have HBR := Lib.hid ((HB3.out.other (a := ⟨m1.lp x, 0, none⟩) (fun e => HNB.out (e ▸ own_lp hxk)) (.slice (some ⟨g, o, none⟩) 0 0)).alloc (.cells #[.bool y.f.b, .bool y.f.e, .int .i64 y.f.q, .string y.f.d] 32))
      have nbf : some w1.heap.size ≠ some m1.bo := fun e => by obtain ⟨es, cl, hc⟩ := map_obj H7.out.op; exact ne_of_map HBF.out hc (Option.some.inj e)
      have nbr : some w.heap.size ≠ some m1.bo := fun e => by obtain ⟨es, cl, hc⟩ := map_obj H7.out.op; exact ne_of_map HBR.out hc (Option.some.inj e)
      have NBF := Lib.hid nbf
      have NBR := Lib.hid nbr
      clear hr7 hs7 nbf nbr
      rw [hl1] at k0
      go_wp2_with (first
        | (at_lookup; ((with_reducible refine wpList_ilook H7.out.op rfl _ _ 45 3 rfl law3 Try.underlying3 Try.underlying45 _ (zero3 _) rfl (y.p : Int) rfl hpw ?_); rw [HLK7.out]))
        | (at_mapUpdate; ((with_reducible refine wpList_istore H7.out.op rfl _ _ _ 45 3 rfl law3 Try.underlying3 Try.underlying45 HLM.out rfl (y.p : Int) rfl hpw (.int .i64 (v - 1)) rfl ?_); intro w8 hm8 hg8; rw [put_opens] at hm8; have hs8 := setOpens H7.out hg8 hm8; have H8 := Lib.hid hs8.1; have M8 := Lib.hid (M7.out.trans hs8.2); have N8 := Lib.hid (N7.out.trans hs8.2); have HBF8 := Lib.hid (HBF.out.grown hg8 NBF.out); have HBR8 := Lib.hid (HBR.out.grown hg8 NBR.out); have n5 : w8.cell? ⟨m.q, 5, none⟩ = some (.map (some m1.bo)) := (by have := H8.out.blk.cell 5; rw [show (QM.setWv m1 x (.slice (some ⟨g, o, none⟩) 0 0)).q = m.q from HQ1.out] at this; exact this); clear hm8 hg8 hs8; have a0 : w8.cell? ⟨w1.heap.size, 0, none⟩ = some (.bool y.f.b) := HBF8.out.cell 0; have a1 : w8.cell? ⟨w1.heap.size, 1, none⟩ = some (.bool y.f.e) := HBF8.out.cell 1; have a2 : w8.cell? ⟨w1.heap.size, 2, none⟩ = some (.int .i64 y.f.q) := HBF8.out.cell 2; have a3 : w8.cell? ⟨w1.heap.size, 3, none⟩ = some (.string y.f.d) := HBF8.out.cell 3; have b0 : w8.cell? ⟨w.heap.size, 0, none⟩ = some (.bool false) := HBR8.out.cell 0; have b1 : w8.cell? ⟨w.heap.size, 1, none⟩ = some (.bool false) := HBR8.out.cell 1; have b2 : w8.cell? ⟨w.heap.size, 2, none⟩ = some (.int .i64 0) := HBR8.out.cell 2; have b3 : w8.cell? ⟨w.heap.size, 3, none⟩ = some (.string ⟨#[]⟩) := HBR8.out.cell 3; have z0 := HBR8.out.free 0; have z1 := HBR8.out.free 1; have z2 := HBR8.out.free 2; have z3 := HBR8.out.free 3))
        | (at_lookup; ((with_reducible refine wpList_ilook H8.out.op rfl _ _ 45 3 rfl law3 Try.underlying3 Try.underlying45 _ (zero3 _) rfl (y.p : Int) rfl hpw ?_); rw [HLK8.out])))
      have hno : ¬ own (QM.setWv m1 x (.slice (some ⟨g, o, none⟩) 0 0)) { s1 with waits := upd s1.waits x ys, opens := pst s1.opens (y.p : Int) (v - 1) } w.heap.size := fun ho => by
        rcases N8.out.new _ ho with h1 | h1
        · exact HNB.out h1
        · omega
      have hbx := boxed H8.out M8.out hno (Nat.le_refl _) (grown_set (grown_set (grown_set (grown_set (grown_refl w8 (some w.heap.size)) 0 (.bool y.f.b)) 1 (.bool y.f.e)) 2 (.int .i64 y.f.q)) 3 (.string y.f.d))
      have HB9 := ((((HBR8.out.set 0 (.bool y.f.b)).set 1 (.bool y.f.e)).set 2 (.int .i64 y.f.q)).set 3 (.string y.f.d))
      generalize (((w8.setCell ⟨w.heap.size, 0, none⟩ (.bool y.f.b)).setCell ⟨w.heap.size, 1, none⟩ (.bool y.f.e)).setCell ⟨w.heap.size, 2, none⟩ (.int .i64 y.f.q)).setCell ⟨w.heap.size, 3, none⟩ (.string y.f.d) = w10 at *
      have d0 : w10.cell? ⟨w.heap.size, 0, none⟩ = some (.bool y.f.b) := HB9.cell 0
      have d1 : w10.cell? ⟨w.heap.size, 1, none⟩ = some (.bool y.f.e) := HB9.cell 1
      have d2 : w10.cell? ⟨w.heap.size, 2, none⟩ = some (.int .i64 y.f.q) := HB9.cell 2
      have d3 : w10.cell? ⟨w.heap.size, 3, none⟩ = some (.string y.f.d) := HB9.cell 3
      have hpop : s1.pop x = { s1 with waits := upd s1.waits x ys, opens := pst s1.opens (y.p : Int) (v - 1) } := by
        unfold QS.pop
        rw [HY.out]
        simp only [List.tail_cons, List.headD_cons]
        rw [less_of HV.out, if_neg hvn]
      rw [hpop]
      exact bodyPost_ret (v := .tuple #[.agg #[.bool y.f.b, .bool y.f.e, .int .i64 y.f.q, .string y.f.d], .int .i64 0]) (by simp [results, Try.results12, go_sem, d0, d1, d2, d3]) rfl ⟨rfl, _, hbx.1, hbx.2, HQ1.out⟩
    · have hr7 : RowAt w1 0 55 5 (.slice (some ⟨g, o + 5, none⟩) ((s1.waits x).length - 1) (c - 1)) ys.length (flat ys) := by
        have hr := (HR1.out.row x hxk)
        rw [HV3.out] at hr
        have := row_drop (p := 1) hr (by omega)
        rw [HY.out] at this ⊢
        simpa [flat, Wt.cells] using this
      have hs7 := setLane (v7 := .slice (some ⟨g, o + 5, none⟩) ((s1.waits x).length - 1) (c - 1)) HR1.out hxk (grown_refl w1 _) hr7 (.inl (by rw [HV3.out]; rfl))
      have H7 := Lib.hid (hs7.1.grown (grown_alloc (grown_refl _ none) (.cells #[.bool y.f.b, .bool y.f.e, .int .i64 y.f.q, .string y.f.d] 32)))
      have N7 := Lib.hid ((hs7.2.trans (Mq.of_grown (row := none) (o' := own (QM.setWv m1 x (.slice (some ⟨g, o + 5, none⟩) ((s1.waits x).length - 1) (c - 1))) { s1 with waits := upd s1.waits x ys }) (grown_alloc (grown_refl _ none) (.cells #[.bool y.f.b, .bool y.f.e, .int .i64 y.f.q, .string y.f.d] 32)) (fun b hb => by cases hb) (fun k hk => .inl hk))))
      have M7 := Lib.hid (HM1.out.trans N7.out)
      have HBF : Hid (Blk ((w1.setCell ⟨m1.lp x, 0, none⟩ (.slice (some ⟨g, o + 5, none⟩) ((s1.waits x).length - 1) (c - 1))).alloc (.cells #[.bool y.f.b, .bool y.f.e, .int .i64 y.f.q, .string y.f.d] 32)) w1.heap.size #[.bool y.f.b, .bool y.f.e, .int .i64 y.f.q, .string y.f.d] 32) := Lib.hid (by have := Blk.new (w1.setCell ⟨m1.lp x, 0, none⟩ (.slice (some ⟨g, o + 5, none⟩) ((s1.waits x).length - 1) (c - 1))) #[.bool y.f.b, .bool y.f.e, .int .i64 y.f.q, .string y.f.d] 32; simpa using this)
      have HBR := Lib.hid ((HB3.out.other (a := ⟨m1.lp x, 0, none⟩) (fun e => HNB.out (e ▸ own_lp hxk)) (.slice (some ⟨g, o + 5, none⟩) ((s1.waits x).length - 1) (c - 1))).alloc (.cells #[.bool y.f.b, .bool y.f.e, .int .i64 y.f.q, .string y.f.d] 32))
      have nbf : some w1.heap.size ≠ some m1.bo := fun e => by obtain ⟨es, cl, hc⟩ := map_obj H7.out.op; exact ne_of_map HBF.out hc (Option.some.inj e)
      have nbr : some w.heap.size ≠ some m1.bo := fun e => by obtain ⟨es, cl, hc⟩ := map_obj H7.out.op; exact ne_of_map HBR.out hc (Option.some.inj e)
      have NBF := Lib.hid nbf
      have NBR := Lib.hid nbr
      clear hr7 hs7 nbf nbr
      go_wp2_with (first
        | (at_lookup; ((with_reducible refine wpList_ilook H7.out.op rfl _ _ 45 3 rfl law3 Try.underlying3 Try.underlying45 _ (zero3 _) rfl (y.p : Int) rfl hpw ?_); rw [HLK7.out]))
        | (at_mapUpdate; ((with_reducible refine wpList_istore H7.out.op rfl _ _ _ 45 3 rfl law3 Try.underlying3 Try.underlying45 HLM.out rfl (y.p : Int) rfl hpw (.int .i64 (v - 1)) rfl ?_); intro w8 hm8 hg8; rw [put_opens] at hm8; have hs8 := setOpens H7.out hg8 hm8; have H8 := Lib.hid hs8.1; have M8 := Lib.hid (M7.out.trans hs8.2); have N8 := Lib.hid (N7.out.trans hs8.2); have HBF8 := Lib.hid (HBF.out.grown hg8 NBF.out); have HBR8 := Lib.hid (HBR.out.grown hg8 NBR.out); have n5 : w8.cell? ⟨m.q, 5, none⟩ = some (.map (some m1.bo)) := (by have := H8.out.blk.cell 5; rw [show (QM.setWv m1 x (.slice (some ⟨g, o + 5, none⟩) ((s1.waits x).length - 1) (c - 1))).q = m.q from HQ1.out] at this; exact this); clear hm8 hg8 hs8; have a0 : w8.cell? ⟨w1.heap.size, 0, none⟩ = some (.bool y.f.b) := HBF8.out.cell 0; have a1 : w8.cell? ⟨w1.heap.size, 1, none⟩ = some (.bool y.f.e) := HBF8.out.cell 1; have a2 : w8.cell? ⟨w1.heap.size, 2, none⟩ = some (.int .i64 y.f.q) := HBF8.out.cell 2; have a3 : w8.cell? ⟨w1.heap.size, 3, none⟩ = some (.string y.f.d) := HBF8.out.cell 3; have b0 : w8.cell? ⟨w.heap.size, 0, none⟩ = some (.bool false) := HBR8.out.cell 0; have b1 : w8.cell? ⟨w.heap.size, 1, none⟩ = some (.bool false) := HBR8.out.cell 1; have b2 : w8.cell? ⟨w.heap.size, 2, none⟩ = some (.int .i64 0) := HBR8.out.cell 2; have b3 : w8.cell? ⟨w.heap.size, 3, none⟩ = some (.string ⟨#[]⟩) := HBR8.out.cell 3; have z0 := HBR8.out.free 0; have z1 := HBR8.out.free 1; have z2 := HBR8.out.free 2; have z3 := HBR8.out.free 3))
        | (at_lookup; ((with_reducible refine wpList_ilook H8.out.op rfl _ _ 45 3 rfl law3 Try.underlying3 Try.underlying45 _ (zero3 _) rfl (y.p : Int) rfl hpw ?_); rw [HLK8.out])))
      have hno : ¬ own (QM.setWv m1 x (.slice (some ⟨g, o + 5, none⟩) ((s1.waits x).length - 1) (c - 1))) { s1 with waits := upd s1.waits x ys, opens := pst s1.opens (y.p : Int) (v - 1) } w.heap.size := fun ho => by
        rcases N8.out.new _ ho with h1 | h1
        · exact HNB.out h1
        · omega
      have hbx := boxed H8.out M8.out hno (Nat.le_refl _) (grown_set (grown_set (grown_set (grown_set (grown_refl w8 (some w.heap.size)) 0 (.bool y.f.b)) 1 (.bool y.f.e)) 2 (.int .i64 y.f.q)) 3 (.string y.f.d))
      have HB9 := ((((HBR8.out.set 0 (.bool y.f.b)).set 1 (.bool y.f.e)).set 2 (.int .i64 y.f.q)).set 3 (.string y.f.d))
      generalize (((w8.setCell ⟨w.heap.size, 0, none⟩ (.bool y.f.b)).setCell ⟨w.heap.size, 1, none⟩ (.bool y.f.e)).setCell ⟨w.heap.size, 2, none⟩ (.int .i64 y.f.q)).setCell ⟨w.heap.size, 3, none⟩ (.string y.f.d) = w10 at *
      have d0 : w10.cell? ⟨w.heap.size, 0, none⟩ = some (.bool y.f.b) := HB9.cell 0
      have d1 : w10.cell? ⟨w.heap.size, 1, none⟩ = some (.bool y.f.e) := HB9.cell 1
      have d2 : w10.cell? ⟨w.heap.size, 2, none⟩ = some (.int .i64 y.f.q) := HB9.cell 2
      have d3 : w10.cell? ⟨w.heap.size, 3, none⟩ = some (.string y.f.d) := HB9.cell 3
      have hpop : s1.pop x = { s1 with waits := upd s1.waits x ys, opens := pst s1.opens (y.p : Int) (v - 1) } := by
        unfold QS.pop
        rw [HY.out]
        simp only [List.tail_cons, List.headD_cons]
        rw [less_of HV.out, if_neg hvn]
      rw [hpop]
      exact bodyPost_ret (v := .tuple #[.agg #[.bool y.f.b, .bool y.f.e, .int .i64 y.f.q, .string y.f.d], .int .i64 0]) (by simp [results, Try.results12, go_sem, d0, d1, d2, d3]) rfl ⟨rfl, _, hbx.1, hbx.2, HQ1.out⟩

theorem take_calls (h : QRep w m s) (G : QG.Good s n) (hn : n ≤ 1000000) (hw : (Lit.int .i64 x).wf = true) : Calls Try.prog 12 #[.pointer (some ⟨m.q, 0, none⟩), .int .i64 x] w (TakePost m s x w) := by
  by_cases ht : s.takeNum x = 0
  · exact take_yes h G hn hw ht
  · exact take_no h G hn hw ht

end Go.Proofs.Ytcahedlgmljhkaa.QT
