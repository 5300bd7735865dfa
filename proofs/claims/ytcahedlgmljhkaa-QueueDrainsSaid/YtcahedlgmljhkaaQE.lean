/- The queue: the walk of deal. -/
import Derived.Test.YtcahedlgmljhkaaQD
import Derived.Deep.RegionLaw
namespace Go.Proofs.Ytcahedlgmljhkaa.QE
open Go Go.RowKit Go.Maps Go.Proofs.Ytcahedlgmljhkaa.Mem Go.Proofs.Ytcahedlgmljhkaa.Plain Go.Proofs.Ytcahedlgmljhkaa.IMap Go.Proofs.Ytcahedlgmljhkaa.RowAt Go.Proofs.Ytcahedlgmljhkaa.QP Go.Proofs.Ytcahedlgmljhkaa.QG Go.Proofs.Ytcahedlgmljhkaa.QA Go.Proofs.Ytcahedlgmljhkaa.QB Go.Proofs.Ytcahedlgmljhkaa.QC Go.Proofs.Ytcahedlgmljhkaa.QR Go.Proofs.Ytcahedlgmljhkaa.QD
open Go.Proofs.Ytcahedlgmljhkaa.QCut (Cuts cuts_of)

variable {w wr : World} {m : QM} {s : QS} {n : Nat} {x : Int}

theorem grown_below2 {a b c : World} (h : a.grownBy b none) (hb : Below b.heap.size b c) : a.grownBy c none :=
  ⟨hb.os.trans h.os, hb.tape.trans h.tape, hb.output.trans h.output, Nat.le_trans h.size hb.size, fun k hk hne => (hb.block k (Nat.lt_of_lt_of_le hk h.size)).trans (h.block k hk hne)⟩

/-- What region 1 reads. -/
abbrev RegD (m : QM) (s : QS) (g o c : Nat) (t : ByteArray) (w1 : World) (W : World) : Prop :=
  W.cell? ⟨m.q, 3, none⟩ = some (.slice (some ⟨g, o, none⟩) s.packets.length c) ∧ W.cell? ⟨g, o, none⟩ = some (.string t) ∧ W.cell? ⟨m.q, 0, none⟩ = some (.int .i64 s.size) ∧ W.cell? ⟨m.q, 1, none⟩ = some (.bool s.short) ∧ W.cell? ⟨m.q, 2, none⟩ = some (.int .i64 s.seq) ∧ w1.grownBy W none

theorem regD_mk {g o c : Nat} {t : ByteArray} {ts : List ByteArray} (h : QRep w m s) (hp : s.packets = t :: ts) (hv : m.pv = .slice (some ⟨g, o, none⟩) s.packets.length c) : ∀ W, w.grownBy W none → RegD m s g o c t w W := fun W hW => by
  have hR := h.grown hW
  have hpk := hR.pk
  rw [hv] at hpk
  refine ⟨(hR.blk.cell 3).trans (congrArg some hv), ?_, hR.blk.cell 0, hR.blk.cell 1, hR.blk.cell 2, hW⟩
  exact (hpk.cell 0 (by rw [hp]; simp)).trans (by rw [hp]; rfl)

theorem wire_cell {wr W w7 : World} {row : Option Nat} {b d : Nat} {v : Value} (hb : wr.grownBy W none) (hg : W.grownBy w7 row) (h1 : b < wr.heap.size) (hne : some b ≠ row) (hc : wr.cell? ⟨b, d, none⟩ = some v) : w7.cell? ⟨b, d, none⟩ = some v :=
  (World.cell?_of_block (w := wr) (w' := w7) (a := ⟨b, d, none⟩) ((hg.block b (Nat.lt_of_lt_of_le h1 hb.size) hne).trans (hb.block b h1 (by simp)))).trans hc
theorem wire_free {wr W w7 : World} {row : Option Nat} {b d : Nat} {v : Bool} (hb : wr.grownBy W none) (hg : W.grownBy w7 row) (h1 : b < wr.heap.size) (hne : some b ≠ row) (hc : wr.frozen? ⟨b, d, none⟩ = v) : w7.frozen? ⟨b, d, none⟩ = v :=
  (World.frozen?_of_block (w := wr) (w' := w7) (a := ⟨b, d, none⟩) ((hg.block b (Nat.lt_of_lt_of_le h1 hb.size) hne).trans (hb.block b h1 (by simp)))).trans hc
theorem flat_add (l : List Wt) (a : Wt) : flat (l ++ [a]) = flat l ++ Wt.cells a := by unfold flat; simp

/-- One fragment is dealt. -/
theorem deal_step {w2 wb W w7 : World} {mk : QM} {R : List Int} {F : Nat → Fr} {k ln : Nat} {y : Int} {v7 : Value} (hQ : QRep wb mk { s with waits := deals R F s.cut s.waits k }) (hM : Mq (own m s) (own mk { s with waits := deals R F s.cut s.waits k }) w2 wb) (hy : y ∈ s.keys) (hln : (deals R F s.cut s.waits k y).length = ln) (h4 : mk.lp = m.lp)
    (hS : deals R F s.cut s.waits (k + 1) = upd (deals R F s.cut s.waits k) y (deals R F s.cut s.waits k y ++ [⟨F k, s.cut⟩]))
    (hr : RowAt w7 0 55 5 v7 (ln + 1) (flat (deals R F s.cut s.waits k y) ++ Wt.cells ⟨F k, s.cut⟩)) (hg : W.grownBy w7 (mk.wv y).ownBlock) (ho : v7.ownBlock = (mk.wv y).ownBlock ∨ v7.ownBlock = some W.heap.size) (hW : wb.grownBy W none) :
    QRep (w7.setCell ⟨m.lp y, 0, none⟩ v7) (QM.setWv mk y v7) { s with waits := deals R F s.cut s.waits (k + 1) } ∧ Mq (own m s) (own (QM.setWv mk y v7) { s with waits := deals R F s.cut s.waits (k + 1) }) w2 (w7.setCell ⟨m.lp y, 0, none⟩ v7) := by
  have := setLane (l := deals R F s.cut s.waits k y ++ [⟨F k, s.cut⟩]) (hQ.grown hW) hy hg (by rw [List.length_append, hln, flat_add]; exact hr) ho
  rw [h4, ← hS] at this
  refine ⟨this.1, (hM.trans (Mq.of_grown (o := own mk { s with waits := deals R F s.cut s.waits k }) hW (fun b hb => by cases hb) (fun k hk => .inl hk))).trans this.2⟩

theorem put_opens (s : QS) (a v : Int) : IMap.put (openPairs s) a (.int .i64 v) = (pst s.opens a v).map fun p => (p.1, Value.int .i64 p.2) := by
  unfold IMap.put IMap.del openPairs pst dlt
  rw [List.map_append, List.filter_map]
  rfl
theorem del_opens (s : QS) (a : Int) : IMap.del (openPairs s) a = (dlt s.opens a).map fun p => (p.1, Value.int .i64 p.2) := by
  unfold IMap.del openPairs dlt
  rw [List.filter_map]
  rfl
theorem look_opens (s : QS) (a : Int) : IMap.look (openPairs s) a = (lkp s.opens a).map (Value.int .i64) := by
  unfold IMap.look openPairs lkp
  rw [List.find?_map, Option.map_map, Option.map_map]
  rfl

theorem row_drop {B e sz g off nn cap p : Nat} {xs : List Value} (h : RowAt w B e sz (.slice (some ⟨g, off, none⟩) nn cap) nn xs) (hp : p ≤ nn) : RowAt w B e sz (.slice (some ⟨g, off + p * sz, none⟩) (nn - p) (cap - p)) (nn - p) (xs.drop (p * sz)) := by
  have h1 := h.1
  refine ⟨by rw [List.length_drop, h1, Nat.sub_mul], ?_⟩
  rcases h.2 with ⟨h0, _⟩ | ⟨g', off', cap', cur, h0, hb, hg, hnc, hcm, hcs, ht⟩
  · cases h0
  · simp only [Value.slice.injEq, Option.some.injEq, Addr.mk.injEq] at h0
    obtain ⟨⟨rfl, rfl, _⟩, _, rfl⟩ := h0
    have h2 : (cap - p) * sz + p * sz = cap * sz := by rw [← Nat.add_mul, Nat.sub_add_cancel (by omega)]
    refine .inr ⟨g, off + p * sz, cap - p, cur, rfl, hb, hg, by omega, by omega, by omega, ?_⟩
    rw [← ht, List.drop_take, List.drop_drop, Nat.sub_mul]
theorem row_nil {B e sz g off nn cap c : Nat} {xs : List Value} (h : RowAt w B e sz (.slice (some ⟨g, off, none⟩) nn cap) nn xs) (hc : c ≤ cap) : RowAt w B e sz (.slice (some ⟨g, off, none⟩) 0 c) 0 [] := by
  refine ⟨by simp, ?_⟩
  rcases h.2 with ⟨h0, _⟩ | ⟨g', off', cap', cur, h0, hb, hg, hnc, hcm, hcs, ht⟩
  · cases h0
  · simp only [Value.slice.injEq, Option.some.injEq, Addr.mk.injEq] at h0
    obtain ⟨⟨rfl, rfl, _⟩, _, rfl⟩ := h0
    have h2 : c * sz ≤ cap * sz := Nat.mul_le_mul_right _ hc
    exact .inr ⟨g, off, c, cur, rfl, hb, hg, by omega, by omega, by omega, by simp⟩

/-- The cut packet is off the queue. -/
theorem deal_pop {t : ByteArray} {ts : List ByteArray} {gp op cp : Nat} {v7 : Value} (h : QRep w m s) (hp : s.packets = t :: ts) (hv : m.pv = .slice (some ⟨gp, op, none⟩) s.packets.length cp) (h7 : v7 = (if cp = 1 then .slice (some ⟨gp, op, none⟩) 0 0 else .slice (some ⟨gp, op + 1, none⟩) (s.packets.length - 1) (cp - 1))) :
    QRep ((w.setCell ⟨m.q, 4, none⟩ (.int .i64 ((s.cut : Int) + 1))).setCell ⟨m.q, 3, none⟩ v7) { m with pv := v7 } { s with cut := s.cut + 1, packets := ts } ∧ Mq (own m s) (own { m with pv := v7 } { s with cut := s.cut + 1, packets := ts }) w ((w.setCell ⟨m.q, 4, none⟩ (.int .i64 ((s.cut : Int) + 1))).setCell ⟨m.q, 3, none⟩ v7) := by
  have h5 := setQ (s' := { s with cut := s.cut + 1 }) h (grown_set (grown_refl w (some m.q)) 4 (.int .i64 ((s.cut : Int) + 1))) (by simpa [cells] using h.blk.set 4 (.int .i64 ((s.cut : Int) + 1))) rfl rfl rfl rfl rfl
  have hpk := h5.1.pk
  rw [hv] at hpk
  have hpk' : RowAt (w.setCell ⟨m.q, 4, none⟩ (.int .i64 ((s.cut : Int) + 1))) 0 9 1 (.slice (some ⟨gp, op, none⟩) s.packets.length cp) s.packets.length (s.packets.map .string) := hpk
  have hl : s.packets.length = ts.length + 1 := by rw [hp]; rfl
  have hcap : s.packets.length ≤ cp := by
    rcases hpk'.2 with ⟨h0, _⟩ | ⟨g', off', cap', cur, h0, _, _, hnc, _⟩
    · cases h0
    · injection h0 with _ _ h0
      omega
  have hr : RowAt (w.setCell ⟨m.q, 4, none⟩ (.int .i64 ((s.cut : Int) + 1))) 0 9 1 v7 ts.length (ts.map .string) := by
    rw [h7]
    split
    · rename_i hc
      have : ts = [] := List.eq_nil_of_length_eq_zero (by omega)
      subst this
      exact row_nil hpk' (Nat.zero_le _)
    · have := row_drop (p := 1) hpk' (by omega)
      rw [hp] at this ⊢
      simpa using this
  have ho : v7.ownBlock = m.pv.ownBlock := by
    rw [h7, hv]
    split <;> rfl
  have := setPk (ps := ts) h5.1 (w7 := w.setCell ⟨m.q, 4, none⟩ (.int .i64 ((s.cut : Int) + 1))) (grown_refl _ _) hr (.inl ho)
  exact ⟨this.1, h5.2.trans this.2⟩

/-- The next number. -/
theorem deal_seq {v : Int} (h : QRep w m s) : QRep ((w.setCell ⟨m.q, 2, none⟩ (.int .i64 v)).drewN 1) m { s with seq := v } ∧ Mq (own m s) (own m { s with seq := v }) w ((w.setCell ⟨m.q, 2, none⟩ (.int .i64 v)).drewN 1) := by
  have h5 := setQ (s' := { s with seq := v }) h (grown_set (grown_refl w (some m.q)) 2 (.int .i64 v)) (by simpa [cells] using h.blk.set 2 (.int .i64 v)) rfl rfl rfl rfl rfl
  exact ⟨h5.1.drewN 1, h5.2.trans (Mq.draw _ 1)⟩

theorem info55 : (Try.prog.info? 55).map (fun i => (i.zero, i.size, i.bytes)) = some (some (.agg #[.bool false, .bool false, .int .i64 0, .string ⟨#[]⟩, .int .i64 0]), 5, 40) := by kernel_rfl

set_option maxHeartbeats 4000000 in
set_option maxRecDepth 100000 in
theorem deal_calls (h : QRep w m s) (G : QG.Good s n) (hn : n ≤ 1000000) (hx : x ∈ s.keys) (hd : s.drains x = false) (hp : s.packets ≠ []) :
    Calls Try.prog 20 #[.pointer (some ⟨m.q, 0, none⟩), .int .i64 x] w fun e w' => ∃ m', e = .returned (.tuple #[]) ∧ QRep w' m' (s.deal x) ∧ Mq (own m s) (own m' (s.deal x)) w w' ∧ m'.q = m.q ∧ m'.bm = m.bm ∧ m'.bo = m.bo ∧ m'.lp = m.lp := by
  obtain ⟨t, ts, ht⟩ : ∃ t ts, s.packets = t :: ts := by cases hq : s.packets with | nil => exact absurd hq hp | cons t ts => exact ⟨t, ts, rfl⟩
  have hok := G.pk t (by rw [ht]; simp)
  have hC := cuts_of (b := s.short) G.z0 G.z1 hok G.seq0 G.seq1
  have hlen1 : 0 < s.packets.length := by rw [ht]; simp
  obtain ⟨Ap, cp, hpv⟩ := h.pk.form
  have hpk0 := h.pk
  rw [hpv] at hpk0
  obtain ⟨gp, op, rfl⟩ := row_some hpk0 hlen1
  have hrow := row_calls h G (x := x)
  have H := Lib.hid h
  have HT := Lib.hid ht
  have HC := Lib.hid hC
  have HPV := Lib.hid hpv
  have HROW := Lib.hid hrow
  have hrl : 0 < (s.row x).length := List.length_pos_of_mem (row_mem.2 ⟨hx, hd⟩)
  have hq := h.blk.lt
  clear ht hC hpv hrow hpk0 hd hp
  go_enter Try.func20, Try.ntmps20
  go_wp2_with fail
  refine HROW.out.mono ?_
  rintro e w1 ⟨v, rfl, hv, hb1⟩
  obtain ⟨Av, cv, rfl⟩ := RowAt.form hv
  obtain ⟨gv, ov, rfl⟩ := row_some hv hrl
  have HV := Lib.hid hv
  have HB1 := Lib.hid hb1
  have H1 := Lib.hid (H.out.below hb1)
  have MK := Lib.hid (regD_mk H1.out HT.out HPV.out)
  have hpl0 : (0 : Int) < (s.packets.length : Int) := by omega
  clear hv hb1
  go_wp2
  go_region_held3 (fun W => RegD m s gp op cp t w1 W) (first | exact MK.out _ (grown_drewN (grown_refl _ _) 1) | exact MK.out _ (grown_drewN (grown_alloc (grown_refl _ _) _) 1) | exact MK.out _ (grown_below2 (grown_drewN (grown_alloc (grown_refl _ _) _) 1) hb2))
    (first | (go_at_call 22; ((with_reducible refine (cut_calls HC.out w1.heap.size _ ?hcell).mono ?_); (case hcell => exact ((Blk.new w1 #[.int .i64 s.size] 3).drewN 1).cell 0); rintro e w2 ⟨g2, o2, k2, rfl, hlo, hF, hb2⟩)))
  have hb12 : Below w1.heap.size w1 w2 := (below_drewN ((Below.refl w1.heap.size w1).alloc (Nat.le_refl _) (.cells #[.int .i64 s.size] 3)) 1).trans (hb2.mono (by show w1.heap.size ≤ (w1.alloc _).heap.size; simp))
  have H2 := Lib.hid (H1.out.below hb12)
  have HOL := Lib.hid H.out.own_lt
  have HB12 := Lib.hid hb12
  have HF2 := Lib.hid hF
  have hsz1 := HB1.out.size
  have hsz2 := hb12.size
  have hN1 := HC.out.n1
  obtain ⟨N, hN⟩ : ∃ N, pieces s.size t = N := ⟨_, rfl⟩
  rw [hN] at HF2 hN1
  obtain ⟨F, hFF⟩ : ∃ F, frag t s.size N s.seq (ringOf s.short) = F := ⟨_, rfl⟩
  rw [hFF] at HF2
  obtain ⟨R, hR⟩ : ∃ R, s.row x = R := ⟨_, rfl⟩
  rw [hR] at hrl HV
  have HNN := Lib.hid hN
  have HFF := Lib.hid hFF
  have HRR := Lib.hid hR
  have HKR : Hid (∀ y ∈ R, y ∈ s.keys) := Lib.hid (fun y hy => (row_mem.1 (hR ▸ hy)).1)
  have hgv := HV.out.lt gv rfl
  have hlo' : w.heap.size ≤ g2 := by simp at hlo; omega
  have hg2 := HF2.out.lt
  go_wp2
  simp only [hN, hR]
  clear hN hFF hR hF hb2 hb12
  go_loopw [38] (fun i wx => ∃ (k : Nat) (mk : QM), i = .int .i64 k ∧ k ≤ N ∧ QRep wx mk { s with waits := deals R F s.cut s.waits k } ∧ Mq (own m s) (own mk { s with waits := deals R F s.cut s.waits k }) w2 wx ∧ mk.q = m.q ∧ mk.bm = m.bm ∧ mk.bo = m.bo ∧ mk.lp = m.lp ∧ mk.pv = m.pv) (fun i _ => N - (intOf i).toNat)
  case atStart => exact ⟨0, m, rfl, Nat.zero_le _, H2.out, Mq.refl _ _, rfl, rfl, rfl, rfl, rfl⟩
  case round =>
    obtain ⟨k, mk, rfl, hk, hQ, hM, hq1, hq2, hq3, hq4, hq5⟩ := hrel
    have HQ5 := Lib.hid hq5
    clear hq5
    have HQ := Lib.hid hQ
    have HM := Lib.hid hM
    have HQ1 := Lib.hid hq1
    have HQ2 := Lib.hid hq2
    have HQ3 := Lib.hid hq3
    have HQ4 := Lib.hid hq4
    clear hQ hM hq1 hq2 hq3 hq4
    by_cases hlt : k < N
    · have hltI : (k : Int) < (N : Int) := by omega
      have hk0 : (0 : Int) ≤ (k : Int) := by omega
      have hFb := HF2.out.block (HM.out.block g2 hg2 (fun ho => by have := HOL.out _ ho; omega))
      have HVx := Lib.hid ((HV.out.below HB12.out (fun b hb => (HV.out.lt b hb).2)).block (fun b hb => HM.out.block b (by have := (HV.out.lt b hb).2; omega) (fun ho => by have := HOL.out _ ho; have := (HV.out.lt b hb).1; omega)))
      have f0 := hFb.c0 k hlt
      have f1 := hFb.c1 k hlt
      have f2 := hFb.c2 k hlt
      have f3 := hFb.c3 k hlt
      obtain ⟨d, hd, hdr⟩ : ∃ d : Nat, k % R.length = d ∧ d < R.length := ⟨_, rfl, Nat.mod_lt _ hrl⟩
      have e1 : (k : Int).tmod (R.length : Int) = (d : Int) := by rw [Int.tmod_eq_emod_of_nonneg hk0, ← hd]; rfl
      obtain ⟨y, hy⟩ : ∃ y, R.getD d 0 = y := ⟨_, rfl⟩
      have hyR : R[d]? = some y := by rw [← hy, List.getD_eq_getElem?_getD, List.getElem?_eq_getElem hdr]; rfl
      have hyk := HKR.out y (List.mem_of_getElem? hyR)
      have r0 : wr.cell? ⟨gv, ov + d, none⟩ = some (.pointer (some ⟨m.lp y, 0, none⟩)) := (HVx.out.cell d (by omega)).trans (by rw [List.getElem?_map, hyR]; rfl)
      have hdI : (d : Int) < (R.length : Int) := by omega
      have hd0 : (0 : Int) ≤ (d : Int) := by omega
      have hr0 : ¬ (R.length : Int) = 0 := by omega
      have hr1 : ((R.length : Int) == 0) = false := by simpa using hr0
      have HY := Lib.hid hy
      have HD := Lib.hid hd
      have hlt1 : gv < wr.heap.size := (HVx.out.lt gv rfl).2
      have hlt2 : m.lp y < wr.heap.size := by have := (HQ.out.lane y hyk).lt; rwa [HQ4.out] at this
      have hlt3 : m.q < wr.heap.size := by have := HQ.out.blk.lt; rwa [HQ1.out] at this
      have hlt4 : g2 < wr.heap.size := hFb.lt
      have l0 : wr.cell? ⟨m.lp y, 0, none⟩ = some (mk.wv y) := by have := (HQ.out.lane y hyk).cell 0; rwa [HQ4.out] at this
      have q4 : wr.cell? ⟨m.q, 4, none⟩ = some (.int .i64 s.cut) := by have := HQ.out.blk.cell 4; rwa [HQ1.out] at this
      clear hFb hy hd hyR
      go_wp2
      have HQb := Lib.hid (HQ.out.grown (grown_alloc (grown_refl wr none) (.cells #[.bool (F k).b, .bool (F k).e, .int .i64 (F k).q, .string (F k).d] 32)))
      have HMb := Lib.hid (HM.out.trans (Mq.of_grown (o := own mk { s with waits := deals R F s.cut s.waits k }) (grown_alloc (grown_refl wr none) (.cells #[.bool (F k).b, .bool (F k).e, .int .i64 (F k).q, .string (F k).d] 32)) (fun b hb => by cases hb) (fun k hk => .inl hk)))
      have hbx := Blk.new wr #[.bool (F k).b, .bool (F k).e, .int .i64 (F k).q, .string (F k).d] 32
      have hbz : (wr.alloc (.cells #[.bool (F k).b, .bool (F k).e, .int .i64 (F k).q, .string (F k).d] 32)).heap.size = wr.heap.size + 1 := by simp
      clear l0 q4 hlt1 hlt2 hlt3 hlt4 r0 f0 f1 f2 f3 HQ HM HVx
      generalize wr.alloc (.cells #[.bool (F k).b, .bool (F k).e, .int .i64 (F k).q, .string (F k).d] 32) = wb at *
      generalize wr.heap.size = b0 at *
      have HBZ := Lib.hid hbz
      have hbl := hbx.lt
      have bx0 : wb.cell? ⟨b0, 0, none⟩ = some (.bool (F k).b) := hbx.cell 0
      have bx1 : wb.cell? ⟨b0, 1, none⟩ = some (.bool (F k).e) := hbx.cell 1
      have bx2 : wb.cell? ⟨b0, 2, none⟩ = some (.int .i64 (F k).q) := hbx.cell 2
      have bx3 : wb.cell? ⟨b0, 3, none⟩ = some (.string (F k).d) := hbx.cell 3
      have hlt2 : m.lp y < wb.heap.size := by have := (HQb.out.lane y hyk).lt; rwa [HQ4.out] at this
      have hlt3 : m.q < wb.heap.size := by have := HQb.out.blk.lt; rwa [HQ1.out] at this
      obtain ⟨Ay, cy, hay⟩ := (HQb.out.row y hyk).form
      have l0 : wb.cell? ⟨m.lp y, 0, none⟩ = some (mk.wv y) := by have := (HQb.out.lane y hyk).cell 0; rwa [HQ4.out] at this
      have lf : wb.frozen? ⟨m.lp y, 0, none⟩ = false := by have := (HQb.out.lane y hyk).free 0; rwa [HQ4.out] at this
      have q4 : wb.cell? ⟨m.q, 4, none⟩ = some (.int .i64 s.cut) := by have := HQb.out.blk.cell 4; rwa [HQ1.out] at this
      rw [hay] at l0
      have hay' : mk.wv y = .slice Ay (deals R F s.cut s.waits k y).length cy := hay
      have hne : some (m.lp y) ≠ (mk.wv y).ownBlock := fun e => by
        obtain ⟨c1, hc1⟩ := row_ty (HQb.out.row y hyk) e.symm
        have hL := HQb.out.lane y hyk
        rw [HQ4.out] at hL
        exact ne_of_ty hL hc1 (by decide) rfl
      have HROWy := Lib.hid (HQb.out.row y hyk)
      rw [hay] at HROWy hne
      have hdl : (deals R F s.cut s.waits k y).length ≤ 64000128 := by
        have a := (deals_len (row := R) (fs := F) (p := s.cut) (W := s.waits) k y).2
        have b := G.wl y hyk
        have c := G.cut
        omega
      clear hay hbz hbx
      simp only at HROWy l0
      obtain ⟨ln, hln⟩ : ∃ ln, (deals R F s.cut s.waits k y).length = ln := ⟨_, rfl⟩
      rw [hln] at l0 HROWy hdl hne hay'
      have HAY := Lib.hid hay'
      clear hay'
      have HLN := Lib.hid hln
      clear hln
      obtain ⟨i55, hi55, hz0, hz1, hz2⟩ := info_parts info55
      go_region_law (first
        | (refine step_append_at rfl (.tmp 54) (.tmp 61) 50 50 rfl i55 _ 40 Try.underlying50 hi55 hz0 hz1 hz2 rfl (RowAt.kept (row := none) HROWy.out (by first | exact grown_alloc (grown_drewN (grown_refl _ _) _) _ | exact grown_drewN (grown_alloc (grown_drewN (grown_refl _ _) _) _) _ | exact grown_drewN (grown_alloc (grown_refl _ _) _) _) (fun _ _ e => by cases e)) rfl (.slice (some ⟨wb.heap.size, 0, none⟩) 1 1) rfl 1 (Wt.cells ⟨F k, s.cut⟩) (src_one (size := 5) (P := Try.prog) (B := wb.heap.size) (cs := #[.bool (F k).b, .bool (F k).e, .int .i64 (F k).q, .string (F k).d, .int .i64 s.cut]) Try.underlying50 (te := 55) (by exact Blk.new wb _ 55) rfl (by simp [Value.oneCell']) 1) (by unfold maxLen; omega) (by omega) (Nat.zero_le _) ?_; intro v7 w7 hrow7 hgrow7 hnil7 hown7; obtain ⟨A7, c7, rfl⟩ := RowAt.form hrow7; have hwc7 := wire_cell (by first | exact grown_alloc (grown_drewN (grown_refl _ _) _) _ | exact grown_drewN (grown_alloc (grown_drewN (grown_refl _ _) _) _) _ | exact grown_drewN (grown_alloc (grown_refl _ _) _) _) hgrow7 hlt2 hne l0; have hwf7 := wire_free (by first | exact grown_alloc (grown_drewN (grown_refl _ _) _) _ | exact grown_drewN (grown_alloc (grown_drewN (grown_refl _ _) _) _) _ | exact grown_drewN (grown_alloc (grown_refl _ _) _) _) hgrow7 hlt2 hne lf))
      all_goals
        go_wp2
        have hS : deals R F s.cut s.waits (k + 1) = upd (deals R F s.cut s.waits k) y (deals R F s.cut s.waits k y ++ [⟨F k, s.cut⟩]) := by rw [deals, HD.out, HY.out]
        have hgrow8 := hgrow7
        have hown8 := hown7
        rw [← HAY.out] at hgrow8 hown8
        obtain ⟨z1, z2⟩ := deal_step HQb.out HMb.out hyk HLN.out HQ4.out hS hrow7 hgrow8 hown8 (by first | with_reducible exact grown_alloc (grown_refl _ _) _ | with_reducible exact grown_alloc (grown_drewN (grown_refl _ _) _) _ | with_reducible exact grown_drewN (grown_alloc (grown_drewN (grown_refl _ _) _) _) _ | with_reducible exact grown_drewN (grown_alloc (grown_refl _ _) _) _ | exact grown_alloc (grown_drewN (grown_refl _ none) 1) _)
        refine ⟨⟨k + 1, _, by go_num, by omega, z1, z2, HQ1.out, HQ2.out, HQ3.out, HQ4.out, HQ5.out⟩, ?_⟩
        simp [intOf]
        omega
    · obtain rfl : k = N := by omega
      have hcut := G.cut
      have hfew := G.few
      have q5 : wr.cell? ⟨m.q, 5, none⟩ = some (.map (some m.bo)) := by have := HQ.out.blk.cell 5; rwa [HQ1.out, show (cells mk { s with waits := deals R F s.cut s.waits k })[5]? = some (.map (some mk.bo)) from rfl, HQ3.out] at this
      have q4 : wr.cell? ⟨m.q, 4, none⟩ = some (.int .i64 s.cut) := by have := HQ.out.blk.cell 4; rwa [HQ1.out] at this
      have hkk : ¬ (k : Int) < (k : Int) := by omega
      have HLO : Hid ((openPairs { s with waits := deals R F s.cut s.waits k }).length < maxLen) := Lib.hid (by rw [len_opens]; unfold maxLen; simp only; omega)
      have hcw : (Lit.int .i64 (s.cut : Int)).wf = true := wf_i64_iff.2 (by omega)
      go_wp2
      go_still_tail 10, (by kernel_rfl)
      change wpList _ _ _ _ _ (wr.drewN 1)
      refine wpList_istore (b := m.bo) (HQ3.out ▸ (HQ.out.drewN 1).op) rfl _ _ _ 45 3 rfl law3 Try.underlying3 Try.underlying45 HLO.out rfl (s.cut : Int) rfl hcw (.int .i64 k) rfl ?_
      intro w4 hm4 hg4
      rw [put_opens] at hm4
      have hs4 := setOpens (HQ.out.drewN 1) (HQ3.out.symm ▸ hg4) (HQ3.out.symm ▸ hm4)
      have H4 := Lib.hid hs4.1
      have M4 := Lib.hid ((HM.out.trans (Mq.draw _ 1)).trans hs4.2)
      clear hm4 hg4 hs4 q4 q5
      have d4 : w4.cell? ⟨m.q, 4, none⟩ = some (.int .i64 s.cut) := by have := H4.out.blk.cell 4; rwa [HQ1.out] at this
      have f4 : w4.frozen? ⟨m.q, 4, none⟩ = false := by have := H4.out.blk.free 4; rwa [HQ1.out] at this
      have d3 : w4.cell? ⟨m.q, 3, none⟩ = some (.slice (some ⟨gp, op, none⟩) s.packets.length cp) := by
        have := H4.out.blk.cell 3
        rw [HQ1.out, show (cells mk { s with waits := deals R F s.cut s.waits k, opens := pst s.opens s.cut k })[3]? = some mk.pv from rfl, HQ5.out, HPV.out] at this
        exact this
      have f3 : w4.frozen? ⟨m.q, 3, none⟩ = false := by have := H4.out.blk.free 3; rwa [HQ1.out] at this
      have d2 : w4.cell? ⟨m.q, 2, none⟩ = some (.int .i64 s.seq) := by have := H4.out.blk.cell 2; rwa [HQ1.out] at this
      have d1 : w4.cell? ⟨m.q, 1, none⟩ = some (.bool s.short) := by have := H4.out.blk.cell 1; rwa [HQ1.out] at this
      have f2 : w4.frozen? ⟨m.q, 2, none⟩ = false := by have := H4.out.blk.free 2; rwa [HQ1.out] at this
      have hcI : (s.cut : Int) ≤ 1000000 := by omega
      have hcap : s.packets.length ≤ cp := by
        have hpk := H.out.pk
        rw [HPV.out] at hpk
        rcases hpk.2 with ⟨h0, _⟩ | ⟨g', off', cap', cur, h0, _, _, hnc, _⟩
        · cases h0
        · injection h0 with _ _ h0
          omega
      by_cases hcp : cp = 1
      · subst hcp
        have hl1 : s.packets.length = 1 := by omega
        rw [hl1] at d3
        have hpop := deal_pop (v7 := .slice (some ⟨gp, op, none⟩) 0 0) H4.out HT.out (HQ5.out.trans HPV.out) (by rw [if_pos rfl])
        rw [HQ1.out] at hpop
        have HPOP := Lib.hid hpop
        clear hpop
        go_wp2
        generalize (w4.setCell ⟨m.q, 4, none⟩ (.int .i64 ((s.cut : Int) + 1))).setCell ⟨m.q, 3, none⟩ (.slice (some ⟨gp, op, none⟩) 0 0) = w6 at *
        have e2 : w6.cell? ⟨m.q, 2, none⟩ = some (.int .i64 s.seq) := by have := HPOP.out.1.blk.cell 2; exact (HQ1.out ▸ this)
        have e1 : w6.cell? ⟨m.q, 1, none⟩ = some (.bool s.short) := by have := HPOP.out.1.blk.cell 1; exact (HQ1.out ▸ this)
        have g2 : w6.frozen? ⟨m.q, 2, none⟩ = false := by have := HPOP.out.1.blk.free 2; exact (HQ1.out ▸ this)
        clear d4 f4 d3 f3 d2 d1 f2
        have hrg := ringOf_size s.short
        have hs0 := G.seq0
        have hs1 := G.seq1
        have hz : ¬ ringOf s.short = 0 := by omega
        have hz2 : (ringOf s.short == 0) = false := by simpa using hz
        have ht0 : (s.seq + (k : Int)).tmod (ringOf s.short) = (s.seq + (k : Int)) % ringOf s.short := Int.tmod_eq_emod_of_nonneg (by omega)
        have hwr : IntKind.i64.wrap (s.seq + (k : Int)) = s.seq + (k : Int) := IntWalk.i64_in _ (by omega)
        have hwr2 : IntKind.i64.wrap ((s.seq + (k : Int)) % ringOf s.short) = (s.seq + (k : Int)) % ringOf s.short := IntWalk.i64_in _ (by have := Int.emod_nonneg (s.seq + (k : Int)) hz; have := Int.emod_lt_of_pos (s.seq + (k : Int)) (show 0 < ringOf s.short by omega); omega)
        have hend := deal_seq (v := (s.seq + (k : Int)) % ringOf s.short) HPOP.out.1
        have hdl : s.deal x = { s with waits := deals R F s.cut s.waits k, opens := pst s.opens s.cut k, cut := s.cut + 1, packets := ts, seq := (s.seq + (k : Int)) % ringOf s.short } := by
          unfold QS.deal
          rw [HT.out]
          simp only [List.headD_cons, List.tail_cons]
          rw [HNN.out, HFF.out, HRR.out]
        dsimp only at hend
        rw [← hdl] at hend
        have HEND := Lib.hid hend
        have hMX := ((Mq.of_grown (o := own m s) (o' := own m s) (row := none) (grown_below2 (grown_below HB1.out) (HB12.out)) (fun b hb => by cases hb) (fun k hk => .inl hk)).trans M4.out).trans (HPOP.out.2.trans hend.2)
        have HMX := Lib.hid hMX
        clear hend hdl hMX
        go_region_with ((go_at_call 23; refine (ring_calls _ _).mono ?_; rintro e w' ⟨rfl, rfl⟩))
        all_goals
          go_wp2
          go_end0
          exact ⟨_, rfl, HEND.out.1, HMX.out, (by first | rfl | exact HQ1.out), HQ2.out, HQ3.out, HQ4.out⟩
      · have hp1 : 1 ≤ s.packets.length := hlen1
        have hp2 : 1 ≤ cp := by omega
        have hpop := deal_pop (v7 := .slice (some ⟨gp, op + 1, none⟩) (s.packets.length - 1) (cp - 1)) H4.out HT.out (HQ5.out.trans HPV.out) (by rw [if_neg hcp])
        rw [HQ1.out] at hpop
        have HPOP := Lib.hid hpop
        clear hpop
        go_wp2
        generalize (w4.setCell ⟨m.q, 4, none⟩ (.int .i64 ((s.cut : Int) + 1))).setCell ⟨m.q, 3, none⟩ (.slice (some ⟨gp, op + 1, none⟩) (s.packets.length - 1) (cp - 1)) = w6 at *
        have e2 : w6.cell? ⟨m.q, 2, none⟩ = some (.int .i64 s.seq) := by have := HPOP.out.1.blk.cell 2; exact (HQ1.out ▸ this)
        have e1 : w6.cell? ⟨m.q, 1, none⟩ = some (.bool s.short) := by have := HPOP.out.1.blk.cell 1; exact (HQ1.out ▸ this)
        have g2 : w6.frozen? ⟨m.q, 2, none⟩ = false := by have := HPOP.out.1.blk.free 2; exact (HQ1.out ▸ this)
        clear d4 f4 d3 f3 d2 d1 f2
        have hrg := ringOf_size s.short
        have hs0 := G.seq0
        have hs1 := G.seq1
        have hz : ¬ ringOf s.short = 0 := by omega
        have hz2 : (ringOf s.short == 0) = false := by simpa using hz
        have ht0 : (s.seq + (k : Int)).tmod (ringOf s.short) = (s.seq + (k : Int)) % ringOf s.short := Int.tmod_eq_emod_of_nonneg (by omega)
        have hwr : IntKind.i64.wrap (s.seq + (k : Int)) = s.seq + (k : Int) := IntWalk.i64_in _ (by omega)
        have hwr2 : IntKind.i64.wrap ((s.seq + (k : Int)) % ringOf s.short) = (s.seq + (k : Int)) % ringOf s.short := IntWalk.i64_in _ (by have := Int.emod_nonneg (s.seq + (k : Int)) hz; have := Int.emod_lt_of_pos (s.seq + (k : Int)) (show 0 < ringOf s.short by omega); omega)
        have hend := deal_seq (v := (s.seq + (k : Int)) % ringOf s.short) HPOP.out.1
        have hdl : s.deal x = { s with waits := deals R F s.cut s.waits k, opens := pst s.opens s.cut k, cut := s.cut + 1, packets := ts, seq := (s.seq + (k : Int)) % ringOf s.short } := by
          unfold QS.deal
          rw [HT.out]
          simp only [List.headD_cons, List.tail_cons]
          rw [HNN.out, HFF.out, HRR.out]
        dsimp only at hend
        rw [← hdl] at hend
        have HEND := Lib.hid hend
        have hMX := ((Mq.of_grown (o := own m s) (o' := own m s) (row := none) (grown_below2 (grown_below HB1.out) (HB12.out)) (fun b hb => by cases hb) (fun k hk => .inl hk)).trans M4.out).trans (HPOP.out.2.trans hend.2)
        have HMX := Lib.hid hMX
        clear hend hdl hMX
        go_region_with ((go_at_call 23; refine (ring_calls _ _).mono ?_; rintro e w' ⟨rfl, rfl⟩))
        all_goals
          go_wp2
          go_end0
          exact ⟨_, rfl, HEND.out.1, HMX.out, (by first | rfl | exact HQ1.out), HQ2.out, HQ3.out, HQ4.out⟩

end Go.Proofs.Ytcahedlgmljhkaa.QE
