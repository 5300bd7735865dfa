/- The queue: the contract of Cut, as deal calls it. -/
import Derived.Test.YtcahedlgmljhkaaQR
import Derived.Test.YtcahedlgmljhkaaQCut
import Derived.Deep.RegionHeld3
import Derived.StillTailTactics
namespace Go.Proofs.Ytcahedlgmljhkaa.QD
open Go Go.RowKit Go.Maps Go.Proofs.Ytcahedlgmljhkaa.Mem Go.Proofs.Ytcahedlgmljhkaa.Plain Go.Proofs.Ytcahedlgmljhkaa.IMap Go.Proofs.Ytcahedlgmljhkaa.RowAt Go.Proofs.Ytcahedlgmljhkaa.QP Go.Proofs.Ytcahedlgmljhkaa.QG Go.Proofs.Ytcahedlgmljhkaa.QA Go.Proofs.Ytcahedlgmljhkaa.QB Go.Proofs.Ytcahedlgmljhkaa.QC Go.Proofs.Ytcahedlgmljhkaa.QR
open Go.Proofs.Ytcahedlgmljhkaa.QCut (Cuts cut_f cuts_of fr)
open Go.Proofs.Ytcahedlgmljhkaa.PQueueDrains (k32 at_T32 rd_T32 split_Cut.calls)
open Go.Proofs.YtcahedlgmljhkaaW.PrintWords

variable {w wr : World} {m : QM} {s : QS} {n : Nat} {x : Int}

theorem up {w w' : World} (h : Below w.heap.size w w') {p : Addr} {v : Value} (hc : w.cell? p = some v) : w'.cell? p = some v := (h.cell (World.block_lt_of_cell? w _ hc)).trans hc

/-- A row of fragments, read. -/
structure Frs (w : World) (g o n : Nat) (f : Nat → Fr) : Prop where
  lt : g < w.heap.size
  c0 : ∀ i, i < n → w.cell? ⟨g, o + i * 4, none⟩ = some (.bool (f i).b)
  c1 : ∀ i, i < n → w.cell? ⟨g, o + i * 4 + 1, none⟩ = some (.bool (f i).e)
  c2 : ∀ i, i < n → w.cell? ⟨g, o + i * 4 + 2, none⟩ = some (.int .i64 (f i).q)
  c3 : ∀ i, i < n → w.cell? ⟨g, o + i * 4 + 3, none⟩ = some (.string (f i).d)

theorem Frs.block {w' : World} {g o n : Nat} {f : Nat → Fr} (h : Frs w g o n f) (hb : w'.heap[g]? = w.heap[g]?) : Frs w' g o n f :=
  ⟨by have h1 : g < w.heap.size := h.lt
      have h2 : (w.heap[g]?).isSome = true := by simp [h1]
      rw [← hb] at h2
      simpa using h2,
    fun i hi => (World.cell?_of_block (a := ⟨g, _, none⟩) hb).trans (h.c0 i hi), fun i hi => (World.cell?_of_block (a := ⟨g, _, none⟩) hb).trans (h.c1 i hi), fun i hi => (World.cell?_of_block (a := ⟨g, _, none⟩) hb).trans (h.c2 i hi), fun i hi => (World.cell?_of_block (a := ⟨g, _, none⟩) hb).trans (h.c3 i hi)⟩

/-- What Cut answers, with what is read of it. -/
theorem cut_calls {t : ByteArray} {z n : Nat} {q : Int} {b : Bool} (C : Cuts t z n q b) (g : Nat) (w : World) (hc : w.cell? ⟨g, 0, none⟩ = some (.int .i64 (z : Int))) :
    Calls Try.prog 22 #[.string t, .slice (some ⟨g, 0, none⟩) 1 1, .int .i64 q, .bool b] w fun e w' => ∃ h o k, e = .returned (.tuple #[.slice (some ⟨h, o, none⟩) n k, .int .i64 0]) ∧ w.heap.size ≤ h ∧ Frs w' h o n (frag t z n q (ringOf b)) ∧ Below w.heap.size w w' := by
  have hr : ReadsInt w .i64 (some ⟨g, 0, none⟩) 1 [(z : Int)] := ⟨rfl, by omega, fun _ => ⟨_, rfl, fun j hj => by
    obtain rfl : j = 0 := by omega
    exact hc⟩⟩
  refine (split_Cut.calls (n + 4) t (some ⟨g, 0, none⟩) 1 [(z : Int)] q b _ 0 w (Kd.C_of_reads (d := (0 : Int)) (h1 := fun _ => rfl) hr) (by simp) (cut_f C)).mono ?_
  rintro e w' ⟨v, rfl, hR, hb⟩
  obtain ⟨inner, ho⟩ := Kd.R_own hR
  obtain ⟨A, k, rfl⟩ := Kd.R_slice hR
  have hC := (Kd.R_reads' hR).2.2
  have hl : (List.map (fr t z n q b) (List.range n)).length = n := by simp
  rw [hl] at hC ho ⊢
  have hn0 := C.n0
  have hro := RowAt.of_owns ho
  obtain ⟨h, o, rfl⟩ := row_some hro hn0
  obtain ⟨hlo, hhi⟩ := hro.lt h rfl
  have hrd : ∀ i, i < n → rd_T32 (List.map (fr t z n q b) (List.range n)) (i : Int) = fr t z n q b i := fun i hi => by
    unfold rd_T32
    simp [List.getD_eq_getElem?_getD, List.getElem?_map, List.getElem?_range hi]
  have hall : ∀ i, i < n → w'.cell? ⟨h, o + i * 4, none⟩ = some (.bool (frag t z n q (ringOf b) i).b) ∧ w'.cell? ⟨h, o + i * 4 + 1, none⟩ = some (.bool (frag t z n q (ringOf b) i).e) ∧ w'.cell? ⟨h, o + i * 4 + 2, none⟩ = some (.int .i64 (frag t z n q (ringOf b) i).q) ∧ w'.cell? ⟨h, o + i * 4 + 3, none⟩ = some (.string (frag t z n q (ringOf b) i).d) := fun i hi => by
    obtain ⟨ad, e, h0, h1, h2, h3⟩ := at_T32 hC (i : Int) (by omega) (by omega)
    injection e with e
    subst e
    rw [hrd i hi, Int.toNat_natCast, Addr.add_lit] at h0 h1 h2 h3
    simp only [fr] at h0 h1 h2 h3
    exact ⟨h0, h1, h2, h3⟩
  exact ⟨h, o, k, rfl, hlo, ⟨hhi, fun i hi => (hall i hi).1, fun i hi => (hall i hi).2.1, fun i hi => (hall i hi).2.2.1, fun i hi => (hall i hi).2.2.2⟩, hb⟩

def QM.setWv (m : QM) (y : Int) (v : Value) : QM := { m with wv := upd m.wv y v }

variable {y : Int}

/-- One link's fragments are others. -/
theorem setLane {w7 : World} {v7 : Value} {l : List Wt} (h : QRep w m s) (hy : y ∈ s.keys) (hg : w.grownBy w7 (m.wv y).ownBlock) (hr : RowAt w7 0 55 5 v7 l.length (flat l)) (ho : v7.ownBlock = (m.wv y).ownBlock ∨ v7.ownBlock = some w.heap.size) :
    QRep (w7.setCell ⟨m.lp y, 0, none⟩ v7) (QM.setWv m y v7) { s with waits := upd s.waits y l } ∧ Mq (own m s) (own (QM.setWv m y v7) { s with waits := upd s.waits y l }) w (w7.setCell ⟨m.lp y, 0, none⟩ v7) := by
  have g2 : w7.grownBy (w7.setCell ⟨m.lp y, 0, none⟩ v7) (some (m.lp y)) := grown_set (grown_refl _ _) 0 _
  have hL := h.lane y hy
  have hR := h.row y hy
  obtain ⟨eo, co, ho1⟩ := map_obj h.op
  obtain ⟨el, cl, hl1⟩ := map_obj h.ln
  have a1 : ∀ {b : Nat} {cs : Array Value} {e : TypeId}, w.heap[b]? = some (.cells cs e (0, 0)) → e ≠ 55 → some b ≠ (m.wv y).ownBlock := fun hb hne e => by
    obtain ⟨cur, hc⟩ := row_ty hR e.symm
    exact ne_of_ty hb hc hne rfl
  have a2 : ∀ {b : Nat} {es : Array MapEntry} {c : Nat}, w.heap[b]? = some (.map es c) → some b ≠ (m.wv y).ownBlock := fun hb e => by
    obtain ⟨cur, hc⟩ := row_ty hR e.symm
    exact ne_of_map hc hb rfl
  have p1 : ∀ b, m.pv.ownBlock = some b → some b ≠ (m.wv y).ownBlock ∧ b ≠ m.lp y := fun b hb => by
    obtain ⟨cur, hc⟩ := row_ty h.pk hb
    exact ⟨a1 hc (by decide), ne_of_ty hc hL (by decide)⟩
  have r1 : ∀ k ∈ s.keys, ∀ b, (m.wv k).ownBlock = some b → b ≠ m.lp y := fun k hk b hb => by
    obtain ⟨cur, hc⟩ := row_ty (h.row k hk) hb
    exact ne_of_ty hc hL (by decide)
  have v1 : ∀ b, v7.ownBlock = some b → b ≠ m.lp y := fun b hb => by
    rcases ho with ho | ho
    · exact r1 y hy b (ho.symm.trans hb)
    · rw [hb] at ho
      have := hL.lt
      have := Option.some.inj ho
      omega
  have v2 : ∀ k ∈ s.keys, k ≠ y → ∀ b, (m.wv k).ownBlock = some b → v7.ownBlock ≠ some b := fun k hk hne b hb e => by
    rcases ho with ho | ho
    · exact h.apart k hk y hy hne b hb (ho.symm.trans e)
    · rw [e] at ho
      have := (h.row k hk).lt b hb
      have := Option.some.inj ho
      omega
  refine ⟨⟨?_, ((h.pk.kept hg (fun b hb => (p1 b hb).1)).kept g2 (fun b hb => by simpa using (p1 b hb).2)), (h.op.kept hg (a2 ho1)).kept g2 (by simpa using (ne_of_map hL ho1).symm), ?_, h.ne, fun k hk => ?_, fun k hk => ?_, h.inj, fun k hk j hj hkj => ?_⟩, ?_⟩
  · exact (h.blk.grown hg (a1 h.blk (by decide))).grown g2 (by simpa using ne_of_ty h.blk hL (by decide))
  · exact (h.ln.kept hg (a2 hl1)).kept g2 (by simpa using (ne_of_map hL hl1).symm)
  · by_cases e : k = y
    · subst e
      unfold QM.setWv
      simp only [upd_same]
      exact (hL.grown hg (a1 hL (by decide))).set 0 v7
    · unfold QM.setWv
      simp only [upd_other _ _ e]
      exact ((h.lane k hk).grown hg (a1 (h.lane k hk) (by decide))).grown g2 (by simpa using h.inj k hk y hy e)
  · by_cases e : k = y
    · subst e
      unfold QM.setWv
      simp only [upd_same]
      exact hr.kept g2 (fun b hb => by simpa using v1 b hb)
    · unfold QM.setWv
      simp only [upd_other _ _ e]
      exact ((h.row k hk).kept hg (fun b hb e2 => h.apart k hk y hy e b hb e2.symm)).kept g2 (fun b hb => by simpa using r1 k hk b hb)
  · unfold QM.setWv
    by_cases e : k = y
    · subst e
      have hj' : j ≠ k := fun e => hkj e.symm
      simp only [upd_same, upd_other _ _ hj']
      intro b hb hb2
      exact v2 j hj hj' b hb2 hb
    · by_cases e2 : j = y
      · subst e2
        simp only [upd_same, upd_other _ _ e]
        exact v2 k hk e
      · simp only [upd_other _ _ e, upd_other _ _ e2]
        exact h.apart k hk j hj hkj
  · have m1 : Mq (own m s) (own (QM.setWv m y v7) { s with waits := upd s.waits y l }) w w7 := Mq.of_grown hg (fun b hb => .inl (own_wv hy hb)) (by
      rintro k (h1 | h1 | h1 | h1 | ⟨j, hj, h1⟩)
      · exact .inl (.inl h1)
      · exact .inl (.inr (.inl h1))
      · exact .inl (.inr (.inr (.inl h1)))
      · exact .inl (.inr (.inr (.inr (.inl h1))))
      · rcases h1 with h1 | h1
        · exact .inl (.inr (.inr (.inr (.inr ⟨j, hj, .inl h1⟩))))
        · by_cases e : j = y
          · subst e
            have h1 : (upd m.wv j v7 j).ownBlock = some k := h1
            rw [upd_same] at h1
            rcases ho with ho | ho
            · exact .inl (own_wv hj (ho.symm.trans h1))
            · rw [h1] at ho
              have := Option.some.inj ho
              exact .inr (by omega)
          · have h1 : (upd m.wv y v7 j).ownBlock = some k := h1
            rw [upd_other _ _ e] at h1
            exact .inl (own_wv hj h1))
    exact m1.trans (Mq.of_grown g2 (fun b hb => by cases hb; exact .inl (.inr (.inr (.inr (.inr ⟨y, hy, .inl rfl⟩))))) (fun k hk => .inl hk))

/-- The counts' map is another. -/
theorem setOpens {w' : World} {o : List (Int × Int)} (h : QRep w m s) (hg : w.grownBy w' (some m.bo)) (hm : IMap Try.prog 3 w' m.bo (o.map fun p => (p.1, .int .i64 p.2))) : QRep w' m { s with opens := o } ∧ Mq (own m s) (own m { s with opens := o }) w w' := by
  obtain ⟨eo, co, ho1⟩ := map_obj h.op
  refine ⟨⟨h.blk.grown hg (by simpa using ne_of_map h.blk ho1), h.pk.kept hg (fun b hb => ?_), hm, h.ln.kept hg (by simpa using h.ne.symm), h.ne, fun k hk => (h.lane k hk).grown hg (by simpa using ne_of_map (h.lane k hk) ho1), fun k hk => (h.row k hk).kept hg (fun b hb => ?_), h.inj, h.apart⟩, Mq.of_grown hg (fun b hb => by cases hb; exact .inl own_bo) (fun k hk => .inl hk)⟩
  · obtain ⟨cur, hc⟩ := row_ty h.pk hb
    simpa using ne_of_map hc ho1
  · obtain ⟨cur, hc⟩ := row_ty (h.row k hk) hb
    simpa using ne_of_map hc ho1

/-- A cell of the queue itself. -/
theorem setQ {w' : World} {s' : QS} (h : QRep w m s) (hg : w.grownBy w' (some m.q)) (hb : Blk w' m.q (cells m s') 48) (h1 : s'.packets = s.packets) (h2 : s'.opens = s.opens) (h3 : s'.keys = s.keys) (h4 : s'.drains = s.drains) (h5 : s'.waits = s.waits) : QRep w' m s' ∧ Mq (own m s) (own m s') w w' := by
  obtain ⟨eo, co, ho1⟩ := map_obj h.op
  obtain ⟨el, cl, hl1⟩ := map_obj h.ln
  refine ⟨⟨hb, ?_, ?_, ?_, h.ne, ?_, ?_, ?_, ?_⟩, Mq.of_grown hg (fun b hb => by cases hb; exact .inl own_q) (fun k hk => .inl ?_)⟩
  · rw [h1]
    refine h.pk.kept hg (fun b hb => ?_)
    obtain ⟨cur, hc⟩ := row_ty h.pk hb
    simpa using ne_of_ty hc h.blk (by decide)
  · unfold openPairs
    rw [h2]
    exact h.op.kept hg (by simpa using (ne_of_map h.blk ho1).symm)
  · unfold lanePairs
    rw [h3]
    exact h.ln.kept hg (by simpa using (ne_of_map h.blk hl1).symm)
  · rw [h3, h4]
    exact fun k hk => (h.lane k hk).grown hg (by simpa using ne_of_ty (h.lane k hk) h.blk (by decide))
  · rw [h3, h5]
    refine fun k hk => (h.row k hk).kept hg (fun b hb => ?_)
    obtain ⟨cur, hc⟩ := row_ty (h.row k hk) hb
    simpa using ne_of_ty hc h.blk (by decide)
  · rw [h3]; exact h.inj
  · rw [h3]; exact h.apart
  · unfold own at hk ⊢
    rw [h3] at hk
    exact hk

end Go.Proofs.Ytcahedlgmljhkaa.QD
