/- The queue: the walks of New, pieces, Submit. -/
import Derived.Test.YtcahedlgmljhkaaQB
namespace Go.Proofs.Ytcahedlgmljhkaa.QC
open Go Go.RowKit Go.Maps Go.Proofs.Ytcahedlgmljhkaa.Mem Go.Proofs.Ytcahedlgmljhkaa.Plain Go.Proofs.Ytcahedlgmljhkaa.IMap Go.Proofs.Ytcahedlgmljhkaa.RowAt Go.Proofs.Ytcahedlgmljhkaa.QP Go.Proofs.Ytcahedlgmljhkaa.QG Go.Proofs.Ytcahedlgmljhkaa.QA Go.Proofs.Ytcahedlgmljhkaa.QB

variable {w w' : World} {m : QM} {s : QS} {n : Nat} {x : Int}

def m0 (H : Nat) : QM := ⟨H + 2, H, H + 1, .slice none 0 0, fun _ => 0, fun _ => .slice none 0 0⟩

theorem new_calls (z : Nat) (short : Bool) (w : World) (h0 : 1 ≤ z) (h1 : z ≤ 1500) :
    Calls Try.prog 8 #[.int .i64 z, .bool short] w fun e w' => ∃ m, e = .returned (.tuple #[.pointer (some ⟨m.q, 0, none⟩), .int .i64 0]) ∧ QRep w' m (QS.new z short) ∧ Below w.heap.size w w' ∧ ∀ b, own m (QS.new z short) b → w.heap.size ≤ b := by
  have hmm := @run_makeMap Try.prog
  go_enter Try.func8, Try.ntmps8
  go_wp2_with (first | (go_at_call 17; refine (may_yes _ _ (by omega) (by omega)).mono ?_; rintro e w' ⟨rfl, rfl⟩))
  go_ret2
  have hb : Blk ((w.alloc (.map #[] 0)).alloc (.map #[] 0) |>.alloc (.cells (cells (m0 w.heap.size) (QS.new z short)) 48)) (w.heap.size + 2) (cells (m0 w.heap.size) (QS.new z short)) 48 := by
    have := Blk.new ((w.alloc (.map #[] 0)).alloc (.map #[] 0)) (cells (m0 w.heap.size) (QS.new z short)) 48
    simpa using this
  have hl : IMap Try.prog 3 ((w.alloc (.map #[] 0)).alloc (.map #[] 0) |>.alloc (.cells (cells (m0 w.heap.size) (QS.new z short)) 48)) w.heap.size [] :=
    ((IMap.made w Try.prog 3).kept (row := none) (World.grownBy_alloc _ _ none) (by simp)).kept (row := none) (World.grownBy_alloc _ _ none) (by simp)
  have hh : IMap Try.prog 3 ((w.alloc (.map #[] 0)).alloc (.map #[] 0) |>.alloc (.cells (cells (m0 w.heap.size) (QS.new z short)) 48)) (w.heap.size + 1) [] := by
    have := (IMap.made (w.alloc (.map #[] 0)) Try.prog 3).kept (row := none) (World.grownBy_alloc _ (.cells (cells (m0 w.heap.size) (QS.new z short)) 48) none) (by simp)
    simpa using this
  refine ⟨m0 w.heap.size, rfl, ⟨hb, RowAt.nil _ _ _ _, hl, hh, (by unfold m0; simp), fun k hk => (by cases hk), fun k hk => (by cases hk), fun k hk => (by cases hk), fun k hk => (by cases hk)⟩, (((Below.refl _ _).alloc (Nat.le_refl _) _).alloc (by simp) _).alloc (by simp; omega) _, ?_⟩
  rintro b (h1 | h1 | h1 | h1 | ⟨j, hj, h1⟩)
  · subst h1; simp [m0]
  · subst h1; simp [m0]
  · subst h1; simp [m0]
  · simp [m0, Value.ownBlock] at h1
  · cases hj

theorem pieces_calls (h : QRep w m s) (t : ByteArray) (hz : 1 ≤ s.size) (hz1 : s.size ≤ 1500) (ht : t.size ≤ 1500) : Calls Try.prog 18 #[.pointer (some ⟨m.q, 0, none⟩), .string t] w fun e w' => e = .returned (.int .i64 (pieces s.size t)) ∧ ∃ k, w' = w.drewN k := by
  have c0 : w.cell? ⟨m.q, 0, none⟩ = some (.int .i64 s.size) := h.blk.cell 0
  have e1 : (pieces s.size t : Int) = ((t.size : Int) + (s.size : Int) - 1) / (s.size : Int) := by
    unfold pieces
    rw [Int.natCast_ediv]
    congr 1
    omega
  have HE := Lib.hid e1
  have g0 : IntKind.i64.wrap ((t.size : Int) + (s.size : Int)) = (t.size : Int) + (s.size : Int) := IntWalk.i64_in _ (by omega)
  have g1 : IntKind.i64.wrap ((t.size : Int) + (s.size : Int) - 1) = (t.size : Int) + (s.size : Int) - 1 := IntWalk.i64_in _ (by omega)
  have g2 : ((t.size : Int) + (s.size : Int) - 1).tdiv (s.size : Int) = ((t.size : Int) + (s.size : Int) - 1) / (s.size : Int) := Int.tdiv_eq_ediv_of_nonneg (by omega)
  have g3 : ¬ (s.size : Int) = 0 := by omega
  have hq : 0 ≤ ((t.size : Int) + (s.size : Int) - 1) / (s.size : Int) ∧ ((t.size : Int) + (s.size : Int) - 1) / (s.size : Int) ≤ 3000 := by
    refine ⟨Int.ediv_nonneg (by omega) (by omega), ?_⟩
    exact Int.le_trans (Int.ediv_le_self _ (by omega)) (by omega)
  clear e1
  go_enter Try.func18, Try.ntmps18
  go_wp2
  go_quiet (fail)
  go_wp2
  go_ret
  exact ⟨by rw [HE.out]; rfl, _, rfl⟩

theorem q_ne_pv (h : QRep w m s) : some m.q ≠ m.pv.ownBlock := fun e => by
  obtain ⟨cur, hc⟩ := row_ty h.pk e.symm
  exact ne_of_ty h.blk hc (by decide) rfl

/-- The packets' slice is another, and what was its block may be written. -/
theorem setPk {w7 : World} {v7 : Value} {ps : List ByteArray} (h : QRep w m s) (hg : w.grownBy w7 m.pv.ownBlock) (hr : RowAt w7 0 9 1 v7 ps.length (ps.map .string)) (ho : v7.ownBlock = m.pv.ownBlock ∨ v7.ownBlock = some w.heap.size) :
    QRep (w7.setCell ⟨m.q, 3, none⟩ v7) { m with pv := v7 } { s with packets := ps } ∧ Mq (own m s) (own { m with pv := v7 } { s with packets := ps }) w (w7.setCell ⟨m.q, 3, none⟩ v7) := by
  have g2 : w7.grownBy (w7.setCell ⟨m.q, 3, none⟩ v7) (some m.q) := grown_set (grown_refl _ _) 3 _
  have q1 := q_ne_pv h
  have q2 : m.q ≠ m.bo ∧ m.q ≠ m.bm := by
    obtain ⟨es, cl, hc⟩ := map_obj h.op
    obtain ⟨es', cl', hc'⟩ := map_obj h.ln
    exact ⟨ne_of_map h.blk hc, ne_of_map h.blk hc'⟩
  have p2 : some m.bo ≠ m.pv.ownBlock ∧ some m.bm ≠ m.pv.ownBlock := by
    obtain ⟨es, cl, hc⟩ := map_obj h.op
    obtain ⟨es', cl', hc'⟩ := map_obj h.ln
    refine ⟨fun e => ?_, fun e => ?_⟩
    · obtain ⟨cur, hp⟩ := row_ty h.pk e.symm; exact ne_of_map hp hc rfl
    · obtain ⟨cur, hp⟩ := row_ty h.pk e.symm; exact ne_of_map hp hc' rfl
  have l2 : ∀ k ∈ s.keys, some (m.lp k) ≠ m.pv.ownBlock ∧ m.lp k ≠ m.q := fun k hk => ⟨fun e => by
    obtain ⟨cur, hc⟩ := row_ty h.pk e.symm
    exact ne_of_ty (h.lane k hk) hc (by decide) rfl, ne_of_ty (h.lane k hk) h.blk (by decide)⟩
  have r2 : ∀ k ∈ s.keys, ∀ b, (m.wv k).ownBlock = some b → some b ≠ m.pv.ownBlock ∧ b ≠ m.q := fun k hk b hb => by
    obtain ⟨cur, hc⟩ := row_ty (h.row k hk) hb
    refine ⟨fun e => ?_, ne_of_ty hc h.blk (by decide)⟩
    obtain ⟨cur', hc'⟩ := row_ty h.pk e.symm
    exact ne_of_ty hc hc' (by decide) rfl
  have v2 : ∀ b, v7.ownBlock = some b → b ≠ m.q := fun b hb e => by
    subst e
    rcases ho with ho | ho
    · exact q1 (hb.symm.trans ho)
    · rw [hb] at ho
      have := h.blk.lt
      have := Option.some.inj ho
      omega
  refine ⟨⟨?_, hr.kept g2 (fun b hb => by simpa using v2 b hb), (h.op.kept hg p2.1).kept g2 (by simpa using q2.1.symm), (h.ln.kept hg p2.2).kept g2 (by simpa using q2.2.symm), h.ne, fun k hk => ((h.lane k hk).grown hg (l2 k hk).1).grown g2 (by simpa using (l2 k hk).2), fun k hk => ((h.row k hk).kept hg (fun b hb => (r2 k hk b hb).1)).kept g2 (fun b hb => by simpa using (r2 k hk b hb).2), h.inj, h.apart⟩, ?_⟩
  · have := (h.blk.grown hg q1).set 3 v7
    simpa [cells] using this
  · have m1 : Mq (own m s) (own { m with pv := v7 } { s with packets := ps }) w w7 := Mq.of_grown hg (fun b hb => .inl (own_pv hb)) (by
      rintro k (h1 | h1 | h1 | h1 | h1)
      · exact .inl (.inl h1)
      · exact .inl (.inr (.inl h1))
      · exact .inl (.inr (.inr (.inl h1)))
      · rcases ho with ho | ho
        · exact .inl (own_pv (ho.symm.trans h1))
        · have : v7.ownBlock = some k := h1
          rw [ho] at this
          have := Option.some.inj this
          exact .inr (by omega)
      · exact .inl (.inr (.inr (.inr (.inr h1)))))
    exact m1.trans (Mq.of_grown g2 (fun b hb => by cases hb; exact .inl (.inl rfl)) (fun k hk => .inl hk))

theorem Mq.draw {o : Nat → Prop} (w : World) (k : Nat) : Mq o o w (w.drewN k) := Mq.of_grown (row := none) (grown_drewN (grown_refl w none) k) (fun b hb => by cases hb) (fun k hk => .inl hk)

theorem info9 : (Try.prog.info? 9).map (fun i => (i.zero, i.size, i.bytes)) = some (some (.string ⟨#[]⟩), 1, 16) := by kernel_rfl

set_option maxHeartbeats 1000000 in
set_option maxRecDepth 100000 in
theorem sub_calls (t : ByteArray) (h : QRep w m s) (G : QG.Good s n) : Calls Try.prog 11 #[.pointer (some ⟨m.q, 0, none⟩), .string t] w fun e w' => ∃ m', e = .returned (.int .i64 (s.subNum t)) ∧ QRep w' m' (s.sub t) ∧ Mq (own m s) (own m' (s.sub t)) w w' ∧ m'.q = m.q := by
  have hz0 := G.z0
  have hz1 := G.z1
  have hfew := G.few
  have hqlt := h.blk.lt
  by_cases hm : 1 ≤ t.size ∧ t.size ≤ 1500
  · have hp : ∀ W, QRep W m s → Calls Try.prog 18 #[.pointer (some ⟨m.q, 0, none⟩), .string t] W fun e w' => e = .returned (.int .i64 (pieces s.size t)) ∧ ∃ k, w' = W.drewN k := fun W hW => pieces_calls hW t hz0 hz1 hm.2
    have hmI : (1 : Int) ≤ (t.size : Int) ∧ (t.size : Int) ≤ 1500 := by omega
    have HP := Lib.hid hp
    clear hp
    by_cases hp64 : pieces s.size t ≤ 64
    · have hok : okPk s.size t = true := okPk_spec.2 ⟨hm.1, hm.2, hp64⟩
      have hp64' : ¬ (64 : Int) < (pieces s.size t : Int) := by omega
      by_cases hl : 64 ≤ s.len
      · have e1 : s.subNum t = 2001 := by unfold QS.subNum; rw [if_pos hok, if_pos hl]
        have e2 : s.sub t = s := by unfold QS.sub; rw [e1]; rfl
        have hl1 : (64 : Int) ≤ (s.len : Int) := by omega
        have hl2 : s.len ≤ 1000 := by unfold QS.len; omega
        rw [e1, e2]
        clear e1 e2 hok
        go_enter Try.func11, Try.ntmps11
        go_wp2_with (first
          | (go_at_call 17; refine (may_yes _ _ hmI.1 hmI.2).mono ?_; rintro e w' ⟨rfl, rfl⟩)
          | (go_at_call 18; refine (HP.out _ h).mono ?_; rintro e w' ⟨rfl, k1, rfl⟩)
          | (go_at_call 16; refine (len_calls (h.drewN k1) hl2).mono ?_; rintro e w' ⟨rfl, k2, rfl⟩))
        go_ret
        exact ⟨m, rfl, h.drewN _, Mq.draw _ _, rfl⟩
      · have e1 : s.subNum t = 0 := by unfold QS.subNum; rw [if_pos hok, if_neg hl]
        have e2 : s.sub t = { s with packets := s.packets ++ [t] } := by unfold QS.sub; rw [e1]; rfl
        have hl1 : (s.len : Int) < 64 := by omega
        have hl2 : s.len ≤ 1000 := by omega
        obtain ⟨A, c, hpv⟩ := h.pk.form
        have HD : Hid (∀ k, (w.drewN k).cell? ⟨m.q, 3, none⟩ = some (.slice A s.packets.length c)) := Lib.hid (fun k => ((h.drewN k).blk.cell 3).trans (congrArg some hpv))
        have HA : Hid (∀ k, QRep ((w.drewN k).alloc (.cells #[.string t] 9)) m s) := Lib.hid (fun k => (h.drewN k).grown (grown_alloc (grown_refl _ none) _))
        have HK : Hid (∀ k, RowAt ((w.drewN k).alloc (.cells #[.string t] 9)) 0 9 1 (.slice A s.packets.length c) s.packets.length (s.packets.map .string)) := Lib.hid (fun k => hpv ▸ (HA.out k).pk)
        have HPV := Lib.hid hpv
        have hqpv := q_ne_pv h
        rw [hpv] at hqpv
        have HB : Hid (∀ k, Blk ((w.drewN k).alloc (.cells #[.string t] 9)) w.heap.size #[.string t] 9) := Lib.hid (fun k => Blk.new (w.drewN k) _ 9)
        have hpl : s.packets.length < 64 := by unfold QS.len at hl; omega
        rw [e1, e2]
        clear e1 e2 hok hpv
        obtain ⟨i9, hi9, hz90, hz91, hz92⟩ := info_parts info9
        go_enter Try.func11, Try.ntmps11
        go_wp2_with (first
          | (go_at_call 17; refine (may_yes _ _ hmI.1 hmI.2).mono ?_; rintro e w' ⟨rfl, rfl⟩)
          | (go_at_call 18; refine (HP.out _ h).mono ?_; rintro e w' ⟨rfl, k1, rfl⟩)
          | (go_at_call 16; refine (len_calls (h.drewN k1) hl2).mono ?_; rintro e w' ⟨rfl, k2, rfl⟩; have d3 := HD.out (k1 + k2))
          | (at_builtin; refine wpList_append_at rfl (.tmp 27) (.tmp 29) 22 22 rfl i9 (.string ⟨#[]⟩) 16 Try.underlying22 hi9 hz90 hz91 hz92 rfl (HK.out _) rfl _ rfl 1 [.string t] (src_one (size := 1) (P := Try.prog) (cs := #[.string t]) Try.underlying22 (te := 9) (HB.out _) rfl (by simp [Value.oneCell']) 1) (by unfold maxLen; omega) (by omega) (Nat.zero_le _) ?_; intro v7 w7 hrow7 hgrow7 hnil7 hown7; obtain ⟨A7, c7, rfl⟩ := RowAt.form hrow7; have d7 : w7.cell? ⟨m.q, 3, none⟩ = some (.slice A s.packets.length c) := ((HA.out _).blk.grown hgrow7 hqpv).cell 3 |>.trans (congrArg some HPV.out); have f7 := ((HA.out _).blk.grown hgrow7 hqpv).free 3))
        go_ret
        rw [← HPV.out] at hgrow7 hown7
        obtain ⟨a, b⟩ := setPk (ps := s.packets ++ [t]) (HA.out _) hgrow7 (by simpa using hrow7) hown7
        exact ⟨_, rfl, a, (Mq.of_grown (row := none) (grown_alloc (grown_drewN (grown_refl w none) _) _) (fun b hb => by cases hb) (fun k hk => .inl hk)).trans b, rfl⟩
    · have hok : ¬ okPk s.size t = true := fun e => hp64 (okPk_spec.1 e).2.2
      have e1 : s.subNum t = 2000 := by unfold QS.subNum; rw [if_neg hok]
      have e2 : s.sub t = s := by unfold QS.sub; rw [e1]; rfl
      have hp64' : (64 : Int) < (pieces s.size t : Int) := by omega
      rw [e1, e2]
      clear e1 e2 hok
      go_enter Try.func11, Try.ntmps11
      go_wp2_with (first
        | (go_at_call 17; refine (may_yes _ _ hmI.1 hmI.2).mono ?_; rintro e w' ⟨rfl, rfl⟩)
        | (go_at_call 18; refine (HP.out _ h).mono ?_; rintro e w' ⟨rfl, k1, rfl⟩))
      go_ret
      exact ⟨m, rfl, h.drewN _, Mq.draw _ _, rfl⟩
  · have hok : ¬ okPk s.size t = true := fun e => hm ⟨(okPk_spec.1 e).1, (okPk_spec.1 e).2.1⟩
    have e1 : s.subNum t = 2000 := by unfold QS.subNum; rw [if_neg hok]
    have e2 : s.sub t = s := by unfold QS.sub; rw [e1]; rfl
    rw [e1, e2]
    clear e1 e2 hok
    go_enter Try.func11, Try.ntmps11
    go_wp2_with (first
      | (go_at_call 17; refine (may_no _ _ (by omega)).mono ?_; rintro e w' ⟨rfl, rfl⟩))
    go_ret
    exact ⟨m, rfl, h, Mq.refl _ _, rfl⟩

end Go.Proofs.Ytcahedlgmljhkaa.QC
