/- The walk of Put. -/
import Derived.Test.YtcpehjdnmhkcpaaJoinH
import Derived.StillTailTactics
namespace Go.Proofs.Ytcpehjdnmhkcpaa.JoinI
open Go Go.RowKit Go.Maps Go.Proofs.Ytcpehjdnmhkcpaa.Mem Go.Proofs.Ytcpehjdnmhkcpaa.Plain Go.Proofs.Ytcpehjdnmhkcpaa.Ring Go.Proofs.Ytcpehjdnmhkcpaa.IMap Go.Proofs.Ytcpehjdnmhkcpaa.JoinP Go.Proofs.Ytcpehjdnmhkcpaa.JoinA Go.Proofs.Ytcpehjdnmhkcpaa.JoinB Go.Proofs.Ytcpehjdnmhkcpaa.JoinC Go.Proofs.Ytcpehjdnmhkcpaa.Mv Go.Proofs.Ytcpehjdnmhkcpaa.RowAt Go.Proofs.Ytcpehjdnmhkcpaa.JoinQ Go.Proofs.Ytcpehjdnmhkcpaa.JoinD Go.Proofs.Ytcpehjdnmhkcpaa.JoinE Go.Proofs.Ytcpehjdnmhkcpaa.JoinR Go.Proofs.Ytcpehjdnmhkcpaa.JoinF Go.Proofs.Ytcpehjdnmhkcpaa.JoinG Go.Proofs.Ytcpehjdnmhkcpaa.JoinH

theorem grown_below {a b c : World} (h : a.grownBy b none) (hb : Below b.heap.size b c) : a.grownBy c none :=
  ⟨hb.os.trans h.os, hb.tape.trans h.tape, hb.output.trans h.output, Nat.le_trans h.size hb.size, fun k hk hne => (hb.block k (Nat.lt_of_lt_of_le hk h.size)).trans (h.block k hk hne)⟩

theorem setLost {J bl bh : Nat} {s : JS} {w : World} (h : JRep w J bl bh s) (x : Int) : JRep (w.setCell ⟨J, 6, none⟩ (.int .i64 x)) J bl bh { s with lost := x } := by
  refine ⟨?_, h.links.kept (grown_set (grown_refl _ (some J)) 6 _) (by intro e; exact h.jl (Option.some.inj e).symm), h.held.kept (grown_set (grown_refl _ (some J)) 6 _) (by intro e; exact h.jh (Option.some.inj e).symm), h.ne, h.jl, h.jh⟩
  have := h.blk.set 6 (.int .i64 x)
  simpa [cells, JS.size] using this

theorem row_up {w W : World} {B : Nat} {e : TypeId} {sz : Nat} {v : Value} {n : Nat} {xs : List Value} (h : RowAt W B e sz v n xs) (hB : w.heap.size ≤ B) : RowAt W w.heap.size e sz v n xs :=
  h.mono fun k hk => Nat.le_trans hB (h.lt k hk).1

/-- A quiet call behind so many draws. -/
theorem quiet_next {P : Program} {f : FuncId} {args : Array Value} {X : World} {b a : Nat} {v : Value} (h : Calls P f args (X.drewN (b + a)) fun e w' => e = .returned v ∧ ∃ n, w' = (X.drewN (b + a)).drewN n) :
    Calls P f args (X.drewN (b + a)) fun e w'' => e = .returned v ∧ ∃ n, w'' = X.drewN (b + n) :=
  h.mono fun _ _ ⟨he, n, hn⟩ => ⟨he, a + n, by rw [hn, World.drewN_drewN, Nat.add_assoc]⟩

/-- What Put leaves. -/
def PutPost (J bl bh : Nat) (s : JS) (x : Int) (f : Fr) (w : World) (e : Ending) (w' : World) : Prop :=
  ∃ v, e = .returned (.tuple #[v, .int .i64 (JS.putNum s x f)]) ∧ RowAt w' w.heap.size 9 1 v (JS.put s x f).1.length ((JS.put s x f).1.map Value.string) ∧ JRep w' J bl bh (JS.put s x f).2 ∧ Mv J bl bh w w'

set_option maxHeartbeats 1000000 in
set_option maxRecDepth 100000 in
theorem put_none (J bl bh : Nat) (s : JS) (x : Int) (f : Fr) (w : World) (h : JRep w J bl bh s) (hx : (Lit.int .i64 x).wf = true) (hb : JS.has s x = false) :
    Calls Try.prog 20 #[.pointer (some ⟨J, 0, none⟩), .int .i64 x, f.val] w (PutPost J bl bh s x f w) := by
  have e1 : JS.putNum s x f = 1902 := by unfold JS.putNum; rw [hb]; rfl
  have e2 : JS.put s x f = ([], s) := by unfold JS.put; rw [e1]; rfl
  unfold PutPost
  rw [e1, e2]
  obtain ⟨fb, fe, fq, fd⟩ := f
  unfold Fr.val
  have hh := look_has s x
  rw [hb] at hh
  have HN : Hid (IMap.look (linkPairs s) x = none) := Lib.hid (by simpa using hh)
  have c4 : w.cell? ⟨J, 4, none⟩ = some (.map (some bl)) := h.blk.cell 4
  have hJ := h.blk.lt
  clear hh hb e1 e2
  go_enter Try.func20, Try.ntmps20
  go_wp2_with (first | (at_lookup; refine wpList_ilook_ok (h.links.kept (grown_alloc (grown_refl _ none) _) (by simp)) rfl _ _ 69 3 rfl law3 Try.underlying3 Try.underlying69 _ (zero3 _) rfl x rfl hx ?_; rw [HN.out]))
  go_ret2
  exact ⟨_, rfl, RowAt.nil _ _ _ _, h.grown (grown_alloc (grown_refl _ none) _), (Mv.refl _ _ _ _).grown (grown_alloc (grown_refl _ none) _) (by simp)⟩

/-- What region 6 reads. -/
abbrev RegP (J : Nat) (s : JS) (f : Fr) (w1 : World) (B : Nat) (W : World) : Prop :=
  W.cell? ⟨J, 2, none⟩ = some (.bool s.short) ∧ W.cell? ⟨B, 0, none⟩ = some (.bool f.b) ∧ W.cell? ⟨B, 1, none⟩ = some (.bool f.e) ∧ W.cell? ⟨B, 2, none⟩ = some (.int .i64 f.q) ∧ W.cell? ⟨B, 3, none⟩ = some (.string f.d) ∧ w1.grownBy W none

theorem regP_mk {J bl bh B : Nat} {s : JS} {f : Fr} {w1 : World} (h : JRep w1 J bl bh s) (hB : Blk w1 B #[.bool f.b, .bool f.e, .int .i64 f.q, .string f.d] 33) : ∀ W, w1.grownBy W none → RegP J s f w1 B W := fun W hW => by
  have hb := hB.grown hW (by simp)
  exact ⟨(h.grown hW).blk.cell 2, hb.cell 0, hb.cell 1, hb.cell 2, hb.cell 3, hW⟩

set_option maxHeartbeats 2000000 in
set_option maxRecDepth 100000 in
theorem put_bad (J bl bh : Nat) (s : JS) (x : Int) (f : Fr) (w : World) (h : JRep w J bl bh s) (hx : (Lit.int .i64 x).wf = true) (hb : JS.has s x = true) (hf : ¬ okFr s.short f = true) :
    Calls Try.prog 20 #[.pointer (some ⟨J, 0, none⟩), .int .i64 x, f.val] w (PutPost J bl bh s x f w) := by
  have e1 : JS.putNum s x f = 1900 := by unfold JS.putNum; rw [if_pos hb, if_neg hf]
  have e2 : JS.put s x f = ([], s) := by unfold JS.put; rw [e1]; rfl
  have HP : Hid (∀ W, Calls Try.prog 32 #[.agg #[.bool f.b, .bool f.e, .int .i64 f.q, .string f.d], .bool s.short] W fun e w' => (∃ t, e = .returned (.tuple #[.string t, .int .i64 801])) ∧ Below W.heap.size W w') := Lib.hid (fun W => by
    have := mp_calls f s.short W
    rw [if_neg hf] at this
    exact this)
  unfold PutPost
  rw [e1, e2]
  obtain ⟨fb, fe, fq, fd⟩ := f
  unfold Fr.val
  have hh := look_has s x
  rw [hb] at hh
  obtain ⟨v, hv⟩ := Option.isSome_iff_exists.1 hh
  obtain ⟨l, rfl, _⟩ := look_links hv
  have HN := Lib.hid hv
  have c4 : w.cell? ⟨J, 4, none⟩ = some (.map (some bl)) := h.blk.cell 4
  have hJ := h.blk.lt
  have MK := Lib.hid (regP_mk (f := ⟨fb, fe, fq, fd⟩) (h.grown (grown_alloc (grown_refl _ none) (.cells #[.bool fb, .bool fe, .int .i64 fq, .string fd] 33))) (Blk.new w _ 33))
  clear hh hb hv e1 e2 hf
  go_enter Try.func20, Try.ntmps20
  go_wp2_with (first | (at_lookup; refine wpList_ilook_ok (h.links.kept (grown_alloc (grown_refl _ none) _) (by simp)) rfl _ _ 69 3 rfl law3 Try.underlying3 Try.underlying69 _ (zero3 _) rfl x rfl hx ?_; rw [HN.out]))
  go_region_held3 (fun W => RegP J s ⟨fb, fe, fq, fd⟩ (w.alloc (.cells #[.bool fb, .bool fe, .int .i64 fq, .string fd] 33)) w.heap.size W) (first | exact MK.out _ (grown_drewN (grown_refl _ _) 1) | exact MK.out _ (grown_below (grown_drewN (grown_refl _ none) 1) hb3))
    (first | (go_at_call 32; ((with_reducible refine (HP.out _).mono ?_); rintro e w3 ⟨⟨t, rfl⟩, hb3⟩)))
  go_wp2
  go_ret2
  exact ⟨_, rfl, RowAt.nil _ _ _ _, h.grown (grown_below (grown_drewN (grown_alloc (grown_refl w none) (.cells #[.bool fb, .bool fe, .int .i64 fq, .string fd] 33)) 1) hb3), (Mv.refl _ _ _ _).grown (grown_below (grown_drewN (grown_alloc (grown_refl w none) (.cells #[.bool fb, .bool fe, .int .i64 fq, .string fd] 33)) 1) hb3) (by simp)⟩

/-- What region 10 reads. -/
abbrev RegQ (J B bh : Nat) (x : Int) (val : Value) (w1 : World) (W : World) : Prop :=
  W.cell? ⟨J, 5, none⟩ = some (.map (some bh)) ∧ W.cell? ⟨B, 2, none⟩ = some (.int .i64 x) ∧ Sem.run Try.prog (Instr.lookup 70 (.map (some bh)) (.int .i64 x) true) W = .ok val W ∧ w1.grownBy W none

theorem regQ_mk {J bl bh B : Nat} {s : JS} {x : Int} {w1 : World} {cs : Array Value} (h : JRep w1 J bl bh s) (hB : Blk w1 B cs 33) (h2 : cs[2]? = some (.int .i64 x)) (hx : (Lit.int .i64 x).wf = true) : ∀ W, w1.grownBy W none → RegQ J B bh x (gotVal s x) w1 W := fun W hW => by
  have hR := h.grown hW
  refine ⟨hR.blk.cell 5, ((hB.grown hW (by simp)).cell 2).trans h2, ?_, hW⟩
  have := hR.held.look_ok law3 Try.underlying3 Try.underlying70 (zero33 _) (x := x) hx
  rw [look_get] at this
  rw [this]
  unfold gotVal
  cases s.get x <;> rfl

set_option maxHeartbeats 4000000 in
set_option maxRecDepth 100000 in
theorem put_ok (J bl bh : Nat) (s : JS) (n : Nat) (x : Int) (f : Fr) (w : World) (h : JRep w J bl bh s) (G : JoinH.Good s n) (hn : n ≤ 4611686018427386000) (hx : 0 ≤ x ∧ x ≤ 9223372036854775807) (hb : JS.has s x = true) (hf : okFr s.short f = true) :
    Calls Try.prog 20 #[.pointer (some ⟨J, 0, none⟩), .int .i64 x, f.val] w (PutPost J bl bh s x f w) := by
  have e1 : JS.putNum s x f = 0 := by unfold JS.putNum; rw [if_pos hb, if_pos hf]
  have e2 : JS.put s x f = JS.all (JS.take1 (JS.setLink s x f.q) f) := by unfold JS.put; rw [if_pos e1]
  have HT := Lib.hid (take_in G hn hb hx hf)
  have HP : Hid (∀ W, Calls Try.prog 32 #[.agg #[.bool f.b, .bool f.e, .int .i64 f.q, .string f.d], .bool s.short] W fun e w' => (∃ t, e = .returned (.tuple #[.string t, .int .i64 0])) ∧ Below W.heap.size W w') := Lib.hid (fun W => by
    have := mp_calls f s.short W
    rw [if_pos hf] at this
    exact this)
  have hfq := okFr_spec.1 hf
  have hsz := size_in s
  unfold JS.size at hsz
  obtain ⟨s4, hs4⟩ : ∃ s4, JS.setLink s x f.q = s4 := ⟨_, rfl⟩
  have hsz4 : s4.size = s.size := by rw [← hs4]; rfl
  have HF4 : Hid (0 ≤ s4.next ∧ s4.next < s4.size) := Lib.hid (by rw [← hs4]; exact ⟨G.fit.next0, G.fit.next1⟩)
  have hl4 : 0 ≤ s4.lost ∧ s4.lost ≤ 4611686018427387904 := by rw [← hs4]; exact ⟨G.fit.lost0, G.fit.lost1⟩
  have hm4 : s4.held.length ≤ 129 := by rw [← hs4]; exact G.fit.many
  rw [hs4] at HT e2
  obtain ⟨s5, hs5⟩ : ∃ s5, JS.take1 s4 f = s5 := ⟨_, rfl⟩
  rw [hs5] at HT e2
  have HS4 := Lib.hid hs4
  have HS5 := Lib.hid hs5
  clear hs4 hs5
  have hxw : (Lit.int .i64 x).wf = true := wf_i64_iff.2 (by omega)
  have hqw : (Lit.int .i64 f.q).wf = true := wf_i64_iff.2 (by omega)
  have hn8 := G.fit.few
  have HLT : Hid ((linkPairs s).length < maxLen) := Lib.hid (by rw [len_pairs]; unfold maxLen; omega)
  unfold PutPost
  rw [e1, e2]
  obtain ⟨fb, fe, fq, fd⟩ := f
  unfold Fr.val
  simp only at hfq hqw HS4 HS5
  have hh := look_has s x
  rw [hb] at hh
  obtain ⟨v, hv⟩ := Option.isSome_iff_exists.1 hh
  obtain ⟨l, rfl, _⟩ := look_links hv
  have HN := Lib.hid hv
  have c4 : w.cell? ⟨J, 4, none⟩ = some (.map (some bl)) := h.blk.cell 4
  have hJ := h.blk.lt
  have MK := Lib.hid (regP_mk (f := ⟨fb, fe, fq, fd⟩) (h.grown (grown_alloc (grown_refl _ none) (.cells #[.bool fb, .bool fe, .int .i64 fq, .string fd] 33))) (Blk.new w _ 33))
  clear hh hb hv e1 e2 hf
  go_enter Try.func20, Try.ntmps20
  go_wp2_with (first | (at_lookup; refine wpList_ilook_ok (h.links.kept (grown_alloc (grown_refl _ none) _) (by simp)) rfl _ _ 69 3 rfl law3 Try.underlying3 Try.underlying69 _ (zero3 _) rfl x rfl hxw ?_; rw [HN.out]))
  go_region_held3 (fun W => RegP J s ⟨fb, fe, fq, fd⟩ (w.alloc (.cells #[.bool fb, .bool fe, .int .i64 fq, .string fd] 33)) w.heap.size W) (first | exact MK.out _ (grown_drewN (grown_refl _ _) 1) | exact MK.out _ (grown_below (grown_drewN (grown_refl _ none) 1) hb3))
    (first | (go_at_call 32; ((with_reducible refine (HP.out _).mono ?_); rintro e w3 ⟨⟨t, rfl⟩, hb3⟩)))
  have HR3 := Lib.hid (h.grown (grown_below (grown_drewN (grown_alloc (grown_refl w none) (.cells #[.bool fb, .bool fe, .int .i64 fq, .string fd] 33)) 1) hb3))
  have HM3 := Lib.hid ((Mv.refl J bl bh w).grown (grown_below (grown_drewN (grown_alloc (grown_refl w none) (.cells #[.bool fb, .bool fe, .int .i64 fq, .string fd] 33)) 1) hb3) (by simp))
  have HB3 := Lib.hid (((Blk.new w #[.bool fb, .bool fe, .int .i64 fq, .string fd] 33).drewN 1).below hb3 (Blk.lt (Blk.new w _ 33)))
  have d4 : w3.cell? ⟨J, 4, none⟩ = some (.map (some bl)) := HR3.out.blk.cell 4
  have b2 : w3.cell? ⟨w.heap.size, 2, none⟩ = some (.int .i64 fq) := HB3.out.cell 2
  clear MK hb3 c4
  go_wp2
  go_still_tail 7, (by kernel_rfl)
  change wpList _ _ _ _ _ (w3.drewN 1)
  refine wpList_istore (HR3.out.drewN 1).links rfl _ _ _ 69 3 rfl law3 Try.underlying3 Try.underlying69 HLT.out rfl x rfl hxw (.int .i64 fq) rfl ?_
  intro w4 hm4 hg4
  rw [← set_pairs] at hm4
  have hr4 : JRep w4 J bl bh (JS.setLink s x fq) := rep_links (HR3.out.drewN 1) hg4 _ hm4
  rw [HS4.out] at hr4
  have HR4 := Lib.hid hr4
  clear hr4
  have HM4 := Lib.hid ((HM3.out.drewN 1).grown hg4 (fun k hk => by cases hk; exact .inr (.inl rfl)))
  have HB4 := Lib.hid ((HB3.out.drewN 1).grown hg4 (fun e => Nat.lt_irrefl _ (Option.some.inj e ▸ h.links.lt)))
  have a5 : w4.cell? ⟨J, 5, none⟩ = some (.map (some bh)) := HR4.out.blk.cell 5
  have a2 : w4.cell? ⟨w.heap.size, 2, none⟩ = some (.int .i64 fq) := HB4.out.cell 2
  clear hm4 hg4 d4 b2 G
  have mk := regQ_mk HR4.out HB4.out rfl hqw
  have hdn := alloc_drewN
  have hds := setCell_drewN
  have a6 : w4.cell? ⟨J, 6, none⟩ = some (.int .i64 s4.lost) := HR4.out.blk.cell 6
  have f6 : w4.frozen? ⟨J, 6, none⟩ = false := HR4.out.blk.free 6
  have hJ4 : J < w4.heap.size := HR4.out.blk.lt
  have hB4 : w.heap.size < w4.heap.size := HB4.out.lt
  have HRUN : Hid (∀ W, JRep W J bl bh s5 → Calls Try.prog 34 #[.pointer (some ⟨J, 0, none⟩)] W fun e w' => ∃ v, e = .returned v ∧ RowAt w' W.heap.size 9 1 v (JS.all s5).1.length ((JS.all s5).1.map Value.string) ∧ JRep w' J bl bh (JS.all s5).2 ∧ Mv J bl bh W w') := Lib.hid (fun W hW => run_calls J bl bh s5 W hW HT.out.1 HT.out.2.1)
  cases hg : s4.get fq with
  | some g =>
    obtain ⟨gb, ge, gq, gd⟩ := g
    have hv : gotVal s4 fq = (.tuple #[.agg #[.bool gb, .bool ge, .int .i64 gq, .string gd], .bool true]) := by unfold gotVal; rw [hg]; rfl
    rw [hv] at mk
    have MK := Lib.hid mk
    have E3 : Hid (s5 = { s4 with lost := s4.lost + 1 }) := Lib.hid (by rw [← HS5.out]; unfold JS.take1; rw [if_pos (.inl (by rw [hg]; rfl))])
    clear hg hv mk
    go_frame
    go_wp2
    go_region_held3 (fun W => RegQ J w.heap.size bh fq (.tuple #[.agg #[.bool gb, .bool ge, .int .i64 gq, .string gd], .bool true]) w4 W) (first | exact MK.out _ (grown_drewN (grown_refl _ _) 1) | (refine MK.out _ ?_; go_split_ands; first | exact grown_drewN (grown_refl _ _) _ | exact grown_drewN (grown_alloc (grown_refl _ _) _) _ | exact grown_alloc (grown_refl _ _) _)) (fail)
    all_goals
      have hdr : ∀ W : World, W.drew = W.drewN 1 := fun _ => rfl
      go_wp2
      go_quiet (fail)
      go_wp2_with (first | (go_at_call 34; ((with_reducible refine (HRUN.out _ ?hrep).mono ?_); (case hrep => rw [E3.out]; exact (setLost HR4.out _).grown (grown_drewN (grown_alloc (grown_refl _ none) _) _)); rintro e w6 ⟨v, rfl, hrow, hR6, hM6⟩)))
      go_ret2
      exact ⟨_, rfl, row_up hrow (by have := HM4.out.size; simp; omega), hR6, ((HM4.out.set 6 _).grown (grown_drewN (grown_alloc (grown_refl _ none) _) _) (by simp)).trans hM6⟩
  | none =>
    have hv : gotVal s4 fq = (.tuple #[.agg #[.bool false, .bool false, .int .i64 0, .string ⟨#[]⟩], .bool false]) := by unfold gotVal; rw [hg]; rfl
    rw [hv] at mk
    have MK := Lib.hid mk
    have a0 : w4.cell? ⟨J, 0, none⟩ = some (.int .i64 s4.size) := HR4.out.blk.cell 0
    have hoff : ∀ W, w4.grownBy W none → Calls Try.prog 33 #[.pointer (some ⟨J, 0, none⟩), .int .i64 fq] W fun e w' => e = .returned (.int .i64 (s4.off fq)) ∧ ∃ n, w' = W.drewN n :=
      fun W hW => offset_calls J s4.size s4.next fq W ⟨(HR4.out.grown hW).blk.cell 0, (HR4.out.grown hW).blk.cell 1⟩ (ringOf_size s4.short) HF4.out ⟨by omega, by omega⟩
    have HOFF := Lib.hid hoff
    have hsz5 : 4096 ≤ s4.size ∧ s4.size ≤ 16777216 := size_in s4
    have hwq : IntKind.i64.wrap (s4.size.tdiv 2) = s4.size / 2 := by rw [Int.tdiv_eq_ediv_of_nonneg (by omega)]; exact IntWalk.i64_in _ (by omega)
    by_cases ho : s4.size / 2 ≤ s4.off fq
    · have E3 : Hid (s5 = { s4 with lost := s4.lost + 1 }) := Lib.hid (by rw [← HS5.out]; unfold JS.take1; rw [if_pos (.inr ho)])
      clear hg hv mk hoff
      go_frame
      go_wp2
      go_region_held3 (fun W => RegQ J w.heap.size bh fq (.tuple #[.agg #[.bool false, .bool false, .int .i64 0, .string ⟨#[]⟩], .bool false]) w4 W) (first | exact MK.out _ (grown_drewN (grown_refl _ _) 1) | (refine MK.out _ ?_; go_split_ands; first | exact grown_drewN (grown_refl _ _) _ | exact grown_drewN (grown_alloc (grown_refl _ _) _) _ | exact grown_alloc (grown_refl _ _) _)) (fail)
      all_goals
        have hdr : ∀ W : World, W.drew = W.drewN 1 := fun _ => rfl
        go_wp2
        go_quiet ((go_at_call 33; exact quiet_next (HOFF.out _ (grown_drewN (grown_alloc (grown_refl _ none) _) _))))
        go_wp2_with (first | (go_at_call 34; ((with_reducible refine (HRUN.out _ ?hrep).mono ?_); (case hrep => rw [E3.out]; exact (setLost HR4.out _).grown (grown_drewN (grown_alloc (grown_refl _ none) _) _)); rintro e w6 ⟨v, rfl, hrow, hR6, hM6⟩)))
        go_ret2
        exact ⟨_, rfl, row_up hrow (by have := HM4.out.size; simp; omega), hR6, ((HM4.out.set 6 _).grown (grown_drewN (grown_alloc (grown_refl _ none) _) _) (by simp)).trans hM6⟩
    · have E3 : Hid (s5 = { s4 with held := s4.held ++ [⟨fb, fe, fq, fd⟩] }) := Lib.hid (by rw [← HS5.out]; unfold JS.take1; rw [if_neg (fun c => c.elim (fun c => by rw [hg] at c; cases c) ho)])
      have hdel : heldPairs s5 = put (heldPairs s4) fq (.agg #[.bool fb, .bool fe, .int .i64 fq, .string fd]) := by
        rw [E3.out]
        unfold put
        rw [length_del_none (by rw [look_get, hg]; rfl)]
        unfold heldPairs
        rw [List.map_append]
        rfl
      have HD := Lib.hid hdel
      have HLH : Hid ((heldPairs s4).length < maxLen) := Lib.hid (by unfold heldPairs maxLen; rw [List.length_map]; omega)
      have b0 : w4.cell? ⟨w.heap.size, 0, none⟩ = some (.bool fb) := HB4.out.cell 0
      have b1 : w4.cell? ⟨w.heap.size, 1, none⟩ = some (.bool fe) := HB4.out.cell 1
      have b3 : w4.cell? ⟨w.heap.size, 3, none⟩ = some (.string fd) := HB4.out.cell 3
      clear hg hv mk hoff hdel
      go_frame
      go_wp2
      go_region_held3 (fun W => RegQ J w.heap.size bh fq (.tuple #[.agg #[.bool false, .bool false, .int .i64 0, .string ⟨#[]⟩], .bool false]) w4 W) (first | exact MK.out _ (grown_drewN (grown_refl _ _) 1) | (refine MK.out _ ?_; go_split_ands; first | exact grown_drewN (grown_refl _ _) _ | exact grown_drewN (grown_alloc (grown_refl _ _) _) _ | exact grown_alloc (grown_refl _ _) _)) (fail)
      all_goals
        have hdr : ∀ W : World, W.drew = W.drewN 1 := fun _ => rfl
        go_wp2
        go_quiet ((go_at_call 33; exact quiet_next (HOFF.out _ (grown_drewN (grown_alloc (grown_refl _ none) _) _))))
        go_wp2
        have hG : w4.grownBy ((w4.alloc (Obj.cells #[Value.bool false, Value.bool false, Value.int IntKind.i64 0, Value.string ⟨#[]⟩] 33)).drew.drewN nq) none := grown_drewN (grown_drewN (grown_alloc (grown_refl w4 none) (Obj.cells #[Value.bool false, Value.bool false, Value.int IntKind.i64 0, Value.string ⟨#[]⟩] 33)) 1) nq
        generalize (w4.alloc (Obj.cells #[Value.bool false, Value.bool false, Value.int IntKind.i64 0, Value.string ⟨#[]⟩] 33)).drew.drewN nq = w5 at hG ⊢
        have HR5 := Lib.hid (HR4.out.grown hG)
        have HB5 := Lib.hid (HB4.out.grown hG (by simp))
        have HM5 := Lib.hid (HM4.out.grown hG (by simp))
        have c5 : w5.cell? ⟨J, 5, none⟩ = some (.map (some bh)) := HR5.out.blk.cell 5
        have k0 : w5.cell? ⟨w.heap.size, 0, none⟩ = some (.bool fb) := HB5.out.cell 0
        have k1 : w5.cell? ⟨w.heap.size, 1, none⟩ = some (.bool fe) := HB5.out.cell 1
        have k2 : w5.cell? ⟨w.heap.size, 2, none⟩ = some (.int .i64 fq) := HB5.out.cell 2
        have k3 : w5.cell? ⟨w.heap.size, 3, none⟩ = some (.string fd) := HB5.out.cell 3
        clear hdr
        go_still_tail 7, (by kernel_rfl)
        change wpList _ _ _ _ _ (w5.drewN 1)
        refine wpList_istore (HR5.out.drewN 1).held rfl _ _ _ 70 33 rfl law3 Try.underlying3 Try.underlying70 HLH.out rfl fq rfl hqw (.agg #[.bool fb, .bool fe, .int .i64 fq, .string fd]) rfl ?_
        intro w6 hm6 hg6
        rw [← HD.out] at hm6
        have hr6 : JRep w6 J bl bh s5 := by rw [E3.out] at hm6 ⊢; exact (HR5.out.drewN 1).setHeld hg6 _ hm6
        have HR6 := Lib.hid hr6
        have HM6 := Lib.hid ((HM5.out.drewN 1).grown hg6 (fun k hk => by cases hk; exact .inr (.inr (.inl rfl))))
        clear hr6 hm6 hg6 c5 k0 k1 k2 k3
        go_frame
        go_wp2_with (first | (go_at_call 34; ((with_reducible refine (HRUN.out _ HR6.out).mono ?_); rintro e w7 ⟨v, rfl, hrow, hR7, hM7⟩)))
        go_ret2
        exact ⟨_, rfl, row_up hrow HM6.out.size, hR7, HM6.out.trans hM7⟩

theorem has_in {s : JS} (F : Fit s) {x : Int} (h : JS.has s x = true) : 0 ≤ x ∧ x ≤ 9223372036854775807 := by
  unfold JS.has at h
  obtain ⟨p, hp, he⟩ := List.any_eq_true.1 h
  have := F.last p hp
  simp at he
  rw [← he]
  exact this.2.2

/-- Put. -/
theorem put_calls (J bl bh : Nat) (s : JS) (n : Nat) (x : Int) (f : Fr) (w : World) (h : JRep w J bl bh s) (G : JoinH.Good s n) (hn : n ≤ 4611686018427386000) (hx : (Lit.int .i64 x).wf = true) :
    Calls Try.prog 20 #[.pointer (some ⟨J, 0, none⟩), .int .i64 x, f.val] w (PutPost J bl bh s x f w) := by
  cases hb : JS.has s x with
  | false => exact put_none J bl bh s x f w h hx hb
  | true =>
    by_cases hf : okFr s.short f = true
    · exact put_ok J bl bh s n x f w h G hn (has_in G.fit hb) hb hf
    · exact put_bad J bl bh s x f w h hx hb hf

theorem put_good' {s : JS} {n : Nat} (G : JoinH.Good s n) (hn : n ≤ 4611686018427386000) (x : Int) (f : Fr) : JoinH.Good (JS.put s x f).2 (n + 1) := by
  by_cases hb : JS.has s x = true
  · exact put_good G hn (has_in G.fit hb) f
  · have e : ¬ JS.putNum s x f = 0 := by unfold JS.putNum; rw [if_neg hb]; omega
    unfold JS.put
    rw [if_neg e]
    exact G.mono (by omega)

theorem add_good {s : JS} {n : Nat} (G : JoinH.Good s n) {x : Int} (hx : (Lit.int .i64 x).wf = true) : JoinH.Good (JS.add s x) n := by
  unfold JS.add
  split
  · rename_i h
    have F := G.fit
    unfold JS.addNum at h
    split at h
    · omega
    · rename_i h1
      split at h
      · omega
      · rename_i h2
        have hw := wf_i64_iff.1 hx
        refine ⟨⟨F.next0, F.next1, F.most0, F.most1, fun p hp => ?_, F.seqs, ?_, F.many, F.lost0, F.lost1⟩, G.few, G.low⟩
        · unfold JS.setLink at hp
          rcases List.mem_append.1 hp with h | h
          · exact F.last p (List.mem_filter.1 h).1
          · simp at h
            subst h
            have := size_in s
            have e : (JS.setLink s x (-1)).size = s.size := rfl
            rw [e]
            exact ⟨Int.le_refl _, by omega, by simp at h1; omega, by simp only; omega⟩
        · have := List.length_filter_le (fun p => p.1 != x) s.links
          unfold JS.setLink
          simp
          omega
  · exact G

theorem drop_good {s : JS} {n : Nat} (G : JoinH.Good s n) (x : Int) : JoinH.Good (JS.drop s x) n := by
  unfold JS.drop
  split
  · have F := G.fit
    refine ⟨⟨F.next0, F.next1, F.most0, F.most1, fun p hp => F.last p (List.mem_filter.1 hp).1, F.seqs, ?_, F.many, F.lost0, F.lost1⟩, G.few, G.low⟩
    have := List.length_filter_le (fun p => p.1 != x) s.links
    have := F.few
    unfold JS.dropLink
    simp only
    omega
  · exact G

theorem new_good (short : Bool) (most : Int) (h : 1 ≤ most ∧ most ≤ 128) : JoinH.Good (JS.new short most) 0 :=
  ⟨new_fit short most h, by show ((0 : Nat) : Int) ≤ most; omega, by show (0 : Int) + ((0 : Nat) : Int) ≤ _; omega⟩

end Go.Proofs.Ytcpehjdnmhkcpaa.JoinI
