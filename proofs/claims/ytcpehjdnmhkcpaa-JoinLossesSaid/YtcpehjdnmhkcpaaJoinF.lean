/- The walk of run: on, till it waits. -/
import Derived.Test.YtcpehjdnmhkcpaaJoinE
import Derived.Test.YtcpehjdnmhkcpaaJoinR
import Derived.Deep.LoopGhost
import Derived.IntWalk
namespace Go.Proofs.Ytcpehjdnmhkcpaa.JoinF
open Go Go.RowKit Go.Maps Go.Proofs.Ytcpehjdnmhkcpaa.Mem Go.Proofs.Ytcpehjdnmhkcpaa.Plain Go.Proofs.Ytcpehjdnmhkcpaa.Ring Go.Proofs.Ytcpehjdnmhkcpaa.IMap Go.Proofs.Ytcpehjdnmhkcpaa.JoinP Go.Proofs.Ytcpehjdnmhkcpaa.JoinA Go.Proofs.Ytcpehjdnmhkcpaa.JoinB Go.Proofs.Ytcpehjdnmhkcpaa.JoinC Go.Proofs.Ytcpehjdnmhkcpaa.Mv Go.Proofs.Ytcpehjdnmhkcpaa.RowAt Go.Proofs.Ytcpehjdnmhkcpaa.JoinQ Go.Proofs.Ytcpehjdnmhkcpaa.JoinD Go.Proofs.Ytcpehjdnmhkcpaa.JoinE Go.Proofs.Ytcpehjdnmhkcpaa.JoinR

theorem low_lost {s : JS} (L : Low s) : s.lost ≤ 4611686018427387000 := by unfold Low at L; omega

/-- first, where it goes on. -/
theorem first_on (J bl bh : Nat) (s : JS) (f : Fr) (m : Int) (w : World) (h : JRep w J bl bh s) (F : Fit s) (L : Low s) (o : List ByteArray) (s' : JS) (hf : s.first f m = some (o, s')) :
    Calls Try.prog 43 #[.pointer (some ⟨J, 0, none⟩), f.val, .int .i64 m] w fun e w' => e = .returned (.tuple #[.string (o.headD ⟨#[]⟩), .bool (!o.isEmpty), .bool true]) ∧ JRep w' J bl bh s' ∧ Mv J bl bh w w' := by
  have hp := packet_le F
  have hm := F.many
  unfold JS.first at hf
  split at hf
  · rename_i hb
    cases hf
    exact first_not J bl bh s f m w h F (low_lost L) hb
  · rename_i hb
    split at hf
    · rename_i t n hpk
      rw [hpk] at hp
      simp only at hp
      cases hf
      exact first_whole J bl bh s f m t n w h F (by simpa using hb) hpk (by omega)
    · rename_i t n hpk
      rw [hpk] at hp
      simp only at hp
      split at hf
      · rename_i hg
        cases hf
        exact first_begins J bl bh s f m t n w h F (low_lost L) (by simpa using hb) hpk (by omega) hg
      · rename_i hg
        split at hf
        · rename_i hle
          cases hf
          exact first_lost J bl bh s f m t n w h F (low_lost L) (by simpa using hb) hpk (by omega) (by simpa using hg) hle
        · cases hf

/-- first, where it waits. -/
theorem first_no (J bl bh : Nat) (s : JS) (f : Fr) (m : Int) (w : World) (h : JRep w J bl bh s) (F : Fit s) (hf : s.first f m = none) :
    Calls Try.prog 43 #[.pointer (some ⟨J, 0, none⟩), f.val, .int .i64 m] w fun e w' => e = .returned (.tuple #[.string ⟨#[]⟩, .bool false, .bool false]) ∧ JRep w' J bl bh s ∧ Mv J bl bh w w' := by
  have hp := packet_le F
  have hm := F.many
  unfold JS.first at hf
  split at hf
  · cases hf
  · rename_i hb
    split at hf
    · cases hf
    · rename_i t n hpk
      rw [hpk] at hp
      simp only at hp
      split at hf
      · cases hf
      · rename_i hg
        split at hf
        · cases hf
        · rename_i hle
          exact first_waits J bl bh s f m t n w h F (by simpa using hb) hpk (by omega) (by simpa using hg) hle

theorem info9 : (Try.prog.info? 9).map (fun i => (i.zero, i.size, i.bytes)) = some (some (.string ⟨#[]⟩), 1, 16) := by kernel_rfl

/-- Where run's loop stands. -/
structure RInv (J bl bh : Nat) (s : JS) (w wr : World) (v : Value) (outs : List ByteArray) (s1 : JS) : Prop where
  row : RowAt wr w.heap.size 9 1 v outs.length (outs.map Value.string)
  rep : JRep wr J bl bh s1
  fit : Fit s1
  low : Low s1
  mv : Mv J bl bh w wr
  few : outs.length + s1.held.length ≤ s.held.length
  eq : JS.all s = (outs ++ (JS.all s1).1, (JS.all s1).2)

theorem row_mv {J bl bh : Nat} {w wr W : World} {e : TypeId} {sz : Nat} {v : Value} {n : Nat} {xs : List Value} (h : RowAt wr w.heap.size e sz v n xs) (hJ : J < w.heap.size) (hl : bl < w.heap.size) (hh : bh < w.heap.size) (hM : Mv J bl bh wr W) : RowAt W w.heap.size e sz v n xs :=
  h.block fun k hk => by
    have := h.lt k hk
    exact hM.block k this.2 (by omega) (by omega) (by omega)

/-- A round that tells nothing. -/
theorem RInv.go {J bl bh : Nat} {s : JS} {w wr W : World} {v : Value} {outs : List ByteArray} {s1 s' : JS} (I : RInv J bl bh s w wr v outs s1) (h : JRep w J bl bh s) (hM : Mv J bl bh wr W) (hR : JRep W J bl bh s') (hs : s1.step = some ([], s')) : RInv J bl bh s w W v outs s' := by
  obtain ⟨_, F', L', hl⟩ := step_spec I.fit I.low hs
  have hf := I.few
  exact ⟨row_mv I.row h.blk.lt h.links.lt h.held.lt hM, hR, F', L', I.mv.trans hM, by simp at hl; omega, by rw [I.eq, all_some I.fit I.low hs]; rfl⟩

/-- A round that tells a packet. -/
theorem RInv.tell {J bl bh : Nat} {s : JS} {w wr W : World} {v v' : Value} {outs : List ByteArray} {s1 s' : JS} {t : ByteArray} (I : RInv J bl bh s w wr v outs s1) (hM : Mv J bl bh w W) (hR : JRep W J bl bh s') (hs : s1.step = some ([t], s')) (hrow : RowAt W w.heap.size 9 1 v' (outs.length + 1) (outs.map Value.string ++ [Value.string t])) : RInv J bl bh s w W v' (outs ++ [t]) s' := by
  obtain ⟨_, F', L', hl⟩ := step_spec I.fit I.low hs
  have hf := I.few
  exact ⟨by simpa using hrow, hR, F', L', hM, by simp at hl ⊢; omega, by rw [I.eq, all_some I.fit I.low hs]; simp⟩

theorem len_drewN {J bl bh : Nat} {s : JS} {W : World} (h : JRep W J bl bh s) (n : Nat) : Sem.run Try.prog (Builtin.len_ #[70] 3 #[Value.map (some bh)]) (W.drewN n) = .ok (.int .i64 s.held.length) (W.drewN n) := by
  have := (h.drewN n).held.len Try.underlying70 3
  unfold heldPairs at this
  rwa [List.length_map] at this
theorem len_held {J bl bh : Nat} {s : JS} {W : World} (h : JRep W J bl bh s) (O : Obj) (n : Nat) : Sem.run Try.prog (Builtin.len_ #[70] 3 #[Value.map (some bh)]) ((W.alloc O).drewN n) = .ok (.int .i64 s.held.length) ((W.alloc O).drewN n) :=
  len_drewN (h.grown (grown_alloc (grown_refl _ none) O)) n

theorem rep_kept {J bl bh : Nat} {s : JS} {w w' : World} {row : Option Nat} (h : JRep w J bl bh s) (hg : w.grownBy w' row) (h1 : some J ≠ row) (h2 : some bl ≠ row) (h3 : some bh ≠ row) : JRep w' J bl bh s :=
  ⟨h.blk.grown hg h1, h.links.kept hg h2, h.held.kept hg h3, h.ne, h.jl, h.jh⟩

theorem own_ne {w wr : World} {e : TypeId} {sz : Nat} {v : Value} {n : Nat} {xs : List Value} (h : RowAt wr w.heap.size e sz v n xs) {k : Nat} (hk : k < w.heap.size) : some k ≠ v.ownBlock := fun e => by
  have := (h.lt k e.symm).1
  omega

theorem src_str (w : World) (t : ByteArray) : Src Try.prog 1 38 (.slice (some ⟨w.heap.size, 0, none⟩) 1 1) 1 [.string t] (w.alloc (.cells #[.string t] 9)) :=
  src_one (cs := #[.string t]) Try.underlying38 (Blk.new w #[.string t] 9) rfl (fun u hu => by simp at hu; subst hu; rfl) 1

/-- The last round. -/
theorem RInv.done {J bl bh : Nat} {s : JS} {w wr W : World} {v : Value} {outs : List ByteArray} {s1 : JS} (I : RInv J bl bh s w wr v outs s1) (h : JRep w J bl bh s) (hM : Mv J bl bh wr W) (hR : JRep W J bl bh s1) (hs : s1.step = none) : RowAt W w.heap.size 9 1 v (JS.all s).1.length ((JS.all s).1.map Value.string) ∧ JRep W J bl bh (JS.all s).2 ∧ Mv J bl bh w W := by
  have e := I.eq
  rw [all_none hs] at e
  simp only [List.append_nil] at e
  rw [e]
  exact ⟨row_mv I.row h.blk.lt h.links.lt h.held.lt hM, hR, I.mv.trans hM⟩

set_option maxHeartbeats 4000000 in
set_option maxRecDepth 100000 in
theorem run_calls (J bl bh : Nat) (s : JS) (w : World) (h : JRep w J bl bh s) (F : Fit s) (L : Low s) :
    Calls Try.prog 34 #[.pointer (some ⟨J, 0, none⟩)] w fun e w' => ∃ v, e = .returned v ∧ RowAt w' w.heap.size 9 1 v (JS.all s).1.length ((JS.all s).1.map Value.string) ∧ JRep w' J bl bh (JS.all s).2 ∧ Mv J bl bh w w' := by
  go_enter Try.func34, Try.ntmps34
  go_wp2
  go_loopg [3] (mu s) (fun k v wr => ∃ (outs : List ByteArray) (s1 : JS), k = mu s1 ∧ RInv J bl bh s w wr v outs s1)
  case atStart => exact ⟨[], s, rfl, RowAt.nil _ _ _ _, h, F, L, Mv.refl _ _ _ _, by simp, by simp⟩
  case round =>
    obtain ⟨outs, s1, rfl, I⟩ := hrel
    have hup := upto_calls J bl bh s1 wr I.rep I.fit
    have HU := Lib.hid hup
    clear hup
    have hu2 := (upto_ge s1)
    have hsz := size_in s1
    go_wp2_with (first | (go_at_call 42; refine HU.out.mono ?_; rintro e w2 ⟨rfl, hb2⟩))
    have hR2 : JRep w2 J bl bh s1 := I.rep.below hb2
    have mk := reg_mk hR2 I.fit (x := s1.next) ⟨I.fit.next0, I.fit.next1⟩
    have hdn := alloc_drewN
    have hds := setCell_drewN
    have HI := Lib.hid I
    have HR2 := Lib.hid hR2
    have HM2 := Lib.hid (Mv.of_below hb2 : Mv J bl bh wr w2)
    clear I hR2 hb2
    cases hg : s1.get s1.next with
    | none =>
      have hv : gotVal s1 s1.next = .tuple #[.agg #[.bool false, .bool false, .int .i64 0, .string ⟨#[]⟩], .bool false] := by unfold gotVal; rw [hg]; rfl
      rw [hv] at mk
      have MK := Lib.hid mk
      have HG := Lib.hid hg
      clear hg mk hv
      by_cases hu : 0 ≤ s1.upto
      · obtain ⟨x, hx, hx0, hx1, hxe⟩ : ∃ x, min (s1.upto + 1) s1.least = x ∧ 0 ≤ x ∧ x ≤ 16777217 ∧ s1.step = some ([], { s1 with next := s1.num x }) := by
          refine ⟨_, rfl, ?_, ?_, ?_⟩
          · have := (least_in s1).1; omega
          · have := (least_in s1).2; omega
          · unfold JS.step
            simp only [HG.out]
            rw [if_pos hu]
        have hat : ∀ W, JRep W J bl bh s1 → Calls Try.prog 44 #[.pointer (some ⟨J, 0, none⟩), .int .i64 x] W fun e w' => e = .returned (.int .i64 (s1.num x)) ∧ ∃ n, w' = W.drewN n :=
          fun W a => at_calls J s1.size s1.next x W ⟨a.blk.cell 0, a.blk.cell 1⟩ (ringOf_size s1.short) ⟨HI.out.fit.next0, HI.out.fit.next1⟩ ⟨hx0, by omega⟩
        have HA := Lib.hid hat
        have HS := Lib.hid hxe
        have hl := least_in s1
        clear hat hxe
        by_cases hml : s1.least < s1.upto + 1
        · obtain rfl : s1.least = x := by omega
          have hw1 : IntKind.i64.wrap (s1.upto + 1) = s1.upto + 1 := IntWalk.i64_in _ (by omega)
          clear hx
          go_wp2
          go_region_held3 (fun W => Reg J bh s1 s1.next (.tuple #[.agg #[.bool false, .bool false, .int .i64 0, .string ⟨#[]⟩], .bool false]) w2 W) (first | exact MK.out _ (grown_drewN (grown_refl _ _) 1) | (refine MK.out _ ?_; go_split_ands; first | exact grown_drewN (grown_refl _ _) _ | exact grown_drewN (grown_alloc (grown_refl _ _) _) _ | exact grown_alloc (grown_refl _ _) _)) (fail)
          all_goals
            have hdr : ∀ W : World, W.drew = W.drewN 1 := fun _ => rfl
            go_wp2
            go_region_with (first
              | (go_at_call 45; refine (least_calls J bl bh s1 _ (HR2.out.grown (grown_drewN (grown_alloc (grown_refl _ none) _) _)) HI.out.fit).mono ?_; rintro e w3 ⟨rfl, hb3⟩; have hR3 := (HR2.out.grown (grown_drewN (grown_alloc (grown_refl _ none) _) _)).below hb3; have e1 := hR3.blk.free 1; have e2 : w3.cell? ⟨J, 1, none⟩ = some (.int .i64 s1.next) := hR3.blk.cell 1)
              | (go_at_call 44; refine (HA.out _ (by assumption)).mono ?_; rintro e w4 ⟨rfl, nq, rfl⟩))
            go_wp2
            go_roundg (mu { s1 with next := s1.num s1.least })
            case measure => exact (step_spec HI.out.fit HI.out.low HS.out).1
            case rel => exact ⟨outs, _, rfl, HI.out.go h ((((HM2.out.grown (grown_drewN (grown_alloc (grown_refl _ none) _) _) (by simp)).below hb3).drewN nq).set 1 _) ((hR3.drewN nq).setNext _) HS.out⟩
        · obtain rfl : s1.upto + 1 = x := by omega
          have hw1 : IntKind.i64.wrap (s1.upto + 1) = s1.upto + 1 := IntWalk.i64_in _ (by omega)
          have hmf : (s1.least < s1.upto + 1) = False := eq_false hml
          clear hx
          go_wp2
          go_region_held3 (fun W => Reg J bh s1 s1.next (.tuple #[.agg #[.bool false, .bool false, .int .i64 0, .string ⟨#[]⟩], .bool false]) w2 W) (first | exact MK.out _ (grown_drewN (grown_refl _ _) 1) | (refine MK.out _ ?_; go_split_ands; first | exact grown_drewN (grown_refl _ _) _ | exact grown_drewN (grown_alloc (grown_refl _ _) _) _ | exact grown_alloc (grown_refl _ _) _)) (fail)
          all_goals
            have hdr : ∀ W : World, W.drew = W.drewN 1 := fun _ => rfl
            go_wp2
            go_region_with (first
              | (go_at_call 45; refine (least_calls J bl bh s1 _ (HR2.out.grown (grown_drewN (grown_alloc (grown_refl _ none) _) _)) HI.out.fit).mono ?_; rintro e w3 ⟨rfl, hb3⟩; have hR3 := (HR2.out.grown (grown_drewN (grown_alloc (grown_refl _ none) _) _)).below hb3; have e1 := hR3.blk.free 1; have e2 : w3.cell? ⟨J, 1, none⟩ = some (.int .i64 s1.next) := hR3.blk.cell 1)
              | (go_at_call 44; refine (HA.out _ (by assumption)).mono ?_; rintro e w4 ⟨rfl, nq, rfl⟩))
            go_wp2
            go_roundg (mu { s1 with next := s1.num (s1.upto + 1) })
            case measure => exact (step_spec HI.out.fit HI.out.low HS.out).1
            case rel => exact ⟨outs, _, rfl, HI.out.go h ((((HM2.out.grown (grown_drewN (grown_alloc (grown_refl _ none) _) _) (by simp)).below hb3).drewN nq).set 1 _) ((hR3.drewN nq).setNext _) HS.out⟩
      · by_cases ho : (s1.held.length : Int) ≤ s1.most
        · have HS : Hid (s1.step = none) := Lib.hid (by unfold JS.step; simp only [HG.out]; rw [if_neg hu, if_pos ho])
          go_wp2
          go_region_held3 (fun W => Reg J bh s1 s1.next (.tuple #[.agg #[.bool false, .bool false, .int .i64 0, .string ⟨#[]⟩], .bool false]) w2 W) (first | exact MK.out _ (grown_drewN (grown_refl _ _) 1) | (refine MK.out _ ?_; go_split_ands; first | exact grown_drewN (grown_refl _ _) _ | exact grown_drewN (grown_alloc (grown_refl _ _) _) _ | exact grown_alloc (grown_refl _ _) _)) (fail)
          all_goals
            have hdr : ∀ W : World, W.drew = W.drewN 1 := fun _ => rfl
            have d5 : w2.cell? ⟨J, 5, none⟩ = some (.map (some bh)) := HR2.out.blk.cell 5
            have d3 : w2.cell? ⟨J, 3, none⟩ = some (.int .i64 s1.most) := HR2.out.blk.cell 3
            have hJ2 : J < w2.heap.size := HR2.out.blk.lt
            have hlen := len_held HR2.out (Obj.cells #[Value.bool false, Value.bool false, Value.int IntKind.i64 0, Value.string ⟨#[]⟩] 33)
            go_wp2
            go_quiet (fail)
            go_wp2
            go_ret
            exact ⟨_, rfl, HI.out.done h (HM2.out.grown (row := none) (grown_drewN (grown_drewN (grown_alloc (grown_refl _ none) _) _) _) (by simp)) (HR2.out.grown (grown_drewN (grown_drewN (grown_alloc (grown_refl _ none) _) _) _)) HS.out⟩
        · have HS : Hid (s1.step = some ([], s1.letGo (s1.least + 1))) := Lib.hid (by unfold JS.step; simp only [HG.out]; rw [if_neg hu, if_neg ho])
          have hl := least_in s1
          have HLET : Hid (∀ W, JRep W J bl bh s1 → Calls Try.prog 46 #[.pointer (some ⟨J, 0, none⟩), .int .i64 (s1.least + 1)] W fun e w' => e = .returned (.tuple #[]) ∧ JRep w' J bl bh (s1.letGo (s1.least + 1)) ∧ Mv J bl bh W w') :=
            Lib.hid (fun W hW => let_calls J bl bh s1 (s1.least + 1) W hW HI.out.fit ⟨by omega, by omega⟩ (low_lost HI.out.low))
          go_wp2
          go_region_held3 (fun W => Reg J bh s1 s1.next (.tuple #[.agg #[.bool false, .bool false, .int .i64 0, .string ⟨#[]⟩], .bool false]) w2 W) (first | exact MK.out _ (grown_drewN (grown_refl _ _) 1) | (refine MK.out _ ?_; go_split_ands; first | exact grown_drewN (grown_refl _ _) _ | exact grown_drewN (grown_alloc (grown_refl _ _) _) _ | exact grown_alloc (grown_refl _ _) _)) (fail)
          all_goals
            have hdr : ∀ W : World, W.drew = W.drewN 1 := fun _ => rfl
            have d5 : w2.cell? ⟨J, 5, none⟩ = some (.map (some bh)) := HR2.out.blk.cell 5
            have d3 : w2.cell? ⟨J, 3, none⟩ = some (.int .i64 s1.most) := HR2.out.blk.cell 3
            have hJ2 : J < w2.heap.size := HR2.out.blk.lt
            have hlen := len_held HR2.out (Obj.cells #[Value.bool false, Value.bool false, Value.int IntKind.i64 0, Value.string ⟨#[]⟩] 33)
            go_wp2
            go_quiet (fail)
            go_wp2_with (first
              | (go_at_call 45; ((with_reducible refine (least_calls J bl bh s1 _ (HR2.out.grown (grown_drewN (grown_alloc (grown_refl _ none) _) _)) HI.out.fit).mono ?_); rintro e w3 ⟨rfl, hb3⟩; have hR3 := (HR2.out.grown (grown_drewN (grown_alloc (grown_refl _ none) _) _)).below hb3))
              | (go_at_call 46; ((with_reducible refine (HLET.out _ (by assumption)).mono ?_); rintro e w4 ⟨rfl, hR4, hM4⟩)))
            go_roundg (mu (s1.letGo (s1.least + 1)))
            case measure => exact (step_spec HI.out.fit HI.out.low HS.out).1
            case rel => exact ⟨outs, _, rfl, HI.out.go h (((HM2.out.grown (row := none) (grown_drewN (grown_alloc (grown_refl _ none) _) _) (by simp)).below hb3).trans hM4) hR4 HS.out⟩
    | some f =>
      obtain ⟨fb, fe, fq, fd⟩ := f
      have hv : gotVal s1 s1.next = (.tuple #[.agg #[.bool fb, .bool fe, .int .i64 fq, .string fd], .bool true]) := by unfold gotVal; rw [hg]; rfl
      rw [hv] at mk
      have MK := Lib.hid mk
      have HG := Lib.hid hg
      clear hg mk hv
      cases hf : s1.first ⟨fb, fe, fq, fd⟩ s1.upto with
      | some r =>
        obtain ⟨o, s'⟩ := r
        have HS : Hid (s1.step = some (o, s')) := Lib.hid (by unfold JS.step; simp only [HG.out, hf])
        have ho1 := (first_less HI.out.fit HI.out.low HG.out hf).2.2.2
        have hcall : ∀ W, JRep W J bl bh s1 → Calls Try.prog 43 #[.pointer (some ⟨J, 0, none⟩), .agg #[.bool fb, .bool fe, .int .i64 fq, .string fd], .int .i64 s1.upto] W fun e w' => e = .returned (.tuple #[.string (o.headD ⟨#[]⟩), .bool (!o.isEmpty), .bool true]) ∧ JRep w' J bl bh s' ∧ Mv J bl bh W w' :=
          fun W hW => first_on J bl bh s1 ⟨fb, fe, fq, fd⟩ s1.upto W hW HI.out.fit HI.out.low o s' hf
        clear hf
        rcases o with _ | ⟨t, _ | ⟨t2, o⟩⟩
        · have HC := Lib.hid hcall
          clear hcall
          go_wp2
          go_region_held3 (fun W => Reg J bh s1 s1.next (.tuple #[.agg #[.bool fb, .bool fe, .int .i64 fq, .string fd], .bool true]) w2 W) (first | exact MK.out _ (grown_drewN (grown_refl _ _) 1) | (refine MK.out _ ?_; go_split_ands; first | exact grown_drewN (grown_refl _ _) _ | exact grown_drewN (grown_alloc (grown_refl _ _) _) _ | exact grown_alloc (grown_refl _ _) _)) (fail)
          all_goals
            have hdr : ∀ W : World, W.drew = W.drewN 1 := fun _ => rfl
            go_wp2_with (first
              | (go_at_call 43; ((with_reducible refine (HC.out _ (HR2.out.grown (grown_drewN (grown_alloc (grown_refl _ none) _) _))).mono ?_); rintro e w3 ⟨rfl, hR3, hM3⟩)))
            go_roundg (mu s')
            case measure => exact (step_spec HI.out.fit HI.out.low HS.out).1
            case rel => exact ⟨outs, _, rfl, HI.out.go h ((HM2.out.grown (grown_drewN (grown_alloc (grown_refl _ none) _) _) (by simp)).trans hM3) hR3 HS.out⟩
        · have HC := Lib.hid hcall
          have hfew := HI.out.few
          have hmany := F.many
          obtain ⟨i0, hi, hz0, hz1, hz2⟩ := info_parts info9
          clear hcall
          go_wp2
          go_region_held3 (fun W => Reg J bh s1 s1.next (.tuple #[.agg #[.bool fb, .bool fe, .int .i64 fq, .string fd], .bool true]) w2 W) (first | exact MK.out _ (grown_drewN (grown_refl _ _) 1) | (refine MK.out _ ?_; go_split_ands; first | exact grown_drewN (grown_refl _ _) _ | exact grown_drewN (grown_alloc (grown_refl _ _) _) _ | exact grown_alloc (grown_refl _ _) _)) (fail)
          all_goals
            have hdr : ∀ W : World, W.drew = W.drewN 1 := fun _ => rfl
            go_wp2_with (first
              | (go_at_call 43; ((with_reducible refine (HC.out _ (HR2.out.grown (grown_drewN (grown_alloc (grown_refl _ none) _) _))).mono ?_); rintro e w3 ⟨rfl, hR3, hM3⟩; have HR3 := Lib.hid hR3; have HM3 := Lib.hid ((HM2.out.grown (grown_drewN (grown_alloc (grown_refl _ none) _) _) (by simp)).trans hM3); have HROW := Lib.hid (row_mv HI.out.row h.blk.lt h.links.lt h.held.lt HM3.out); clear hR3 hM3))
              | (at_builtin; refine wpList_append_at rfl (.tmp 35) (.tmp 37) 38 38 rfl i0 (.string ⟨#[]⟩) 16 Try.underlying38 hi hz0 hz1 hz2 rfl (HROW.out.alloc _) rfl _ rfl 1 [.string t] (src_str w3 t) (by unfold maxLen; omega) (by omega) (by have := HI.out.mv.size; have := HM3.out.size; simp; omega) ?_; intro v1 w4 hrow4 hgrow4 hnil4 hown4)
              | go_in)
            go_roundg (mu s')
            case measure => exact (step_spec HI.out.fit HI.out.low HS.out).1
            case rel => exact ⟨outs ++ [t], _, rfl, HI.out.tell (((HI.out.mv.trans HM3.out).grown (grown_alloc (grown_refl _ none) _) (by simp)).grown hgrow4 (fun k hk => .inr (.inr (.inr (HI.out.row.lt k hk).1)))) (rep_kept (HR3.out.grown (grown_alloc (grown_refl _ none) _)) hgrow4 (own_ne HI.out.row h.blk.lt) (own_ne HI.out.row h.links.lt) (own_ne HI.out.row h.held.lt)) HS.out hrow4⟩
        · simp at ho1
      | none =>
        have hcall : ∀ W, JRep W J bl bh s1 → Calls Try.prog 43 #[.pointer (some ⟨J, 0, none⟩), .agg #[.bool fb, .bool fe, .int .i64 fq, .string fd], .int .i64 s1.upto] W fun e w' => e = .returned (.tuple #[.string ⟨#[]⟩, .bool false, .bool false]) ∧ JRep w' J bl bh s1 ∧ Mv J bl bh W w' :=
          fun W hW => first_no J bl bh s1 ⟨fb, fe, fq, fd⟩ s1.upto W hW HI.out.fit hf
        have HC := Lib.hid hcall
        have HF := Lib.hid hf
        clear hcall hf
        by_cases ho : (s1.held.length : Int) ≤ s1.most
        · have HS : Hid (s1.step = none) := Lib.hid (by unfold JS.step; simp only [HG.out, HF.out]; rw [if_pos ho])
          go_wp2
          go_region_held3 (fun W => Reg J bh s1 s1.next (.tuple #[.agg #[.bool fb, .bool fe, .int .i64 fq, .string fd], .bool true]) w2 W) (first | exact MK.out _ (grown_drewN (grown_refl _ _) 1) | (refine MK.out _ ?_; go_split_ands; first | exact grown_drewN (grown_refl _ _) _ | exact grown_drewN (grown_alloc (grown_refl _ _) _) _ | exact grown_alloc (grown_refl _ _) _)) (fail)
          all_goals
            have hdr : ∀ W : World, W.drew = W.drewN 1 := fun _ => rfl
            go_wp2_with (first
              | (go_at_call 43; ((with_reducible refine (HC.out _ (HR2.out.grown (grown_drewN (grown_alloc (grown_refl _ none) _) _))).mono ?_); rintro e w3 ⟨rfl, hR3, hM3⟩; have HR3 := Lib.hid hR3; have HM3 := Lib.hid ((HM2.out.grown (grown_drewN (grown_alloc (grown_refl _ none) _) _) (by simp)).trans hM3); have d5 : w3.cell? ⟨J, 5, none⟩ = some (.map (some bh)) := HR3.out.blk.cell 5; have d3 : w3.cell? ⟨J, 3, none⟩ = some (.int .i64 s1.most) := HR3.out.blk.cell 3; have hlen := len_drewN HR3.out; clear hR3 hM3)))
            go_quiet (fail)
            go_wp2
            go_ret
            exact ⟨_, rfl, HI.out.done h (HM3.out.drewN _) (HR3.out.drewN _) HS.out⟩
        · have HS : Hid (s1.step = some ([], s1.letGo (s1.least + 1))) := Lib.hid (by unfold JS.step; simp only [HG.out, HF.out]; rw [if_neg ho])
          have hl := least_in s1
          have HLET : Hid (∀ W, JRep W J bl bh s1 → Calls Try.prog 46 #[.pointer (some ⟨J, 0, none⟩), .int .i64 (s1.least + 1)] W fun e w' => e = .returned (.tuple #[]) ∧ JRep w' J bl bh (s1.letGo (s1.least + 1)) ∧ Mv J bl bh W w') :=
            Lib.hid (fun W hW => let_calls J bl bh s1 (s1.least + 1) W hW HI.out.fit ⟨by omega, by omega⟩ (low_lost HI.out.low))
          go_wp2
          go_region_held3 (fun W => Reg J bh s1 s1.next (.tuple #[.agg #[.bool fb, .bool fe, .int .i64 fq, .string fd], .bool true]) w2 W) (first | exact MK.out _ (grown_drewN (grown_refl _ _) 1) | (refine MK.out _ ?_; go_split_ands; first | exact grown_drewN (grown_refl _ _) _ | exact grown_drewN (grown_alloc (grown_refl _ _) _) _ | exact grown_alloc (grown_refl _ _) _)) (fail)
          all_goals
            have hdr : ∀ W : World, W.drew = W.drewN 1 := fun _ => rfl
            go_wp2_with (first
              | (go_at_call 43; ((with_reducible refine (HC.out _ (HR2.out.grown (grown_drewN (grown_alloc (grown_refl _ none) _) _))).mono ?_); rintro e w3 ⟨rfl, hR3, hM3⟩; have HR3 := Lib.hid hR3; have HM3 := Lib.hid ((HM2.out.grown (grown_drewN (grown_alloc (grown_refl _ none) _) _) (by simp)).trans hM3); have d5 : w3.cell? ⟨J, 5, none⟩ = some (.map (some bh)) := HR3.out.blk.cell 5; have d3 : w3.cell? ⟨J, 3, none⟩ = some (.int .i64 s1.most) := HR3.out.blk.cell 3; have hlen := len_drewN HR3.out; clear hR3 hM3)))
            go_quiet (fail)
            go_wp2_with (first
              | (go_at_call 45; ((with_reducible refine (least_calls J bl bh s1 _ (HR3.out.drewN _) HI.out.fit).mono ?_); rintro e w4 ⟨rfl, hb4⟩; have hR4 := (HR3.out.drewN _).below hb4))
              | (go_at_call 46; ((with_reducible refine (HLET.out _ (by assumption)).mono ?_); rintro e w5 ⟨rfl, hR5, hM5⟩)))
            go_roundg (mu (s1.letGo (s1.least + 1)))
            case measure => exact (step_spec HI.out.fit HI.out.low HS.out).1
            case rel => exact ⟨outs, _, rfl, HI.out.go h (((HM3.out.drewN _).below hb4).trans hM5) hR5 HS.out⟩

end Go.Proofs.Ytcpehjdnmhkcpaa.JoinF
