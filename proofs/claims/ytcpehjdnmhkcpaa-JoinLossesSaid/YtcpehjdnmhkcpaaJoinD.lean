/- The walk of packet. -/
import Derived.Test.YtcpehjdnmhkcpaaJoinQ
import Derived.Deep.RegionHeld3
namespace Go.Proofs.Ytcpehjdnmhkcpaa.JoinD
open Go Go.RowKit Go.Maps Go.Proofs.Ytcpehjdnmhkcpaa.Mem Go.Proofs.Ytcpehjdnmhkcpaa.Plain Go.Proofs.Ytcpehjdnmhkcpaa.Ring Go.Proofs.Ytcpehjdnmhkcpaa.IMap Go.Proofs.Ytcpehjdnmhkcpaa.JoinP Go.Proofs.Ytcpehjdnmhkcpaa.JoinA Go.Proofs.Ytcpehjdnmhkcpaa.JoinB Go.Proofs.Ytcpehjdnmhkcpaa.JoinC Go.Proofs.Ytcpehjdnmhkcpaa.Mv Go.Proofs.Ytcpehjdnmhkcpaa.RowAt Go.Proofs.Ytcpehjdnmhkcpaa.JoinQ

/-- What the lookup at a number yields. -/
def gotVal (s : JS) (x : Int) : Value := .tuple #[((s.get x).map Fr.val).getD (.agg #[.bool false, .bool false, .int .i64 0, .string ⟨#[]⟩]), .bool (s.get x).isSome]

/-- What the loop keeps: the world, the map, the data so far. -/
def Sees (bh : Nat) (s : JS) (v : Value) (acc : ByteArray) (w w' : World) : Prop := Below w.heap.size w w' ∧ IMap Try.prog 3 w' bh (heldPairs s) ∧ RowAt w' w.heap.size 5 1 v acc.size (byteCells acc)

/-- What the region reads. -/
abbrev Reg (J bh : Nat) (s : JS) (x : Int) (val : Value) (wr W : World) : Prop :=
  W.cell? ⟨J, 0, none⟩ = some (.int .i64 s.size) ∧ W.cell? ⟨J, 1, none⟩ = some (.int .i64 s.next) ∧ W.cell? ⟨J, 5, none⟩ = some (.map (some bh)) ∧ Sem.run Try.prog (Instr.lookup 70 (.map (some bh)) (.int .i64 x) true) W = .ok val W ∧ wr.grownBy W none

theorem info5 : (Try.prog.info? 5).map (fun i => (i.zero, i.size, i.bytes)) = some (some (.int .u8 0), 1, 1) := by kernel_rfl

set_option maxHeartbeats 4000000 in
set_option maxRecDepth 100000 in
theorem packet_calls (J bl bh : Nat) (s : JS) (w : World) (h : JRep w J bl bh s) (F : Fit s) :
    Calls Try.prog 51 #[.pointer (some ⟨J, 0, none⟩)] w fun e w' => e = .returned (.tuple #[.string s.packet.1, .int .i64 s.packet.2.1, .bool s.packet.2.2]) ∧ Below w.heap.size w w' := by
  have c0 : w.cell? ⟨J, 0, none⟩ = some (.int .i64 s.size) := h.blk.cell 0
  have c1 : w.cell? ⟨J, 1, none⟩ = some (.int .i64 s.next) := h.blk.cell 1
  have c5 : w.cell? ⟨J, 5, none⟩ = some (.map (some bh)) := h.blk.cell 5
  have hJ := h.blk.lt
  have hsz := size_in s
  go_enter Try.func51, Try.ntmps51
  go_wp2
  go_loopw [5, 6] (fun v i wr => ∃ (j : Nat) (acc : ByteArray), i = .int .i64 j ∧ j ≤ s.held.length ∧ Sees bh s v acc w wr ∧ PInv s j acc) (fun _ i _ => 130 - (intOf i).toNat)
  case atStart => exact ⟨0, ⟨#[]⟩, rfl, Nat.zero_le _, ⟨Below.refl _ _, h.held, RowAt.nil _ _ _ _⟩, PInv.start s⟩
  case round =>
    obtain ⟨j, acc, rfl, hj, hS, HP⟩ := hrel
    have hmany := F.many
    have hnum := num_in s j
    have hat : ∀ (val : Value) (W : World), Reg J bh s (s.num j) val wr W → Calls Try.prog 44 #[.pointer (some ⟨J, 0, none⟩), .int .i64 (j : Int)] W fun e w' => e = .returned (.int .i64 (s.num j)) ∧ ∃ n, w' = W.drewN n :=
      fun _ W a => at_calls J s.size s.next j W ⟨a.1, a.2.1⟩ (ringOf_size s.short) ⟨F.next0, F.next1⟩ ⟨by omega, by omega⟩
    have d0 : wr.cell? ⟨J, 0, none⟩ = some (.int .i64 s.size) := (hS.1.cell hJ).trans c0
    have d1 : wr.cell? ⟨J, 1, none⟩ = some (.int .i64 s.next) := (hS.1.cell hJ).trans c1
    have d5 : wr.cell? ⟨J, 5, none⟩ = some (.map (some bh)) := (hS.1.cell hJ).trans c5
    have hlk : ∀ W, wr.grownBy W none → Sem.run Try.prog (Instr.lookup 70 (.map (some bh)) (.int .i64 (s.num j)) true) W = .ok (gotVal s (s.num j)) W := fun W hW => by
      have := (hS.2.1.kept hW (by simp)).look_ok law3 Try.underlying3 Try.underlying70 (zero33 _) (x := s.num j) (wf_i64_iff.2 (by omega))
      rw [look_get] at this
      rw [this]
      unfold gotVal
      cases s.get (s.num j) <;> rfl
    have mk : ∀ W, wr.grownBy W none → Reg J bh s (s.num j) (gotVal s (s.num j)) wr W := fun W hW => ⟨hW.cell d0 (by simp), hW.cell d1 (by simp), hW.cell d5 (by simp), hlk W hW, hW⟩
    have hdn := alloc_drewN
    have hds := setCell_drewN
    have HS := Lib.hid hS
    cases hg : s.get (s.num j) with
    | none =>
      have hv : gotVal s (s.num j) = .tuple #[.agg #[.bool false, .bool false, .int .i64 0, .string ⟨#[]⟩], .bool false] := by unfold gotVal; rw [hg]; rfl
      rw [hv] at mk
      have HM := Lib.hid (HP.missing hj hg)
      have MK := Lib.hid mk
      have HA := Lib.hid (hat (.tuple #[.agg #[.bool false, .bool false, .int .i64 0, .string ⟨#[]⟩], .bool false]))
      clear hg mk hv hlk hS d0 d1 d5 hat HP
      go_wp2
      go_region_held3 (fun W => Reg J bh s (s.num j) (.tuple #[.agg #[.bool false, .bool false, .int .i64 0, .string ⟨#[]⟩], .bool false]) wr W) (first | exact MK.out _ (grown_drewN (grown_refl _ _) 1) | (refine MK.out _ ?_; go_split_ands; first | exact grown_drewN (grown_refl _ _) _ | exact grown_drewN (grown_alloc (grown_refl _ _) _) _ | exact grown_alloc (grown_refl _ _) _))
        (first | (go_at_call 44; refine (HA.out _ ?_).mono ?_; assumption; rintro e w2 ⟨rfl, nq, rfl⟩))
      all_goals
        go_wp2
        go_ret3
        exact ⟨by rw [HM.out]; rfl, HS.out.1.trans (below_drewN ((Below.refl _ _).alloc (Nat.le_refl _) _) _ |>.mono HS.out.1.size)⟩
    | some f =>
      obtain ⟨fb, fe, fq, fd⟩ := f
      have hv : gotVal s (s.num j) = .tuple #[.agg #[.bool fb, .bool fe, .int .i64 fq, .string fd], .bool true] := by unfold gotVal; rw [hg]; rfl
      rw [hv] at mk
      have hfd := (F.seqs _ (get_some hg).1).2.2
      have hacc := HP.size
      simp only at hfd
      obtain ⟨i0, hi, hz0, hz1, hz2⟩ := info_parts info5
      by_cases hend : j ≠ 0 ∧ fb = true
      · obtain ⟨h0, rfl⟩ := hend
        have hj0 : 0 < j := Nat.pos_of_ne_zero h0
        have HM := Lib.hid (HP.begins hj hg h0 rfl)
        have MK := Lib.hid mk
        have HA := Lib.hid (hat (.tuple #[.agg #[.bool true, .bool fe, .int .i64 fq, .string fd], .bool true]))
        clear hg mk hv hlk hS d0 d1 d5 hat HP h0
        go_wp2
        go_region_held3 (fun W => Reg J bh s (s.num j) (.tuple #[.agg #[.bool true, .bool fe, .int .i64 fq, .string fd], .bool true]) wr W) (first | exact MK.out _ (grown_drewN (grown_refl _ _) 1) | (refine MK.out _ ?_; go_split_ands; first | exact grown_drewN (grown_refl _ _) _ | exact grown_drewN (grown_alloc (grown_refl _ _) _) _ | exact grown_alloc (grown_refl _ _) _))
        (first | (go_at_call 44; refine (HA.out _ ?_).mono ?_; assumption; rintro e w2 ⟨rfl, nq, rfl⟩))
        all_goals
          go_wp2
          go_ret3
          exact ⟨by rw [HM.out]; rfl, HS.out.1.trans (below_drewN ((Below.refl _ _).alloc (Nat.le_refl _) _) _ |>.mono HS.out.1.size)⟩
      · have bh_old : ¬ w.heap.size ≤ bh := by have := h.held.lt; omega
        rcases (show (0 < j ∧ fb = false) ∨ ¬ 0 < j from by cases fb with
          | false => exact (Nat.lt_or_ge 0 j).imp (fun a => ⟨a, rfl⟩) (fun a => by omega)
          | true => exact .inr (fun a => hend ⟨by omega, rfl⟩)) with ⟨hj0, rfl⟩ | hj0
        · cases fe
          · have MK := Lib.hid mk
            have HA := Lib.hid (hat (.tuple #[.agg #[.bool false, .bool false, .int .i64 fq, .string fd], .bool true]))
            have HM := Lib.hid (HP.next F hj hg hend (by simp))
            have HLE := HM.out.le F (by omega)
            clear hg mk hv hlk hS d0 d1 d5 hat HP hend
            go_wp2
            go_region_held3 (fun W => Reg J bh s (s.num j) (.tuple #[.agg #[.bool false, .bool false, .int .i64 fq, .string fd], .bool true]) wr W) (first | exact MK.out _ (grown_drewN (grown_refl _ _) 1) | (refine MK.out _ ?_; go_split_ands; first | exact grown_drewN (grown_refl _ _) _ | exact grown_drewN (grown_alloc (grown_refl _ _) _) _ | exact grown_alloc (grown_refl _ _) _))
              (first | (go_at_call 44; refine (HA.out _ ?_).mono ?_; assumption; rintro e w2 ⟨rfl, nq, rfl⟩))
            all_goals
              go_wp2_with (first | (at_builtin; refine wpList_append_at rfl (.tmp 35) (.tmp 37) 86 9 rfl i0 (.int .u8 0) 1 Try.underlying86 hi hz0 hz1 hz2 rfl ((HS.out.2.2.alloc _).drewN _) rfl _ rfl fd.size (byteCells fd) (Src.ofString _ Try.underlying9 fd) (by unfold maxLen; omega) (by omega) (by have := HS.out.1.size; simp; omega) ?_; intro v1 w1 hrow1 hgrow1 hnil1 hown1; rw [← byteCells_append, ← ByteArray.size_append] at hrow1; have hcv := conv_row (P := Try.prog) Try.underlying86 Try.underlying5 Try.underlying9 hrow1; have hf1 := (((Blk.new wr #[.bool false, .bool false, .int .i64 fq, .string fd] 33).drewN (1 + nq)).grown hgrow1 (fun e => Nat.lt_irrefl _ (HS.out.2.2.lt _ e.symm).2)).cell 1; have HR := Lib.hid hrow1; have HGR := Lib.hid hgrow1; clear hrow1 hgrow1 hnil1 hown1) | go_in)
              go_roundw
              case rel => exact ⟨j + 1, acc ++ fd, by go_num, HLE, ⟨HS.out.1.trans ((below_drewN ((Below.refl _ _).alloc (Nat.le_refl _) _) _ |>.mono HS.out.1.size).grown HGR.out (by simp; have := HS.out.1.size; omega) (fun k hk => (HS.out.2.2.lt k hk).1)), (HS.out.2.1.kept (grown_drewN (grown_alloc (grown_refl _ none) _) _) (by simp)).kept HGR.out (fun e => bh_old (HS.out.2.2.lt _ e.symm).1), HR.out⟩, HM.out⟩
              case measure => simp [intOf]; omega
          · have MK := Lib.hid mk
            have HA := Lib.hid (hat (.tuple #[.agg #[.bool false, .bool true, .int .i64 fq, .string fd], .bool true]))
            have HM := Lib.hid (HP.ends hj hg hend rfl)
            clear hg mk hv hlk hS d0 d1 d5 hat HP hend
            go_wp2
            go_region_held3 (fun W => Reg J bh s (s.num j) (.tuple #[.agg #[.bool false, .bool true, .int .i64 fq, .string fd], .bool true]) wr W) (first | exact MK.out _ (grown_drewN (grown_refl _ _) 1) | (refine MK.out _ ?_; go_split_ands; first | exact grown_drewN (grown_refl _ _) _ | exact grown_drewN (grown_alloc (grown_refl _ _) _) _ | exact grown_alloc (grown_refl _ _) _))
              (first | (go_at_call 44; refine (HA.out _ ?_).mono ?_; assumption; rintro e w2 ⟨rfl, nq, rfl⟩))
            all_goals
              go_wp2_with (first | (at_builtin; refine wpList_append_at rfl (.tmp 35) (.tmp 37) 86 9 rfl i0 (.int .u8 0) 1 Try.underlying86 hi hz0 hz1 hz2 rfl ((HS.out.2.2.alloc _).drewN _) rfl _ rfl fd.size (byteCells fd) (Src.ofString _ Try.underlying9 fd) (by unfold maxLen; omega) (by omega) (by have := HS.out.1.size; simp; omega) ?_; intro v1 w1 hrow1 hgrow1 hnil1 hown1; rw [← byteCells_append, ← ByteArray.size_append] at hrow1; have hcv := conv_row (P := Try.prog) Try.underlying86 Try.underlying5 Try.underlying9 hrow1; have hf1 := (((Blk.new wr #[.bool false, .bool true, .int .i64 fq, .string fd] 33).drewN (1 + nq)).grown hgrow1 (fun e => Nat.lt_irrefl _ (HS.out.2.2.lt _ e.symm).2)).cell 1; have HR := Lib.hid hrow1; have HGR := Lib.hid hgrow1; clear hrow1 hgrow1 hnil1 hown1) | go_in)
              go_ret3
              exact ⟨by rw [HM.out]; rfl, HS.out.1.trans ((below_drewN ((Below.refl _ _).alloc (Nat.le_refl _) _) _ |>.mono HS.out.1.size).grown HGR.out (by simp; have := HS.out.1.size; omega) (fun k hk => (HS.out.2.2.lt k hk).1))⟩
        · cases fe
          · have MK := Lib.hid mk
            have HA := Lib.hid (hat (.tuple #[.agg #[.bool fb, .bool false, .int .i64 fq, .string fd], .bool true]))
            have HM := Lib.hid (HP.next F hj hg hend (by simp))
            have HLE := HM.out.le F (by omega)
            clear hg mk hv hlk hS d0 d1 d5 hat HP hend
            go_wp2
            go_region_held3 (fun W => Reg J bh s (s.num j) (.tuple #[.agg #[.bool fb, .bool false, .int .i64 fq, .string fd], .bool true]) wr W) (first | exact MK.out _ (grown_drewN (grown_refl _ _) 1) | (refine MK.out _ ?_; go_split_ands; first | exact grown_drewN (grown_refl _ _) _ | exact grown_drewN (grown_alloc (grown_refl _ _) _) _ | exact grown_alloc (grown_refl _ _) _))
              (first | (go_at_call 44; refine (HA.out _ ?_).mono ?_; assumption; rintro e w2 ⟨rfl, nq, rfl⟩))
            all_goals
              go_wp2_with (first | (at_builtin; refine wpList_append_at rfl (.tmp 35) (.tmp 37) 86 9 rfl i0 (.int .u8 0) 1 Try.underlying86 hi hz0 hz1 hz2 rfl ((HS.out.2.2.alloc _).drewN _) rfl _ rfl fd.size (byteCells fd) (Src.ofString _ Try.underlying9 fd) (by unfold maxLen; omega) (by omega) (by have := HS.out.1.size; simp; omega) ?_; intro v1 w1 hrow1 hgrow1 hnil1 hown1; rw [← byteCells_append, ← ByteArray.size_append] at hrow1; have hcv := conv_row (P := Try.prog) Try.underlying86 Try.underlying5 Try.underlying9 hrow1; have hf1 := (((Blk.new wr #[.bool fb, .bool false, .int .i64 fq, .string fd] 33).drewN (1 + nq)).grown hgrow1 (fun e => Nat.lt_irrefl _ (HS.out.2.2.lt _ e.symm).2)).cell 1; have HR := Lib.hid hrow1; have HGR := Lib.hid hgrow1; clear hrow1 hgrow1 hnil1 hown1) | go_in)
              go_roundw
              case rel => exact ⟨j + 1, acc ++ fd, by go_num, HLE, ⟨HS.out.1.trans ((below_drewN ((Below.refl _ _).alloc (Nat.le_refl _) _) _ |>.mono HS.out.1.size).grown HGR.out (by simp; have := HS.out.1.size; omega) (fun k hk => (HS.out.2.2.lt k hk).1)), (HS.out.2.1.kept (grown_drewN (grown_alloc (grown_refl _ none) _) _) (by simp)).kept HGR.out (fun e => bh_old (HS.out.2.2.lt _ e.symm).1), HR.out⟩, HM.out⟩
              case measure => simp [intOf]; omega
          · have MK := Lib.hid mk
            have HA := Lib.hid (hat (.tuple #[.agg #[.bool fb, .bool true, .int .i64 fq, .string fd], .bool true]))
            have HM := Lib.hid (HP.ends hj hg hend rfl)
            clear hg mk hv hlk hS d0 d1 d5 hat HP hend
            go_wp2
            go_region_held3 (fun W => Reg J bh s (s.num j) (.tuple #[.agg #[.bool fb, .bool true, .int .i64 fq, .string fd], .bool true]) wr W) (first | exact MK.out _ (grown_drewN (grown_refl _ _) 1) | (refine MK.out _ ?_; go_split_ands; first | exact grown_drewN (grown_refl _ _) _ | exact grown_drewN (grown_alloc (grown_refl _ _) _) _ | exact grown_alloc (grown_refl _ _) _))
              (first | (go_at_call 44; refine (HA.out _ ?_).mono ?_; assumption; rintro e w2 ⟨rfl, nq, rfl⟩))
            all_goals
              go_wp2_with (first | (at_builtin; refine wpList_append_at rfl (.tmp 35) (.tmp 37) 86 9 rfl i0 (.int .u8 0) 1 Try.underlying86 hi hz0 hz1 hz2 rfl ((HS.out.2.2.alloc _).drewN _) rfl _ rfl fd.size (byteCells fd) (Src.ofString _ Try.underlying9 fd) (by unfold maxLen; omega) (by omega) (by have := HS.out.1.size; simp; omega) ?_; intro v1 w1 hrow1 hgrow1 hnil1 hown1; rw [← byteCells_append, ← ByteArray.size_append] at hrow1; have hcv := conv_row (P := Try.prog) Try.underlying86 Try.underlying5 Try.underlying9 hrow1; have hf1 := (((Blk.new wr #[.bool fb, .bool true, .int .i64 fq, .string fd] 33).drewN (1 + nq)).grown hgrow1 (fun e => Nat.lt_irrefl _ (HS.out.2.2.lt _ e.symm).2)).cell 1; have HR := Lib.hid hrow1; have HGR := Lib.hid hgrow1; clear hrow1 hgrow1 hnil1 hown1) | go_in)
              go_ret3
              exact ⟨by rw [HM.out]; rfl, HS.out.1.trans ((below_drewN ((Below.refl _ _).alloc (Nat.le_refl _) _) _ |>.mono HS.out.1.size).grown HGR.out (by simp; have := HS.out.1.size; omega) (fun k hk => (HS.out.2.2.lt k hk).1))⟩

end Go.Proofs.Ytcpehjdnmhkcpaa.JoinD
