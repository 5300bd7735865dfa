/- JoinLosses, the walk. -/
import Derived.Test.YtcpehjdnmhkcpaaLLossV
import Derived.Test.YtcpehjdnmhkcpaaLLinksP
import Derived.Test.YtcpehjdnmhkcpaaLGapP
namespace Go.Proofs.Ytcpehjdnmhkcpaa.LLoss
open Go Go.RowKit Go.Maps Go.Proofs.Ytcpehjdnmhkcpaa.Mem Go.Proofs.Ytcpehjdnmhkcpaa.Plain Go.Proofs.Ytcpehjdnmhkcpaa.Ring Go.Proofs.Ytcpehjdnmhkcpaa.IMap Go.Proofs.Ytcpehjdnmhkcpaa.JoinP Go.Proofs.Ytcpehjdnmhkcpaa.JoinA Go.Proofs.Ytcpehjdnmhkcpaa.Mv Go.Proofs.Ytcpehjdnmhkcpaa.RowAt Go.Proofs.Ytcpehjdnmhkcpaa.JoinE Go.Proofs.Ytcpehjdnmhkcpaa.JoinR Go.Proofs.Ytcpehjdnmhkcpaa.JoinF Go.Proofs.Ytcpehjdnmhkcpaa.JoinG Go.Proofs.Ytcpehjdnmhkcpaa.JoinH Go.Proofs.Ytcpehjdnmhkcpaa.JoinI Go.Proofs.Ytcpehjdnmhkcpaa.JoinK Go.Proofs.Ytcpehjdnmhkcpaa.LLossP Go.Proofs.Ytcpehjdnmhkcpaa.LLossW Go.Proofs.Ytcpehjdnmhkcpaa.LLossV
open Go.Proofs.Ytcpehjdnmhkcpaa.LLossQ (fsOf)
open Go.Proofs.Ytcpehjdnmhkcpaa.LLossC (cuts_calls)
open Go.Proofs.Ytcpehjdnmhkcpaa.PJoinLosses (S33)
open Go.Proofs.YtcpehjdnmhkcpaaW.PrintWords

theorem wire_cell {wr W w7 : World} {row : Option Nat} {b d : Nat} {v : Value} (hb : wr.grownBy W none) (hg : W.grownBy w7 row) (h1 : b < wr.heap.size) (hne : some b ≠ row) (hc : wr.cell? ⟨b, d, none⟩ = some v) : w7.cell? ⟨b, d, none⟩ = some v :=
  (World.cell?_of_block (w := wr) (w' := w7) (a := ⟨b, d, none⟩) ((hg.block b (Nat.lt_of_lt_of_le h1 hb.size) hne).trans (hb.block b h1 (by simp)))).trans hc
theorem wire_free {wr W w7 : World} {row : Option Nat} {b d : Nat} {v : Bool} (hb : wr.grownBy W none) (hg : W.grownBy w7 row) (h1 : b < wr.heap.size) (hne : some b ≠ row) (hc : wr.frozen? ⟨b, d, none⟩ = v) : w7.frozen? ⟨b, d, none⟩ = v :=
  (World.frozen?_of_block (w := wr) (w' := w7) (a := ⟨b, d, none⟩) ((hg.block b (Nat.lt_of_lt_of_le h1 hb.size) hne).trans (hb.block b h1 (by simp)))).trans hc

theorem info33 : (Try.prog.info? 33).map (fun i => (i.zero, i.size, i.bytes)) = some (some (.agg #[.bool false, .bool false, .int .i64 0, .string ⟨#[]⟩]), 4, 32) := by kernel_rfl

def addsM : Nat → JS
  | 0 => JS.new true 16
  | i + 1 => JS.add (addsM i) i
theorem addsM_spec : ∀ i, i ≤ 4 → (addsM i).short = true ∧ (addsM i).most = 16 ∧ (addsM i).next = 0 ∧ (addsM i).held = [] ∧ (addsM i).links = (List.range i).map (fun (j : Nat) => ((j : Int), (-1 : Int))) := by
  intro i h
  have h9 : i = 0 ∨ i = 1 ∨ i = 2 ∨ i = 3 ∨ i = 4 := by omega
  rcases h9 with rfl | rfl | rfl | rfl | rfl
  all_goals exact ⟨by kernel_rfl, by kernel_rfl, by kernel_rfl, by kernel_rfl, by kernel_rfl⟩
theorem addsM_has {i y : Nat} (hi : i ≤ 4) (hy : y < i) : JS.has (addsM i) (y : Int) = true := by
  unfold JS.has
  rw [(addsM_spec i hi).2.2.2.2]
  exact List.any_eq_true.2 ⟨((y : Int), -1), List.mem_map.2 ⟨y, List.mem_range.2 hy, rfl⟩, by simp⟩
theorem addsM_inv {fs : Nat → Fr} {N i : Nat} (hi : i ≤ 4) : Inv fs N 0 (addsM i) := by
  obtain ⟨a, b, c, d, e⟩ := addsM_spec i hi
  refine ⟨a, by rw [c]; rfl, Nat.zero_le _, fun f hf => (by rw [d] at hf; cases hf), fun p hp => ?_⟩
  rw [e] at hp
  obtain ⟨j, _, rfl⟩ := List.mem_map.1 hp
  simp only
  omega
theorem addsM_good : ∀ i, i ≤ 100 → JoinH.Good (addsM i) 0
  | 0, _ => new_good true 16 (by omega)
  | i + 1, h => add_good (addsM_good i (by omega)) (wf_i64_iff.2 (by omega))

set_option maxHeartbeats 2000000 in
set_option maxRecDepth 100000 in
theorem loss_walk (A0 : Option Addr) (c0 : Nat) (l0 : List ByteArray) (a1 a2 : Int) (b3 b4 : Option Addr) (len3 cap3 len4 cap4 : Nat) (w : World) (hr0 : Kd.C Kd.string w A0 l0.length l0) (hc0 : l0.length ≤ c0)
    (hz3 : ∀ i, i < len3 → ∃ x n, b3 = some x ∧ w.cell? (x.add i) = some (.int .i64 n)) (hz4 : ∀ i, i < len4 → ∃ x n, b4 = some x ∧ w.cell? (x.add i) = some (.int .i64 n)) :
    Calls Try.prog 4 #[.slice A0 l0.length c0, .int .i64 a1, .int .i64 a2, .slice b3 len3 cap3, .slice b4 len4 cap4] w fun e w' => e = .returned (.bool true) ∧ Below w.heap.size w w' := by
  have HZ3 := Lib.hid hz3
  have HZ4 := Lib.hid hz4
  have HR0 := Lib.hid hr0
  clear hz3 hz4 hr0
  obtain ⟨r, hr, hr4⟩ : ∃ r : Nat, bits .and .i64 a2 3 = (r : Int) ∧ r < 4 := by
    have h0 : 0 ≤ a2 % 4 := Int.emod_nonneg _ (by omega)
    have h1 : a2 % 4 < 4 := Int.emod_lt_of_pos _ (by omega)
    exact ⟨(a2 % 4).toNat, by rw [and3]; omega, by omega⟩
  go_enter Try.func4, Try.ntmps4
  go_wp2_with fail
  refine (awake_calls _).mono ?_
  rintro e w0 ⟨rfl, hb0⟩
  go_wp2_with fail
  refine (new_calls true 16 _ (by omega)).mono ?_
  rintro e w1 ⟨J, bl, bh, rfl, hr1, hb1, hJ, hl, hh⟩
  have HR1 : Hid (JRep w1 J bl bh (addsM 0)) := Lib.hid hr1
  have hB1 : Below w.heap.size w w1 := hb0.trans (hb1.mono hb0.size)
  have hJ1 := hr1.blk.lt
  have hl1 := hr1.links.lt
  have hh1 := hr1.held.lt
  have HJ := Lib.hid (show w.heap.size ≤ J ∧ w.heap.size ≤ bl ∧ w.heap.size ≤ bh from ⟨Nat.le_trans hb0.size hJ, Nat.le_trans hb0.size hl, Nat.le_trans hb0.size hh⟩)
  clear hr1 hb1 hJ hl hh
  go_wp2_with (first | (go_at_call 14; ((with_reducible refine (num_calls _ _).mono ?_); rintro e w' ⟨rfl, rfl⟩)))
  go_loopw [14] (fun i wr => ∃ k : Nat, i = .int .i64 k ∧ k ≤ r + 1 ∧ JRep wr J bl bh (addsM k) ∧ Mv J bl bh w1 wr) (fun i _ => r + 1 - (intOf i).toNat)
  case atStart => exact ⟨0, rfl, Nat.zero_le _, HR1.out, Mv.refl _ _ _ _⟩
  case round =>
    obtain ⟨k, rfl, hk, hR, hM⟩ := hrel
    have HR := Lib.hid hR
    have HM := Lib.hid hM
    clear hR hM
    by_cases hlt : k < r + 1
    · have hlt' : (k : Int) < 1 + (r : Int) := by omega
      go_wp2_with (first | (go_at_call 16; refine (add_calls J bl bh _ k _ HR.out (addsM_good k (by omega)).fit (wf_i64_iff.2 (by omega))).mono ?_; rintro e w2 ⟨rfl, hr2, hm2⟩))
      go_roundw
      case rel => exact ⟨k + 1, by go_num, by omega, hr2, HM.out.trans hm2⟩
      case measure => simp [intOf]; omega
    · obtain rfl : k = r + 1 := by omega
      have hge : ¬ ((r + 1 : Nat) : Int) < 1 + (r : Int) := by omega
      have HB1 := Lib.hid (hB1.trans (HM.out.to_below hB1.size HJ.out.1 HJ.out.2.1 HJ.out.2.2))
      obtain ⟨wo, rfl⟩ : ∃ wo : World, wo = wr := ⟨_, rfl⟩
      go_wp2_with fail
      refine (cuts_calls A0 c0 l0 a1 _ (Kd.C_below HR0.out HB1.out) hc0).mono ?_
      rintro e w2 ⟨L, want, A, kA, B, kB, rfl, hL, hG, hcf, hct, hb2⟩
      have HR2 := Lib.hid (HR.out.below hb2)
      have HM2 := Lib.hid (HM.out.below hb2)
      have HG := Lib.hid hG
      have HCF := Lib.hid hcf
      have HCT := Lib.hid hct
      have hL1 : ¬ (1000 : Int) < (L.length : Int) := by omega
      clear hG hcf hct
      go_wp2_with fail
      have hwn : Wires (fsOf L) L.length 0 (w2.heap.size + 1) (w2.alloc (.cells #[.slice none 0 0, .slice none 0 0, .slice none 0 0, .slice none 0 0] 53)) w2.heap.size #[.slice none 0 0, .slice none 0 0, .slice none 0 0, .slice none 0 0] (fun _ => []) :=
        ⟨Blk.new _ _ _, rfl, fun j hj => by
          have h4 : j = 0 ∨ j = 1 ∨ j = 2 ∨ j = 3 := by omega
          rcases h4 with rfl | rfl | rfl | rfl <;> exact RowAt.nil _ _ _ _, fun j => Nat.zero_le _, fun j q hq => by simp at hq, fun a b ha hb _ c hc => by
          have h4 : a = 0 ∨ a = 1 ∨ a = 2 ∨ a = 3 := by omega
          rcases h4 with rfl | rfl | rfl | rfl <;> cases hc⟩
      have HWN := Lib.hid hwn
      have HBA := Lib.hid ((Below.refl w2.heap.size w2).alloc (Nat.le_refl _) (.cells #[.slice none 0 0, .slice none 0 0, .slice none 0 0, .slice none 0 0] 53))
      clear hwn
      go_loopw [18] (fun i wx => ∃ (k : Nat) (vs : Array Value) (qs : Nat → List Nat), i = .int .i64 k ∧ k ≤ L.length ∧ Wires (fsOf L) L.length k (w2.heap.size + 1) wx w2.heap.size vs qs ∧ Below w2.heap.size w2 wx) (fun i _ => L.length - (intOf i).toNat)
      case atStart => exact ⟨0, _, _, rfl, Nat.zero_le _, HWN.out, HBA.out⟩
      case round =>
        obtain ⟨k, vs, qs, rfl, hk, hW, hB⟩ := hrel
        have HW := Lib.hid hW
        have HB := Lib.hid hB
        clear hW hB
        by_cases hlt : k < L.length
        · have hltI : (k : Int) < (L.length : Int) := by omega
          have hk0 : (0 : Int) ≤ (k : Int) := by omega
          obtain ⟨d, hd, hdr⟩ : ∃ d : Nat, (k : Int) % (1 + (r : Int)) = (d : Int) ∧ d < r + 1 := ⟨k % (r + 1), by rw [Int.natCast_emod, Int.natCast_add]; rw [Int.add_comm]; rfl, Nat.mod_lt _ (by omega)⟩
          have hd0 : (0 : Int) ≤ (d : Int) := by omega
          have hd4 : (d : Int) < 4 := by omega
          obtain ⟨ad, rfl, c0, c1, c2, c3⟩ := HCF.out k hlt
          have u0 := (HB.out.cell (World.block_lt_of_cell? w2 _ c0)).trans c0
          have hwc := (HW.out.blk.cell d)
          have hdv : vs[d]? = some (vs.getD d undef) := by
            have h4 := HW.out.four
            simp [Array.getD, h4, show d < 4 by omega]
          rw [hdv] at hwc
          have hwf := HW.out.blk.free d
          by_cases hlose : k < len3
          · have hl3 : (k : Int) < (len3 : Int) := by omega
            obtain ⟨xa, z, rfl, hz⟩ := HZ3.out k hlose
            have hz1 := (HB1.out.cell (World.block_lt_of_cell? w _ hz)).trans hz
            have hz2 := (hb2.cell (World.block_lt_of_cell? wo _ hz1)).trans hz1
            have hz3 := (HB.out.cell (World.block_lt_of_cell? w2 _ hz2)).trans hz2
            obtain ⟨bz, hbz⟩ : ∃ bz : Int, bits .and .i64 z 3 = bz := ⟨_, rfl⟩
            clear hz hz1 hz2
            by_cases hz0 : bz = 0
            · subst hz0
              clear hd hwc hwf c0 c1 c2 c3 u0 hdv
              go_wp2_with fail
              refine ⟨⟨k + 1, vs, qs, by go_num, by omega, Wires.skip HW.out, HB.out⟩, ?_⟩
              simp [intOf]
              omega
            · have hzb : (bz == 0) = false := by simpa using hz0
              have u1 := (HB.out.cell (p := ⟨(ad.add (k * 4)).block, (ad.add (k * 4)).off + 1, none⟩) (World.block_lt_of_cell? w2 _ c1)).trans c1
              have u2 := (HB.out.cell (p := ⟨(ad.add (k * 4)).block, (ad.add (k * 4)).off + 2, none⟩) (World.block_lt_of_cell? w2 _ c2)).trans c2
              have u3 := (HB.out.cell (p := ⟨(ad.add (k * 4)).block, (ad.add (k * 4)).off + 3, none⟩) (World.block_lt_of_cell? w2 _ c3)).trans c3
              have hrow := HW.out.row d (by omega)
              obtain ⟨vd, hvd⟩ : ∃ vd, vs.getD d undef = vd := ⟨_, rfl⟩
              rw [hvd] at hrow hwc
              have HROW := Lib.hid hrow
              have HVD := Lib.hid hvd
              obtain ⟨i33, hi33, hz330, hz331, hz332⟩ := info_parts info33
              clear hrow hvd hdv c0 c1 c2 c3
              have e1 : (k : Int).tmod (1 + (r : Int)) = (d : Int) := by rw [Int.tmod_eq_emod_of_nonneg hk0]; exact hd
              have e2 : IntKind.i64.wrap (d : Int) = (d : Int) := IntWalk.i64_in _ (by omega)
              have e3 : d < 4 := by omega
              have e4 : (((1 + (r : Int)) == 0) = false) := by simp; omega
              have e5 : ¬ (1 + (r : Int)) = 0 := by omega
              go_wp2_with fail
              have hWb : some w2.heap.size ≠ vd.ownBlock := fun e => by have := (RowAt.lt HROW.out _ e.symm).1; omega
              have hszr : w2.heap.size < wr.heap.size := HW.out.blk.lt
              go_region_law (first
                | (refine step_append_at rfl (.tmp 80) (.tmp 85) 46 46 rfl i33 _ 32 Try.underlying46 hi33 hz330 hz331 hz332 rfl (RowAt.kept (row := none) HROW.out (by first | exact grown_alloc (grown_drewN (grown_refl _ _) _) _ | exact grown_drewN (grown_alloc (grown_drewN (grown_refl _ _) _) _) _ | exact grown_drewN (grown_alloc (grown_refl _ _) _) _) (fun _ _ e => by cases e)) rfl (.slice (some ⟨wr.heap.size, 0, none⟩) 1 1) rfl 1 (cellsOf (fsOf L k)) (src_one (size := 4) (P := Try.prog) (B := wr.heap.size) (cs := #[.bool (fsOf L k).b, .bool (fsOf L k).e, .int .i64 (fsOf L k).q, .string (fsOf L k).d]) Try.underlying46 (te := 33) (by exact Blk.new wr _ 33) rfl (by simp [Value.oneCell']) 1) (by have := HW.out.few d; unfold maxLen; omega) (by have := HW.out.few d; omega) (by simp; omega) ?_; intro v7 w7 hrow7 hgrow7 hnil7 hown7; obtain ⟨A7, c7, rfl⟩ := RowAt.form hrow7; have hwc7 := wire_cell (by first | exact grown_alloc (grown_drewN (grown_refl _ _) _) _ | exact grown_drewN (grown_alloc (grown_drewN (grown_refl _ _) _) _) _ | exact grown_drewN (grown_alloc (grown_refl _ _) _) _) hgrow7 hszr hWb hwc; have hwf7 := wire_free (by first | exact grown_alloc (grown_drewN (grown_refl _ _) _) _ | exact grown_drewN (grown_alloc (grown_drewN (grown_refl _ _) _) _) _ | exact grown_drewN (grown_alloc (grown_refl _ _) _) _) hgrow7 hszr hWb hwf))
              all_goals
                go_wp2
                have hgrow8 := hgrow7
                have hown8 := hown7
                rw [← HVD.out] at hgrow8 hown8
                have hwn := Wires.more HW.out (by omega) hlt (Nat.lt_succ_self _) (by first | with_reducible exact grown_alloc (grown_drewN (grown_refl _ _) _) _ | with_reducible exact grown_drewN (grown_alloc (grown_drewN (grown_refl _ _) _) _) _ | with_reducible exact grown_drewN (grown_alloc (grown_refl _ _) _) _ | exact grown_alloc (grown_drewN (grown_refl _ none) 1) _) hrow7 hgrow8 hown8
                refine ⟨⟨k + 1, _, _, by go_num, by omega, hwn, ?_⟩, ?_⟩
                · exact (Below.grown (Below.grown HB.out (row := none) (by first | with_reducible exact grown_alloc (grown_refl _ _) _ | with_reducible exact grown_alloc (grown_drewN (grown_refl _ _) _) _ | with_reducible exact grown_drewN (grown_alloc (grown_drewN (grown_refl _ _) _) _) _ | with_reducible exact grown_drewN (grown_alloc (grown_refl _ _) _) _ | exact grown_alloc (grown_drewN (grown_refl _ none) 1) _) HB.out.size (by simp)) hgrow7 (by simp; omega) (fun b hb => by have := (RowAt.lt HROW.out b hb).1; omega)).setCell (Nat.le_refl _) _
                · simp [intOf]
                  omega
          · have hl3 : ((k : Int) < (len3 : Int)) = False := eq_false (by omega)
            have u1 := (HB.out.cell (p := ⟨(ad.add (k * 4)).block, (ad.add (k * 4)).off + 1, none⟩) (World.block_lt_of_cell? w2 _ c1)).trans c1
            have u2 := (HB.out.cell (p := ⟨(ad.add (k * 4)).block, (ad.add (k * 4)).off + 2, none⟩) (World.block_lt_of_cell? w2 _ c2)).trans c2
            have u3 := (HB.out.cell (p := ⟨(ad.add (k * 4)).block, (ad.add (k * 4)).off + 3, none⟩) (World.block_lt_of_cell? w2 _ c3)).trans c3
            have hrow := HW.out.row d (by omega)
            obtain ⟨vd, hvd⟩ : ∃ vd, vs.getD d undef = vd := ⟨_, rfl⟩
            rw [hvd] at hrow hwc
            have HROW := Lib.hid hrow
            have HVD := Lib.hid hvd
            obtain ⟨i33, hi33, hz330, hz331, hz332⟩ := info_parts info33
            clear hrow hvd hdv c0 c1 c2 c3
            have e1 : (k : Int).tmod (1 + (r : Int)) = (d : Int) := by rw [Int.tmod_eq_emod_of_nonneg hk0]; exact hd
            have e2 : IntKind.i64.wrap (d : Int) = (d : Int) := IntWalk.i64_in _ (by omega)
            have e3 : d < 4 := by omega
            have e4 : (((1 + (r : Int)) == 0) = false) := by simp; omega
            have e5 : ¬ (1 + (r : Int)) = 0 := by omega
            go_wp2_with fail
            have hWb : some w2.heap.size ≠ vd.ownBlock := fun e => by have := (RowAt.lt HROW.out _ e.symm).1; omega
            have hszr : w2.heap.size < wr.heap.size := HW.out.blk.lt
            go_region_law (first
              | (refine step_append_at rfl (.tmp 80) (.tmp 85) 46 46 rfl i33 _ 32 Try.underlying46 hi33 hz330 hz331 hz332 rfl (RowAt.kept (row := none) HROW.out (by first | exact grown_alloc (grown_drewN (grown_refl _ _) _) _ | exact grown_drewN (grown_alloc (grown_drewN (grown_refl _ _) _) _) _ | exact grown_drewN (grown_alloc (grown_refl _ _) _) _) (fun _ _ e => by cases e)) rfl (.slice (some ⟨wr.heap.size, 0, none⟩) 1 1) rfl 1 (cellsOf (fsOf L k)) (src_one (size := 4) (P := Try.prog) (B := wr.heap.size) (cs := #[.bool (fsOf L k).b, .bool (fsOf L k).e, .int .i64 (fsOf L k).q, .string (fsOf L k).d]) Try.underlying46 (te := 33) (by exact Blk.new wr _ 33) rfl (by simp [Value.oneCell']) 1) (by have := HW.out.few d; unfold maxLen; omega) (by have := HW.out.few d; omega) (by simp; omega) ?_; intro v7 w7 hrow7 hgrow7 hnil7 hown7; obtain ⟨A7, c7, rfl⟩ := RowAt.form hrow7; have hwc7 := wire_cell (by first | exact grown_alloc (grown_drewN (grown_refl _ _) _) _ | exact grown_drewN (grown_alloc (grown_drewN (grown_refl _ _) _) _) _ | exact grown_drewN (grown_alloc (grown_refl _ _) _) _) hgrow7 hszr hWb hwc; have hwf7 := wire_free (by first | exact grown_alloc (grown_drewN (grown_refl _ _) _) _ | exact grown_drewN (grown_alloc (grown_drewN (grown_refl _ _) _) _) _ | exact grown_drewN (grown_alloc (grown_refl _ _) _) _) hgrow7 hszr hWb hwf))
            all_goals
              go_wp2
              have hgrow8 := hgrow7
              have hown8 := hown7
              rw [← HVD.out] at hgrow8 hown8
              have hwn := Wires.more HW.out (by omega) hlt (Nat.lt_succ_self _) (by first | with_reducible exact grown_alloc (grown_drewN (grown_refl _ _) _) _ | with_reducible exact grown_drewN (grown_alloc (grown_drewN (grown_refl _ _) _) _) _ | with_reducible exact grown_drewN (grown_alloc (grown_refl _ _) _) _ | exact grown_alloc (grown_drewN (grown_refl _ none) 1) _) hrow7 hgrow8 hown8
              refine ⟨⟨k + 1, _, _, by go_num, by omega, hwn, ?_⟩, ?_⟩
              · exact (Below.grown (Below.grown HB.out (row := none) (by first | with_reducible exact grown_alloc (grown_refl _ _) _ | with_reducible exact grown_alloc (grown_drewN (grown_refl _ _) _) _ | with_reducible exact grown_drewN (grown_alloc (grown_drewN (grown_refl _ _) _) _) _ | with_reducible exact grown_drewN (grown_alloc (grown_refl _ _) _) _ | exact grown_alloc (grown_drewN (grown_refl _ none) 1) _) HB.out.size (by simp)) hgrow7 (by simp; omega) (fun b hb => by have := (RowAt.lt HROW.out b hb).1; omega)).setCell (Nat.le_refl _) _
              · simp [intOf]
                omega
        · obtain rfl : k = L.length := by omega
          have hge2 : ¬ (L.length : Int) < (L.length : Int) := by omega
          obtain ⟨P, en, hRow⟩ := HG.out
          have HROW := Lib.hid hRow
          have HJRS := Lib.hid (HR2.out.below HB.out)
          have HMVS := Lib.hid (Mv.of_below (J := J) (bl := bl) (bh := bh) HB.out)
          clear hRow
          go_wp2_with fail
          go_loopw [19, 20] (fun g i wx => ∃ (k x J' : Nat) (got : List ByteArray) (s : JS) (vs : Array Value) (qs : Nat → List Nat), i = .int .i64 k ∧ k ≤ 2000 ∧ JRep wx J bl bh s ∧ JoinH.Good s k ∧ Inv (fsOf L) L.length x s ∧ J' ≤ P ∧ en J' ≤ x ∧ got.Sublist (want.take J') ∧ Txt wx (w2.heap.size + 1) g got ∧ Wires (fsOf L) L.length L.length (w2.heap.size + 1) wx w2.heap.size vs qs ∧ (∀ y : Nat, y < r + 1 → JS.has s (y : Int) = true) ∧ s.most = 16 ∧ Mv J bl bh w2 wx) (fun _ i _ => 2000 - (intOf i).toNat)
          case atStart => exact ⟨0, 0, 0, [], addsM (r + 1), vs, qs, rfl, by omega, HJRS.out, addsM_good _ (by omega), addsM_inv (by omega), Nat.zero_le _, by rw [HROW.out.en0]; exact Nat.le_refl _, List.nil_sublist _, RowAt.nil _ _ _ _, HW.out, fun y hy => addsM_has (by omega) hy, (addsM_spec _ (by omega)).2.1, HMVS.out⟩
          case round =>
            obtain ⟨k, x, J', got, s, vs', qs', rfl, hk2, hJR, hJG, hInv, hJP, hen, hsub, hTx, hWs, hhas, hmost, hMv⟩ := hrel
            have HJR := Lib.hid hJR
            have HJG := Lib.hid hJG
            have HINV := Lib.hid hInv
            have HSUB := Lib.hid hsub
            have HTX := Lib.hid hTx
            have HWS := Lib.hid hWs
            have HHAS := Lib.hid hhas
            have HMOST := Lib.hid hmost
            have HMV := Lib.hid hMv
            have HEN := Lib.hid hen
            clear hJR hJG hInv hsub hTx hWs hhas hmost hMv hen
            by_cases h2000 : k < 2000
            · have h2I : (k : Int) < 2000 := by omega
              have hk0 : (0 : Int) ≤ (k : Int) := by omega
              have hJ2 := HM2.out.size
              by_cases hpk : k < len4
              · have hpI : (k : Int) < (len4 : Int) := by omega
                obtain ⟨xa, z, rfl, hz⟩ := HZ4.out k hpk
                have hz1 := (HB1.out.cell (World.block_lt_of_cell? w _ hz)).trans hz
                have hz2 := (hb2.cell (World.block_lt_of_cell? wo _ hz1)).trans hz1
                have hzl := World.block_lt_of_cell? w _ hz
                have hzr : wr.cell? (xa.add k) = some (.int .i64 z) := (World.cell?_of_block (HMV.out.block _ (World.block_lt_of_cell? w2 _ hz2) (by have := HJ.out.1; omega) (by have := HJ.out.2.1; omega) (by have := HJ.out.2.2; omega))).trans hz2
                obtain ⟨d0, hd0', _⟩ : ∃ d0 : Nat, (k : Int).tmod (1 + (r : Int)) = (d0 : Int) ∧ d0 < r + 1 := ⟨k % (r + 1), by rw [Int.tmod_eq_emod_of_nonneg hk0, Int.natCast_emod, Int.natCast_add, Int.add_comm]; rfl, Nat.mod_lt _ (by omega)⟩
                obtain ⟨d, hpd, hdr'⟩ := pick z r hr4
                have hu : IntKind.u64.wrap (1 + (r : Int)) = 1 + (r : Int) := by rw [u64_wrap]; omega
                have hr0 : ((1 + (r : Int)) == 0) = false := by simp; omega
                have hr1 : ¬ (1 + (r : Int)) = 0 := by omega
                clear hz hz1 hz2
                have hd0 : (0 : Int) ≤ (d : Int) := by omega
                have hd4 : d < 4 := by omega
                have hd4I : (d : Int) < 4 := by omega
                have hdw : (Lit.int .i64 (d : Int)).wf = true := wf_i64_iff.2 (by omega)
                have HDW := Lib.hid hdw
                have h4 := HWS.out.four
                have hdv : vs'[d]? = some (vs'.getD d undef) := by simp [Array.getD, h4, hd4]
                have hwc := HWS.out.blk.cell d
                rw [hdv] at hwc
                have hrow := HWS.out.row d hd4
                obtain ⟨vd, hvd⟩ : ∃ vd, vs'.getD d undef = vd := ⟨_, rfl⟩
                rw [hvd] at hrow hwc hdv
                obtain ⟨Ad, cd, rfl⟩ := hrow.form
                have HVD := Lib.hid hvd
                have HROWD := Lib.hid hrow
                have HDV := Lib.hid hdv
                clear hdw h4 hdv hrow hvd
                by_cases hem : qs' d = []
                · rw [hem] at hwc
                  clear hem
                  go_wp2_with fail
                  refine ⟨⟨k + 1, x, J', got, s, vs', qs', by go_num, by omega, HJR.out, HJG.out.mono (by omega), HINV.out, hJP, HEN.out, HSUB.out, HTX.out, HWS.out, HHAS.out, HMOST.out, HMV.out⟩, ?_⟩
                  simp [intOf]
                  omega
                · obtain ⟨q0, qt, hq⟩ : ∃ q0 qt, qs' d = q0 :: qt := by cases hq : qs' d with | nil => exact absurd hq hem | cons a l => exact ⟨a, l, rfl⟩
                  have hlq : (qs' d).length = qt.length + 1 := by rw [hq]; rfl
                  have hpos : 0 < (qs' d).length := by omega
                  have hposI : (0 : Int) < ((qs' d).length : Int) := by omega
                  have hne0 : (((qs' d).length : Int) == 0) = false := by simp; omega
                  obtain ⟨gd, od, rfl⟩ := row_some HROWD.out hpos
                  have hcap := row_cap HROWD.out
                  have hq0 : q0 < L.length := HWS.out.mem d q0 (by rw [hq]; simp)
                  have hqt : ∀ q, q ∈ qt → q < L.length := fun q hm => HWS.out.mem d q (by rw [hq]; exact List.mem_cons_of_mem _ hm)
                  have hfl : flat (fsOf L) (qs' d) = cellsOf (fsOf L q0) ++ flat (fsOf L) qt := by rw [hq]; rfl
                  have hcell : ∀ j, j < 4 → wr.cell? ⟨gd, od + j, none⟩ = (cellsOf (fsOf L q0))[j]? := fun j hj => by
                    rw [HROWD.out.cell j (by omega), hfl, List.getElem?_append_left (by simp [cellsOf]; omega)]
                  have k0 : wr.cell? ⟨gd, od, none⟩ = some (.bool (fsOf L q0).b) := hcell 0 (by omega)
                  have k1 : wr.cell? ⟨gd, od + 1, none⟩ = some (.bool (fsOf L q0).e) := hcell 1 (by omega)
                  have k2 : wr.cell? ⟨gd, od + 2, none⟩ = some (.int .i64 (fsOf L q0).q) := hcell 2 (by omega)
                  have k3 : wr.cell? ⟨gd, od + 3, none⟩ = some (.string (fsOf L q0).d) := hcell 3 (by omega)
                  have hfew := HWS.out.few d
                  obtain ⟨hnum, y', J'', hInv', hJP', hen', hsub'⟩ := Inv.put HROW.out HINV.out HJG.out (by omega) (HHAS.out d hdr') hq0 hJP HEN.out HSUB.out
                  have hG' := put_good' HJG.out (by omega) (d : Int) (fsOf L q0)
                  have hhas' : ∀ y : Nat, y < r + 1 → JS.has (JS.put s (d : Int) (fsOf L q0)).2 (y : Int) = true := fun y hy => by rw [LLinksP.has_put hnum (HHAS.out d hdr')]; exact HHAS.out y hy
                  have hmost' : (JS.put s (d : Int) (fsOf L q0)).2.most = 16 := put_most.trans HMOST.out
                  have hgl : (got ++ (JS.put s (d : Int) (fsOf L q0)).1).length ≤ 1000 := by
                    have h1 := hsub'.length_le
                    have h2 : (want.take J'').length ≤ want.length := by rw [List.length_take]; omega
                    have h3 := HROW.out.wl
                    have h4 := LLossR.row_many HROW.out P (Nat.le_refl _)
                    have h5 := HROW.out.enP
                    omega
                  obtain ⟨⟨o, s'⟩, hput⟩ : ∃ p, JS.put s (d : Int) (fsOf L q0) = p := ⟨_, rfl⟩
                  rw [hput] at hInv' hsub' hG' hhas' hmost' hgl
                  simp only at hInv' hsub' hG' hhas' hmost' hgl
                  have HNUM := Lib.hid hnum
                  have HPUT := Lib.hid hput
                  have HINV' := Lib.hid hInv'
                  have HEN' := Lib.hid hen'
                  have HSUB' := Lib.hid hsub'
                  have HG' := Lib.hid hG'
                  have HHAS' := Lib.hid hhas'
                  have HMOST' := Lib.hid hmost'
                  have HQ := Lib.hid hq
                  have HQT := Lib.hid hqt
                  have HFL := Lib.hid hfl
                  have hgo : got.length + o.length ≤ 1000 := by rw [List.length_append] at hgl; exact hgl
                  have hlq1 : (qs' d).length ≤ qt.length + 1 := by omega
                  have hlq2 : qt.length + 1 ≤ (qs' d).length := by omega
                  clear hnum hput hInv' hen' hsub' hG' hhas' hmost' hq hqt hfl hcell hgl hem hlq
                  go_wp2_with fail
                  refine (put_step (f := fsOf L q0) HJR.out HJG.out (by omega) HDW.out HNUM.out HPUT.out).mono ?_
                  rintro e w6 ⟨A6, k6, rfl, ht6, hr6, hm6⟩
                  have HR6 := Lib.hid hr6
                  have HM6 := Lib.hid (HMV.out.trans hm6)
                  have HT6 := Lib.hid (txt_mv HTX.out (by omega) (by omega) (by omega) hm6)
                  have HW6 := Lib.hid (Wires.mv HWS.out hm6 (by omega) (by omega) (by omega))
                  have HSRC := Lib.hid (src_row (P := Try.prog) Try.underlying38 ht6 (fun u hu => by obtain ⟨t, _, rfl⟩ := List.mem_map.1 hu; rfl))
                  have hsz6 := HM6.out.size
                  have hwb6 := HW6.out.blk.lt
                  clear hr6 hm6 ht6 k0 k1 k2 k3 hwc
                  obtain ⟨i9, hi9, hz90, hz91, hz92⟩ := info_parts info9
                  obtain ⟨i33, hi33, hz330, hz331, hz332⟩ := info_parts info33
                  by_cases hcd : cd = 1
                  · subst hcd
                    have hl1 : (qs' d).length = 1 := by omega
                    have hqt0 : qt = [] := List.eq_nil_of_length_eq_zero (by omega)
                    have HQ0 := Lib.hid hqt0
                    rw [hl1] at HDV
                    clear hqt0
                    have hp1 : 1 ≤ (qs' d).length := hpos
                    go_wp2_with (first
                      | (go_at_call 14; ((with_reducible refine (num_calls _ _).mono ?_); rintro e w' ⟨rfl, rfl⟩))
                      | (at_builtin; refine wpList_append_at rfl (.tmp 127) (.tmp 128) 38 38 rfl i9 (.string ⟨#[]⟩) 16 Try.underlying38 hi9 hz90 hz91 hz92 rfl HT6.out rfl _ rfl _ _ HSRC.out (by unfold maxLen; omega) (by omega) (by omega) ?_; intro v7 w7 hrow7 hgrow7 hnil7 hown7; have HR7 := Lib.hid (rep_kept HR6.out hgrow7 (fun e => by have := (RowAt.lt HT6.out J e.symm).1; omega) (fun e => by have := (RowAt.lt HT6.out bl e.symm).1; omega) (fun e => by have := (RowAt.lt HT6.out bh e.symm).1; omega)); have HM7 := Lib.hid (HM6.out.grown hgrow7 (fun b hb => .inr (.inr (.inr (by have := (RowAt.lt HT6.out b hb).1; omega))))); have HW7 := Lib.hid (Wires.texts HW6.out hgrow7 HT6.out); have HT7 : Hid (Txt w7 (w2.heap.size + 1) v7 (got ++ o)) := Lib.hid (by unfold Txt; rw [List.length_append, List.map_append]; exact hrow7); have hwc7 := HW7.out.blk.cell d; rw [HDV.out] at hwc7; have hwf7 := HW7.out.blk.free d; have hwb7 := HW7.out.blk.lt; have hd7 := HW7.out.row d hd4; rw [HVD.out] at hd7; have HD7 := Lib.hid (hd7.alloc (.cells #[] 33)); clear hrow7 hgrow7 hnil7 hown7 hd7)
                      | (at_builtin; refine wpList_append_at rfl (.tmp 131) (.tmp 135) 46 46 rfl i33 _ 32 Try.underlying46 hi33 hz330 hz331 hz332 rfl (row_empty w7 (w2.heap.size + 1) (by omega) 33 4) rfl _ rfl _ _ (src_row (P := Try.prog) Try.underlying46 (row_nil HD7.out (Nat.zero_le _)) (fun u hu => by cases hu)) (by unfold maxLen; omega) (by omega) (by simp; omega) ?_; intro v8 w8 hrow8 hgrow8 hnil8 hown8; obtain ⟨A8, c8, rfl⟩ := RowAt.form hrow8; have hwc8 : w8.cell? ⟨w2.heap.size, d, none⟩ = some (.slice (some ⟨gd, od, none⟩) 1 1) := wire_cell (grown_alloc (grown_refl w7 none) _) hgrow8 hwb7 (fun e => by simp [Value.ownBlock] at e; omega) hwc7; have hwf8 : w8.frozen? ⟨w2.heap.size, d, none⟩ = false := wire_free (grown_alloc (grown_refl w7 none) _) hgrow8 hwb7 (fun e => by simp [Value.ownBlock] at e; omega) hwf7))
                    have hg78 : w7.grownBy w8 none := grown_new (grown_alloc (grown_refl w7 none) _) hgrow8 (Nat.le_refl _)
                    have hrow8' : RowAt w8 (w2.heap.size + 1) 33 4 (.slice A8 0 c8) qt.length (flat (fsOf L) qt) := by rw [HQ0.out]; exact hrow8
                    have HWF := Lib.hid (Wires.put (q' := qt) HW7.out hd4 (Nat.lt_succ_self _) hg78 hrow8' (fun b hb => by
                      have hb' : (Value.slice A8 (0 + 0) c8).ownBlock = some b := hb
                      rcases hown8 with h | h
                      · rw [h] at hb'; simp [Value.ownBlock] at hb'; omega
                      · rw [h] at hb'; have := Option.some.inj hb'; simp at this; omega) (by omega) HQT.out)
                    have hgs : w8.grownBy (w8.setCell ⟨w2.heap.size, d, none⟩ (.slice A8 0 c8)) (some w2.heap.size) := grown_set (grown_refl w8 _) d _
                    refine ⟨⟨k + 1, y', J'', got ++ o, s', _, _, by go_num, by omega, rep_kept (HR7.out.grown hg78) hgs (by simp; omega) (by simp; omega) (by simp; omega), HG'.out, HINV'.out, hJP', HEN'.out, HSUB'.out, RowAt.kept (RowAt.kept HT7.out hg78 (by simp)) hgs (fun b hb => by have := (RowAt.lt HT7.out b hb).1; simp; omega), HWF.out, HHAS'.out, HMOST'.out, (HM7.out.grown hg78 (by simp)).grown hgs (fun b hb => by cases hb; exact .inr (.inr (.inr (Nat.le_refl _))))⟩, ?_⟩
                    simp [intOf]
                    omega
                  · have hp1 : 1 ≤ (qs' d).length := hpos
                    have hp2 : 1 ≤ cd := by omega
                    go_wp2_with (first
                      | (go_at_call 14; ((with_reducible refine (num_calls _ _).mono ?_); rintro e w' ⟨rfl, rfl⟩))
                      | (at_builtin; refine wpList_append_at rfl (.tmp 127) (.tmp 128) 38 38 rfl i9 (.string ⟨#[]⟩) 16 Try.underlying38 hi9 hz90 hz91 hz92 rfl HT6.out rfl _ rfl _ _ HSRC.out (by unfold maxLen; omega) (by omega) (by omega) ?_; intro v7 w7 hrow7 hgrow7 hnil7 hown7; have HR7 := Lib.hid (rep_kept HR6.out hgrow7 (fun e => by have := (RowAt.lt HT6.out J e.symm).1; omega) (fun e => by have := (RowAt.lt HT6.out bl e.symm).1; omega) (fun e => by have := (RowAt.lt HT6.out bh e.symm).1; omega)); have HM7 := Lib.hid (HM6.out.grown hgrow7 (fun b hb => .inr (.inr (.inr (by have := (RowAt.lt HT6.out b hb).1; omega))))); have HW7 := Lib.hid (Wires.texts HW6.out hgrow7 HT6.out); have HT7 : Hid (Txt w7 (w2.heap.size + 1) v7 (got ++ o)) := Lib.hid (by unfold Txt; rw [List.length_append, List.map_append]; exact hrow7); have hwc7 := HW7.out.blk.cell d; rw [HDV.out] at hwc7; have hwf7 := HW7.out.blk.free d; have hwb7 := HW7.out.blk.lt; have hd7 := HW7.out.row d hd4; rw [HVD.out] at hd7; have HD7 := Lib.hid (hd7.alloc (.cells #[] 33)); clear hrow7 hgrow7 hnil7 hown7 hd7)
                      | (at_builtin; refine wpList_append_at rfl (.tmp 131) (.tmp 135) 46 46 rfl i33 _ 32 Try.underlying46 hi33 hz330 hz331 hz332 rfl (row_empty w7 (w2.heap.size + 1) (by omega) 33 4) rfl _ rfl _ _ (src_row (P := Try.prog) Try.underlying46 (row_drop (p := 1) HD7.out hp1) (fun u hu => flat_one (List.mem_of_mem_drop hu))) (by unfold maxLen; omega) (by omega) (by simp; omega) ?_; intro v8 w8 hrow8 hgrow8 hnil8 hown8; obtain ⟨A8, c8, rfl⟩ := RowAt.form hrow8; have hwc8 : w8.cell? ⟨w2.heap.size, d, none⟩ = some (.slice (some ⟨gd, od, none⟩) (qs' d).length cd) := wire_cell (grown_alloc (grown_refl w7 none) _) hgrow8 hwb7 (fun e => by simp [Value.ownBlock] at e; omega) hwc7; have hwf8 : w8.frozen? ⟨w2.heap.size, d, none⟩ = false := wire_free (grown_alloc (grown_refl w7 none) _) hgrow8 hwb7 (fun e => by simp [Value.ownBlock] at e; omega) hwf7))
                    have hg78 : w7.grownBy w8 none := grown_new (grown_alloc (grown_refl w7 none) _) hgrow8 (Nat.le_refl _)
                    have hnews : ([] : List Value) ++ (flat (fsOf L) (qs' d)).drop (1 * 4) = flat (fsOf L) qt := by rw [HFL.out]; simp [cellsOf]
                    have hlen0 : (qs' d).length - 1 = qt.length := by omega
                    have hrow8' : RowAt w8 (w2.heap.size + 1) 33 4 (.slice A8 ((qs' d).length - 1) c8) qt.length (flat (fsOf L) qt) := by
                      have h := hrow8
                      rw [hnews, Nat.zero_add] at h
                      rw [← hlen0]
                      exact h
                    have HWF := Lib.hid (Wires.put (q' := qt) HW7.out hd4 (Nat.lt_succ_self _) hg78 hrow8' (fun b hb => by
                      have hb' : (Value.slice A8 (0 + ((qs' d).length - 1)) c8).ownBlock = some b := by rw [Nat.zero_add]; exact hb
                      rcases hown8 with h | h
                      · rw [h] at hb'; simp [Value.ownBlock] at hb'; omega
                      · rw [h] at hb'; have := Option.some.inj hb'; simp at this; omega) (by omega) HQT.out)
                    have hgs : w8.grownBy (w8.setCell ⟨w2.heap.size, d, none⟩ (.slice A8 ((qs' d).length - 1) c8)) (some w2.heap.size) := grown_set (grown_refl w8 _) d _
                    refine ⟨⟨k + 1, y', J'', got ++ o, s', _, _, by go_num, by omega, rep_kept (HR7.out.grown hg78) hgs (by simp; omega) (by simp; omega) (by simp; omega), HG'.out, HINV'.out, hJP', HEN'.out, HSUB'.out, RowAt.kept (RowAt.kept HT7.out hg78 (by simp)) hgs (fun b hb => by have := (RowAt.lt HT7.out b hb).1; simp; omega), HWF.out, HHAS'.out, HMOST'.out, (HM7.out.grown hg78 (by simp)).grown hgs (fun b hb => by cases hb; exact .inr (.inr (.inr (Nat.le_refl _))))⟩, ?_⟩
                    simp [intOf]
                    omega
              · have hpI : ((k : Int) < (len4 : Int)) = False := eq_false (by omega)
                obtain ⟨d, hpd, hdr'⟩ : ∃ d : Nat, (k : Int).tmod (1 + (r : Int)) = (d : Int) ∧ d < r + 1 := ⟨k % (r + 1), by rw [Int.tmod_eq_emod_of_nonneg hk0, Int.natCast_emod, Int.natCast_add, Int.add_comm]; rfl, Nat.mod_lt _ (by omega)⟩
                have hr0 : ((1 + (r : Int)) == 0) = false := by simp; omega
                have hr1 : ¬ (1 + (r : Int)) = 0 := by omega
                have hd0 : (0 : Int) ≤ (d : Int) := by omega
                have hd4 : d < 4 := by omega
                have hd4I : (d : Int) < 4 := by omega
                have hdw : (Lit.int .i64 (d : Int)).wf = true := wf_i64_iff.2 (by omega)
                have HDW := Lib.hid hdw
                have h4 := HWS.out.four
                have hdv : vs'[d]? = some (vs'.getD d undef) := by simp [Array.getD, h4, hd4]
                have hwc := HWS.out.blk.cell d
                rw [hdv] at hwc
                have hrow := HWS.out.row d hd4
                obtain ⟨vd, hvd⟩ : ∃ vd, vs'.getD d undef = vd := ⟨_, rfl⟩
                rw [hvd] at hrow hwc hdv
                obtain ⟨Ad, cd, rfl⟩ := hrow.form
                have HVD := Lib.hid hvd
                have HROWD := Lib.hid hrow
                have HDV := Lib.hid hdv
                clear hdw h4 hdv hrow hvd
                by_cases hem : qs' d = []
                · rw [hem] at hwc
                  clear hem
                  go_wp2_with fail
                  refine ⟨⟨k + 1, x, J', got, s, vs', qs', by go_num, by omega, HJR.out, HJG.out.mono (by omega), HINV.out, hJP, HEN.out, HSUB.out, HTX.out, HWS.out, HHAS.out, HMOST.out, HMV.out⟩, ?_⟩
                  simp [intOf]
                  omega
                · obtain ⟨q0, qt, hq⟩ : ∃ q0 qt, qs' d = q0 :: qt := by cases hq : qs' d with | nil => exact absurd hq hem | cons a l => exact ⟨a, l, rfl⟩
                  have hlq : (qs' d).length = qt.length + 1 := by rw [hq]; rfl
                  have hpos : 0 < (qs' d).length := by omega
                  have hposI : (0 : Int) < ((qs' d).length : Int) := by omega
                  have hne0 : (((qs' d).length : Int) == 0) = false := by simp; omega
                  obtain ⟨gd, od, rfl⟩ := row_some HROWD.out hpos
                  have hcap := row_cap HROWD.out
                  have hq0 : q0 < L.length := HWS.out.mem d q0 (by rw [hq]; simp)
                  have hqt : ∀ q, q ∈ qt → q < L.length := fun q hm => HWS.out.mem d q (by rw [hq]; exact List.mem_cons_of_mem _ hm)
                  have hfl : flat (fsOf L) (qs' d) = cellsOf (fsOf L q0) ++ flat (fsOf L) qt := by rw [hq]; rfl
                  have hcell : ∀ j, j < 4 → wr.cell? ⟨gd, od + j, none⟩ = (cellsOf (fsOf L q0))[j]? := fun j hj => by
                    rw [HROWD.out.cell j (by omega), hfl, List.getElem?_append_left (by simp [cellsOf]; omega)]
                  have k0 : wr.cell? ⟨gd, od, none⟩ = some (.bool (fsOf L q0).b) := hcell 0 (by omega)
                  have k1 : wr.cell? ⟨gd, od + 1, none⟩ = some (.bool (fsOf L q0).e) := hcell 1 (by omega)
                  have k2 : wr.cell? ⟨gd, od + 2, none⟩ = some (.int .i64 (fsOf L q0).q) := hcell 2 (by omega)
                  have k3 : wr.cell? ⟨gd, od + 3, none⟩ = some (.string (fsOf L q0).d) := hcell 3 (by omega)
                  have hfew := HWS.out.few d
                  obtain ⟨hnum, y', J'', hInv', hJP', hen', hsub'⟩ := Inv.put HROW.out HINV.out HJG.out (by omega) (HHAS.out d hdr') hq0 hJP HEN.out HSUB.out
                  have hG' := put_good' HJG.out (by omega) (d : Int) (fsOf L q0)
                  have hhas' : ∀ y : Nat, y < r + 1 → JS.has (JS.put s (d : Int) (fsOf L q0)).2 (y : Int) = true := fun y hy => by rw [LLinksP.has_put hnum (HHAS.out d hdr')]; exact HHAS.out y hy
                  have hmost' : (JS.put s (d : Int) (fsOf L q0)).2.most = 16 := put_most.trans HMOST.out
                  have hgl : (got ++ (JS.put s (d : Int) (fsOf L q0)).1).length ≤ 1000 := by
                    have h1 := hsub'.length_le
                    have h2 : (want.take J'').length ≤ want.length := by rw [List.length_take]; omega
                    have h3 := HROW.out.wl
                    have h4 := LLossR.row_many HROW.out P (Nat.le_refl _)
                    have h5 := HROW.out.enP
                    omega
                  obtain ⟨⟨o, s'⟩, hput⟩ : ∃ p, JS.put s (d : Int) (fsOf L q0) = p := ⟨_, rfl⟩
                  rw [hput] at hInv' hsub' hG' hhas' hmost' hgl
                  simp only at hInv' hsub' hG' hhas' hmost' hgl
                  have HNUM := Lib.hid hnum
                  have HPUT := Lib.hid hput
                  have HINV' := Lib.hid hInv'
                  have HEN' := Lib.hid hen'
                  have HSUB' := Lib.hid hsub'
                  have HG' := Lib.hid hG'
                  have HHAS' := Lib.hid hhas'
                  have HMOST' := Lib.hid hmost'
                  have HQ := Lib.hid hq
                  have HQT := Lib.hid hqt
                  have HFL := Lib.hid hfl
                  have hgo : got.length + o.length ≤ 1000 := by rw [List.length_append] at hgl; exact hgl
                  have hlq1 : (qs' d).length ≤ qt.length + 1 := by omega
                  have hlq2 : qt.length + 1 ≤ (qs' d).length := by omega
                  clear hnum hput hInv' hen' hsub' hG' hhas' hmost' hq hqt hfl hcell hgl hem hlq
                  go_wp2_with fail
                  refine (put_step (f := fsOf L q0) HJR.out HJG.out (by omega) HDW.out HNUM.out HPUT.out).mono ?_
                  rintro e w6 ⟨A6, k6, rfl, ht6, hr6, hm6⟩
                  have HR6 := Lib.hid hr6
                  have HM6 := Lib.hid (HMV.out.trans hm6)
                  have HT6 := Lib.hid (txt_mv HTX.out (by omega) (by omega) (by omega) hm6)
                  have HW6 := Lib.hid (Wires.mv HWS.out hm6 (by omega) (by omega) (by omega))
                  have HSRC := Lib.hid (src_row (P := Try.prog) Try.underlying38 ht6 (fun u hu => by obtain ⟨t, _, rfl⟩ := List.mem_map.1 hu; rfl))
                  have hsz6 := HM6.out.size
                  have hwb6 := HW6.out.blk.lt
                  clear hr6 hm6 ht6 k0 k1 k2 k3 hwc
                  obtain ⟨i9, hi9, hz90, hz91, hz92⟩ := info_parts info9
                  obtain ⟨i33, hi33, hz330, hz331, hz332⟩ := info_parts info33
                  by_cases hcd : cd = 1
                  · subst hcd
                    have hl1 : (qs' d).length = 1 := by omega
                    have hqt0 : qt = [] := List.eq_nil_of_length_eq_zero (by omega)
                    have HQ0 := Lib.hid hqt0
                    rw [hl1] at HDV
                    clear hqt0
                    have hp1 : 1 ≤ (qs' d).length := hpos
                    go_wp2_with (first
                      | (go_at_call 14; ((with_reducible refine (num_calls _ _).mono ?_); rintro e w' ⟨rfl, rfl⟩))
                      | (at_builtin; refine wpList_append_at rfl (.tmp 127) (.tmp 128) 38 38 rfl i9 (.string ⟨#[]⟩) 16 Try.underlying38 hi9 hz90 hz91 hz92 rfl HT6.out rfl _ rfl _ _ HSRC.out (by unfold maxLen; omega) (by omega) (by omega) ?_; intro v7 w7 hrow7 hgrow7 hnil7 hown7; have HR7 := Lib.hid (rep_kept HR6.out hgrow7 (fun e => by have := (RowAt.lt HT6.out J e.symm).1; omega) (fun e => by have := (RowAt.lt HT6.out bl e.symm).1; omega) (fun e => by have := (RowAt.lt HT6.out bh e.symm).1; omega)); have HM7 := Lib.hid (HM6.out.grown hgrow7 (fun b hb => .inr (.inr (.inr (by have := (RowAt.lt HT6.out b hb).1; omega))))); have HW7 := Lib.hid (Wires.texts HW6.out hgrow7 HT6.out); have HT7 : Hid (Txt w7 (w2.heap.size + 1) v7 (got ++ o)) := Lib.hid (by unfold Txt; rw [List.length_append, List.map_append]; exact hrow7); have hwc7 := HW7.out.blk.cell d; rw [HDV.out] at hwc7; have hwf7 := HW7.out.blk.free d; have hwb7 := HW7.out.blk.lt; have hd7 := HW7.out.row d hd4; rw [HVD.out] at hd7; have HD7 := Lib.hid (hd7.alloc (.cells #[] 33)); clear hrow7 hgrow7 hnil7 hown7 hd7)
                      | (at_builtin; refine wpList_append_at rfl (.tmp 131) (.tmp 135) 46 46 rfl i33 _ 32 Try.underlying46 hi33 hz330 hz331 hz332 rfl (row_empty w7 (w2.heap.size + 1) (by omega) 33 4) rfl _ rfl _ _ (src_row (P := Try.prog) Try.underlying46 (row_nil HD7.out (Nat.zero_le _)) (fun u hu => by cases hu)) (by unfold maxLen; omega) (by omega) (by simp; omega) ?_; intro v8 w8 hrow8 hgrow8 hnil8 hown8; obtain ⟨A8, c8, rfl⟩ := RowAt.form hrow8; have hwc8 : w8.cell? ⟨w2.heap.size, d, none⟩ = some (.slice (some ⟨gd, od, none⟩) 1 1) := wire_cell (grown_alloc (grown_refl w7 none) _) hgrow8 hwb7 (fun e => by simp [Value.ownBlock] at e; omega) hwc7; have hwf8 : w8.frozen? ⟨w2.heap.size, d, none⟩ = false := wire_free (grown_alloc (grown_refl w7 none) _) hgrow8 hwb7 (fun e => by simp [Value.ownBlock] at e; omega) hwf7))
                    have hg78 : w7.grownBy w8 none := grown_new (grown_alloc (grown_refl w7 none) _) hgrow8 (Nat.le_refl _)
                    have hrow8' : RowAt w8 (w2.heap.size + 1) 33 4 (.slice A8 0 c8) qt.length (flat (fsOf L) qt) := by rw [HQ0.out]; exact hrow8
                    have HWF := Lib.hid (Wires.put (q' := qt) HW7.out hd4 (Nat.lt_succ_self _) hg78 hrow8' (fun b hb => by
                      have hb' : (Value.slice A8 (0 + 0) c8).ownBlock = some b := hb
                      rcases hown8 with h | h
                      · rw [h] at hb'; simp [Value.ownBlock] at hb'; omega
                      · rw [h] at hb'; have := Option.some.inj hb'; simp at this; omega) (by omega) HQT.out)
                    have hgs : w8.grownBy (w8.setCell ⟨w2.heap.size, d, none⟩ (.slice A8 0 c8)) (some w2.heap.size) := grown_set (grown_refl w8 _) d _
                    refine ⟨⟨k + 1, y', J'', got ++ o, s', _, _, by go_num, by omega, rep_kept (HR7.out.grown hg78) hgs (by simp; omega) (by simp; omega) (by simp; omega), HG'.out, HINV'.out, hJP', HEN'.out, HSUB'.out, RowAt.kept (RowAt.kept HT7.out hg78 (by simp)) hgs (fun b hb => by have := (RowAt.lt HT7.out b hb).1; simp; omega), HWF.out, HHAS'.out, HMOST'.out, (HM7.out.grown hg78 (by simp)).grown hgs (fun b hb => by cases hb; exact .inr (.inr (.inr (Nat.le_refl _))))⟩, ?_⟩
                    simp [intOf]
                    omega
                  · have hp1 : 1 ≤ (qs' d).length := hpos
                    have hp2 : 1 ≤ cd := by omega
                    go_wp2_with (first
                      | (go_at_call 14; ((with_reducible refine (num_calls _ _).mono ?_); rintro e w' ⟨rfl, rfl⟩))
                      | (at_builtin; refine wpList_append_at rfl (.tmp 127) (.tmp 128) 38 38 rfl i9 (.string ⟨#[]⟩) 16 Try.underlying38 hi9 hz90 hz91 hz92 rfl HT6.out rfl _ rfl _ _ HSRC.out (by unfold maxLen; omega) (by omega) (by omega) ?_; intro v7 w7 hrow7 hgrow7 hnil7 hown7; have HR7 := Lib.hid (rep_kept HR6.out hgrow7 (fun e => by have := (RowAt.lt HT6.out J e.symm).1; omega) (fun e => by have := (RowAt.lt HT6.out bl e.symm).1; omega) (fun e => by have := (RowAt.lt HT6.out bh e.symm).1; omega)); have HM7 := Lib.hid (HM6.out.grown hgrow7 (fun b hb => .inr (.inr (.inr (by have := (RowAt.lt HT6.out b hb).1; omega))))); have HW7 := Lib.hid (Wires.texts HW6.out hgrow7 HT6.out); have HT7 : Hid (Txt w7 (w2.heap.size + 1) v7 (got ++ o)) := Lib.hid (by unfold Txt; rw [List.length_append, List.map_append]; exact hrow7); have hwc7 := HW7.out.blk.cell d; rw [HDV.out] at hwc7; have hwf7 := HW7.out.blk.free d; have hwb7 := HW7.out.blk.lt; have hd7 := HW7.out.row d hd4; rw [HVD.out] at hd7; have HD7 := Lib.hid (hd7.alloc (.cells #[] 33)); clear hrow7 hgrow7 hnil7 hown7 hd7)
                      | (at_builtin; refine wpList_append_at rfl (.tmp 131) (.tmp 135) 46 46 rfl i33 _ 32 Try.underlying46 hi33 hz330 hz331 hz332 rfl (row_empty w7 (w2.heap.size + 1) (by omega) 33 4) rfl _ rfl _ _ (src_row (P := Try.prog) Try.underlying46 (row_drop (p := 1) HD7.out hp1) (fun u hu => flat_one (List.mem_of_mem_drop hu))) (by unfold maxLen; omega) (by omega) (by simp; omega) ?_; intro v8 w8 hrow8 hgrow8 hnil8 hown8; obtain ⟨A8, c8, rfl⟩ := RowAt.form hrow8; have hwc8 : w8.cell? ⟨w2.heap.size, d, none⟩ = some (.slice (some ⟨gd, od, none⟩) (qs' d).length cd) := wire_cell (grown_alloc (grown_refl w7 none) _) hgrow8 hwb7 (fun e => by simp [Value.ownBlock] at e; omega) hwc7; have hwf8 : w8.frozen? ⟨w2.heap.size, d, none⟩ = false := wire_free (grown_alloc (grown_refl w7 none) _) hgrow8 hwb7 (fun e => by simp [Value.ownBlock] at e; omega) hwf7))
                    have hg78 : w7.grownBy w8 none := grown_new (grown_alloc (grown_refl w7 none) _) hgrow8 (Nat.le_refl _)
                    have hnews : ([] : List Value) ++ (flat (fsOf L) (qs' d)).drop (1 * 4) = flat (fsOf L) qt := by rw [HFL.out]; simp [cellsOf]
                    have hlen0 : (qs' d).length - 1 = qt.length := by omega
                    have hrow8' : RowAt w8 (w2.heap.size + 1) 33 4 (.slice A8 ((qs' d).length - 1) c8) qt.length (flat (fsOf L) qt) := by
                      have h := hrow8
                      rw [hnews, Nat.zero_add] at h
                      rw [← hlen0]
                      exact h
                    have HWF := Lib.hid (Wires.put (q' := qt) HW7.out hd4 (Nat.lt_succ_self _) hg78 hrow8' (fun b hb => by
                      have hb' : (Value.slice A8 (0 + ((qs' d).length - 1)) c8).ownBlock = some b := by rw [Nat.zero_add]; exact hb
                      rcases hown8 with h | h
                      · rw [h] at hb'; simp [Value.ownBlock] at hb'; omega
                      · rw [h] at hb'; have := Option.some.inj hb'; simp at this; omega) (by omega) HQT.out)
                    have hgs : w8.grownBy (w8.setCell ⟨w2.heap.size, d, none⟩ (.slice A8 ((qs' d).length - 1) c8)) (some w2.heap.size) := grown_set (grown_refl w8 _) d _
                    refine ⟨⟨k + 1, y', J'', got ++ o, s', _, _, by go_num, by omega, rep_kept (HR7.out.grown hg78) hgs (by simp; omega) (by simp; omega) (by simp; omega), HG'.out, HINV'.out, hJP', HEN'.out, HSUB'.out, RowAt.kept (RowAt.kept HT7.out hg78 (by simp)) hgs (fun b hb => by have := (RowAt.lt HT7.out b hb).1; simp; omega), HWF.out, HHAS'.out, HMOST'.out, (HM7.out.grown hg78 (by simp)).grown hgs (fun b hb => by cases hb; exact .inr (.inr (.inr (Nat.le_refl _))))⟩, ?_⟩
                    simp [intOf]
                    omega
            · obtain rfl : k = 2000 := by omega
              have hk2I : ¬ ((2000 : Nat) : Int) < 2000 := by omega
              have HGW := Lib.hid (show want.length ≤ 1000 by
                have h4 := LLossR.row_many HROW.out P (Nat.le_refl _)
                have h5 := HROW.out.enP
                have h6 := HROW.out.wl
                omega)
              have hgl2 : got.length ≤ 1000 := by
                have h1 := HSUB.out.length_le
                have h2 : (want.take J').length ≤ want.length := by rw [List.length_take]; omega
                have h3 := HGW.out
                omega
              obtain ⟨Ag, cg, rfl, hcg⟩ := HTX.out.shape
              have HCG := Lib.hid hcg
              have hs0 : got.Sublist want := HSUB.out.trans (List.take_sublist _ _)
              have HS0 := Lib.hid hs0
              have HWT : Hid (∀ i t, want[i]? = some t → ∃ ad : Addr, B = some ad ∧ wr.cell? (ad.add i) = some (.string t)) := Lib.hid (fun i t ht => by
                obtain ⟨ad, e, hc⟩ := HCT.out i t ht
                obtain ⟨f1, f2, f3⟩ := str_far HR2.out hc
                exact ⟨ad, e, (World.cell?_of_block (HMV.out.block _ (World.block_lt_of_cell? w2 _ hc) f1 f2 f3)).trans hc⟩)
              obtain ⟨wz, rfl⟩ : ∃ wz : World, wz = wr := ⟨_, rfl⟩
              clear hcg hs0
              go_wp2_with fail
              go_loopw [24, 25] (fun at_ i wx => ∃ (n a : Nat), i = .int .i64 n ∧ at_ = .int .i64 a ∧ n ≤ want.length ∧ a ≤ got.length ∧ (got.drop a).Sublist (want.drop n) ∧ ∃ dr, wx = wz.drewN dr) (fun _ i _ => want.length - (intOf i).toNat)
              case atStart => exact ⟨0, 0, rfl, rfl, Nat.zero_le _, Nat.zero_le _, by simpa using HS0.out, 0, rfl⟩
              case round =>
                obtain ⟨n, a, rfl, rfl, hn, ha, hsd, dr, rfl⟩ := hrel
                have hw1000 := HGW.out
                have HSD := Lib.hid hsd
                clear hsd
                by_cases hnl : n < want.length
                · have hnI : (n : Int) < (want.length : Int) := by omega
                  have hn0 : (0 : Int) ≤ (n : Int) := by omega
                  by_cases hal : a < got.length
                  · have haI : (a : Int) < (got.length : Int) := by omega
                    have ha0 : (0 : Int) ≤ (a : Int) := by omega
                    obtain ⟨tw, htw⟩ : ∃ t, want[n]? = some t := ⟨_, List.getElem?_eq_getElem hnl⟩
                    obtain ⟨tg, htg⟩ : ∃ t, got[a]? = some t := ⟨_, List.getElem?_eq_getElem hal⟩
                    obtain ⟨adw, rfl, d1⟩ := HWT.out n tw htw
                    obtain ⟨gg, og, rfl, d2⟩ := HCG.out a tg htg
                    obtain ⟨gr1, gr2⟩ := greedy HSD.out htw htg
                    have GR1 := Lib.hid gr1
                    have GR2 := Lib.hid gr2
                    clear htw htg gr1 gr2
                    go_wp2_with fail
                    go_quiet (fail)
                    go_wp2
                    all_goals
                      by_cases hb : tw = tg
                      · first
                          | (exfalso; rename_i hx; rw [hb] at hx; simp at hx; done)
                          | (refine ⟨⟨n + 1, a + 1, by go_num, by go_num, by omega, by omega, GR1.out hb, _, rfl⟩, ?_⟩
                             simp [intOf]
                             omega)
                      · first
                          | (exfalso; rename_i hx; apply hb; apply eq_of_toList; simpa using hx)
                          | (refine ⟨⟨n + 1, a, by go_num, rfl, by omega, by omega, GR2.out hb, _, rfl⟩, ?_⟩
                             simp [intOf]
                             omega)
                  · obtain rfl : a = got.length := by omega
                    have haa : ¬ (got.length : Int) < (got.length : Int) := by omega
                    have hhe : (s.held.length : Int) ≤ 16 := by have h1 := HJG.out.few; have h2 := HMOST.out; omega
                    have HHE := Lib.hid hhe
                    go_wp2_with (first
                      | (go_at_call 23; ((with_reducible refine (held_calls J bl bh _ _ (HJR.out.drewN _)).mono ?_); rintro e w' ⟨rfl, rfl⟩)))
                    go_ret
                    exact ⟨rfl, below_drewN (HB1.out.trans (hb2.mono HB1.out.size |>.trans ((HMV.out.to_below (B := w.heap.size) (by have := HB1.out.size; have := hb2.size; omega) HJ.out.1 HJ.out.2.1 HJ.out.2.2)))) _⟩
                · have hnn : ¬ (n : Int) < (want.length : Int) := by omega
                  obtain rfl := greedy_end HSD.out (by omega) ha
                  have hhe : (s.held.length : Int) ≤ 16 := by have h1 := HJG.out.few; have h2 := HMOST.out; omega
                  have HHE := Lib.hid hhe
                  go_wp2_with (first
                    | (go_at_call 23; ((with_reducible refine (held_calls J bl bh _ _ (HJR.out.drewN _)).mono ?_); rintro e w' ⟨rfl, rfl⟩)))
                  go_ret
                  exact ⟨rfl, below_drewN (HB1.out.trans (hb2.mono HB1.out.size |>.trans ((HMV.out.to_below (B := w.heap.size) (by have := HB1.out.size; have := hb2.size; omega) HJ.out.1 HJ.out.2.1 HJ.out.2.2)))) _⟩

end Go.Proofs.Ytcpehjdnmhkcpaa.LLoss
