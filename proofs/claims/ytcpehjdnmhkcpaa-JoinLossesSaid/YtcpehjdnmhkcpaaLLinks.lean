/- JoinLinks, the walk. -/
import Derived.Test.YtcpehjdnmhkcpaaLLinksP
import Derived.Test.YtcpehjdnmhkcpaaLGapP
namespace Go.Proofs.Ytcpehjdnmhkcpaa.LLinks
open Go Go.RowKit Go.Maps Go.Proofs.Ytcpehjdnmhkcpaa.Mem Go.Proofs.Ytcpehjdnmhkcpaa.Plain Go.Proofs.Ytcpehjdnmhkcpaa.Ring Go.Proofs.Ytcpehjdnmhkcpaa.IMap Go.Proofs.Ytcpehjdnmhkcpaa.JoinP Go.Proofs.Ytcpehjdnmhkcpaa.JoinA Go.Proofs.Ytcpehjdnmhkcpaa.Mv Go.Proofs.Ytcpehjdnmhkcpaa.RowAt Go.Proofs.Ytcpehjdnmhkcpaa.JoinE Go.Proofs.Ytcpehjdnmhkcpaa.JoinR Go.Proofs.Ytcpehjdnmhkcpaa.JoinF Go.Proofs.Ytcpehjdnmhkcpaa.JoinG Go.Proofs.Ytcpehjdnmhkcpaa.JoinH Go.Proofs.Ytcpehjdnmhkcpaa.JoinI Go.Proofs.Ytcpehjdnmhkcpaa.JoinK Go.Proofs.Ytcpehjdnmhkcpaa.LLinksP
open Go.Proofs.Ytcpehjdnmhkcpaa.LGapP (whole_calls)

/-- The numbers of the argument. -/
theorem nums_at {a : Option Addr} {len cap : Nat} {z : List Int} {w : World} (h : (a = none ∧ len = 0 ∧ cap = 0 ∧ z = []) ∨ ∃ x, a = some x ∧ len ≤ cap ∧ cap ≤ maxLen ∧ z.length = cap ∧ (∀ i, i < z.length → w.cell? (x.add i) = some (.int .i64 (z.getD i 0))) ∧ ∀ n ∈ z, (Lit.int .i64 n).wf = true) :
    len ≤ maxLen ∧ ∀ i, i < len → ∃ x n, a = some x ∧ w.cell? (x.add i) = some (.int .i64 n) := by
  rcases h with ⟨_, rfl, _⟩ | ⟨x, rfl, h1, h2, h3, h4, _⟩
  · exact ⟨Nat.zero_le _, fun i hi => by omega⟩
  · exact ⟨by omega, fun i hi => ⟨x, _, rfl, h4 i (by omega)⟩⟩

/-- A row that is full is its block. -/
theorem row_blk {w : World} {B g n : Nat} {e : TypeId} {xs : List Value} (h : w.ownsRow B e 1 (.slice (some ⟨g, 0, none⟩) n n) n xs) : Blk w g xs.toArray e := by
  rcases h.2 with ⟨h0, _⟩ | ⟨g', cap, cur, h0, _, hg, _, _, hs, ht⟩
  · cases h0
  · simp only [Value.slice.injEq, Option.some.injEq, Addr.mk.injEq] at h0
    obtain ⟨⟨rfl, _⟩, _, rfl⟩ := h0
    rw [List.take_of_length_le (by simp [hs])] at ht
    subst ht
    exact hg

theorem info4 : (Try.prog.info? 4).map (fun i => (i.zero, i.size, i.bytes)) = some (some (.bool false), 1, 1) := by kernel_rfl
theorem arr0 : (madeCells (Value.bool false).cells (32 * 1)).toList.toArray = hasArr (JS.new true 8) := by kernel_rfl

theorem num_quiet (x : Int) (w : World) : Calls Try.prog 14 #[.int .i64 x] w fun e w' => e = .returned (.int .i64 x) ∧ ∃ n, w' = w.drewN n :=
  (num_calls x w).mono fun _ _ ⟨h, e⟩ => ⟨h, 0, e.symm⟩

set_option maxHeartbeats 2000000 in
set_option maxRecDepth 100000 in
theorem links_walk (a : Option Addr) (len cap : Nat) (w : World) (hlm : len ≤ maxLen) (hz : ∀ i, i < len → ∃ x n, a = some x ∧ w.cell? (x.add i) = some (.int .i64 n)) : Calls Try.prog 9 #[.slice a len cap] w fun e w' => e = .returned (.bool true) ∧ Below w.heap.size w w' := by
  have HZ := Lib.hid hz
  unfold maxLen at hlm
  clear hz
  go_enter Try.func9, Try.ntmps9
  go_wp2_with fail
  refine (awake_calls _).mono ?_
  rintro e w0 ⟨rfl, hb0⟩
  go_wp2_with fail
  refine (new_calls true 8 _ (by omega)).mono ?_
  rintro e w1 ⟨J, bl, bh, rfl, hr1, hb1, hJ, hl, hh⟩
  have HR1 := Lib.hid hr1
  have HB1 : Hid (Below w.heap.size w w1) := Lib.hid (hb0.trans (hb1.mono hb0.size))
  clear hr1
  obtain ⟨i4, hi4, hz40, hz41, hz42⟩ := info_parts info4
  go_wp2_with (first | (at_make; refine wpList_make_full _ rfl _ _ 61 rfl w1.heap.size 4 i4 (.bool false) 1 Try.underlying61 hi4 hz40 hz41 _ _ _ _ 32 rfl rfl rfl rfl (by omega) (by unfold maxLen; omega) (Nat.le_refl _) ?_; intro w2 hrow2 hgr2))
  have hb2 := row_blk hrow2
  rw [arr0] at hb2
  have HA2 := Lib.hid hb2
  have HR2 := Lib.hid (HR1.out.grown hgr2)
  have HB2 : Hid (Below w.heap.size w w2) := Lib.hid (HB1.out.grown hgr2 HB1.out.size (by simp))
  have hne : w1.heap.size ≠ J ∧ w1.heap.size ≠ bl ∧ w1.heap.size ≠ bh := ⟨Nat.ne_of_gt HR1.out.blk.lt, Nat.ne_of_gt HR1.out.links.lt, Nat.ne_of_gt HR1.out.held.lt⟩
  have HNE := Lib.hid hne
  have hHB := HB1.out.size
  have HLE := Lib.hid (show w.heap.size ≤ J ∧ w.heap.size ≤ bl ∧ w.heap.size ≤ bh from ⟨Nat.le_trans hb0.size hJ, Nat.le_trans hb0.size hl, Nat.le_trans hb0.size hh⟩)
  generalize w1.heap.size = H at *
  clear hb2 hrow2 hgr2 hne HR1 HB1 hb0 hb1 hJ hl hh
  go_wp2_with (first
    | (go_at_call 14; ((with_reducible refine (num_calls _ _).mono ?_); rintro e w' ⟨rfl, rfl⟩)))
  go_loopw [6, 7] (fun m i wr => ∃ (k : Nat) (s : JS), i = .int .i64 k ∧ k ≤ len ∧ k ≤ 60 ∧ m = .int .i64 s.links.length ∧ JRep wr J bl bh s ∧ JoinH.Good s k ∧ Blk wr H (hasArr s) 4 ∧ Below w.heap.size w wr ∧ s.short = true) (fun _ i _ => len - (intOf i).toNat)
  case atStart => exact ⟨0, JS.new true 8, rfl, by omega, by omega, rfl, HR2.out, new_good true 8 (by omega), HA2.out, HB2.out, rfl⟩
  case round =>
    obtain ⟨k, s, rfl, hk, hk60, rfl, hR, hG, hA, hB, hsh⟩ := hrel
    have HR := Lib.hid hR
    have HG := Lib.hid hG
    have HA := Lib.hid hA
    have HB := Lib.hid hB
    have HS := Lib.hid hsh
    clear hR hG hA hB hsh
    by_cases hlt : k < len
    · by_cases h60 : k < 60
      · have hl1 : (k : Int) < (len : Int) := by omega
        have hl2 : (k : Int) < 60 := by omega
        obtain ⟨xa, z, rfl, hz⟩ := HZ.out k hlt
        have hzr := (HB.out.cell (World.block_lt_of_cell? w _ hz)).trans hz
        clear hz
        obtain ⟨x, hx, hx32⟩ : ∃ x : Nat, bits .and .i64 z 31 = (x : Int) ∧ x < 32 := by
          have h0 : 0 ≤ z % 32 := Int.emod_nonneg _ (by omega)
          have h1 : z % 32 < 32 := Int.emod_lt_of_pos _ (by omega)
          exact ⟨(z % 32).toNat, by rw [and31]; omega, by omega⟩
        have hk0 : (0 : Int) ≤ (k : Int) := by omega
        have hx0 : (0 : Int) ≤ (x : Int) := by omega
        have hx3 : (x : Int) < 32 := by omega
        have hxw : (Lit.int .i64 (x : Int)).wf = true := wf_i64_iff.2 (by omega)
        have HXW := Lib.hid hxw
        have HLN := Lib.hid HR.out.links.nodup
        have hcell : wr.cell? ⟨H, x, none⟩ = some (.bool (JS.has s (x : Int))) := (HA.out.cell x).trans (hasArr_at s hx32)
        clear hxw
        by_cases hd : bits .and .i64 z 32 = 32
        · have hdb : (bits .and .i64 z 32 == 32) = true := by simp [hd]
          clear hd
          cases hb : JS.has s (x : Int) with
          | true =>
            rw [hb] at hcell
            have e1 : JS.dropNum s (x : Int) = 0 := by unfold JS.dropNum; rw [if_pos hb]
            have e2 : JS.drop s (x : Int) = JS.dropLink s x := by unfold JS.drop; rw [if_pos hb]
            have hlen := len_drop HLN.out hb
            have hfew := HG.out.fit.few
            have HLEN : Hid (((JS.dropLink s (x : Int)).links.length : Int) = (s.links.length : Int) - 1) := Lib.hid (by omega)
            have hG2 := (drop_good HG.out (x : Int)).mono (Nat.le_succ k)
            have hA2 : (hasArr s).setIfInBounds x (.bool false) = hasArr (JS.dropLink s x) := hasArr_set hx32 (by rw [has_drop]; simp) (fun y hy => by rw [has_drop, decide_eq_false hy]; rfl)
            rw [e2] at hG2
            have HG2 := Lib.hid hG2
            have HAA := Lib.hid hA2
            have E1 := Lib.hid e1
            have E2 := Lib.hid e2
            clear hlen e1 e2 hG2 hA2 hb
            go_wp2_with fail
            refine (drop_calls J bl bh _ x _ HR.out HXW.out).mono ?_
            rintro e w3 ⟨rfl, hr3, hm3⟩
            rw [E1.out]
            rw [E2.out] at hr3
            have hA3 : Blk w3 H (hasArr s) 4 := (hm3.block H HA.out.lt HNE.out.1 HNE.out.2.1 HNE.out.2.2).trans HA.out
            have hcell3 := (hm3.to_below (B := w.heap.size) HB.out.size HLE.out.1 HLE.out.2.1 HLE.out.2.2)
            have HB3 := Lib.hid (HB.out.trans hcell3)
            have hc3 : w3.cell? ⟨H, x, none⟩ = some (.bool true) := ((hA3.cell x).trans ((HA.out.cell x).symm.trans hcell))
            have hf3 := hA3.free x
            have HR3 := Lib.hid hr3
            have HA3 := Lib.hid hA3
            clear hr3 hA3 hcell3 hm3 hcell
            go_wp2_with fail
            go_quiet ((go_at_call 14; refine (num_calls _ _).mono ?_; rintro _ _ ⟨rfl, rfl⟩; exact ⟨rfl, _, rfl⟩))
            go_wp2_with fail
            refine ⟨⟨k + 1, JS.dropLink s x, by go_num, by omega, by omega, congrArg (Value.int .i64) HLEN.out.symm, rep_kept HR3.out (grown_set (grown_drewN (grown_refl _ _) _) x _) (fun e => HNE.out.1 (Option.some.inj e).symm) (fun e => HNE.out.2.1 (Option.some.inj e).symm) (fun e => HNE.out.2.2 (Option.some.inj e).symm), HG2.out, HAA.out ▸ (HA3.out.drewN _).set x _, (below_drewN HB3.out _).setCell hHB _, HS.out⟩, ?_⟩
            simp [intOf]
            omega
          | false =>
            rw [hb] at hcell
            have e1 : JS.dropNum s (x : Int) = 1902 := by unfold JS.dropNum; rw [if_neg (by rw [hb]; simp)]
            have e2 : JS.drop s (x : Int) = s := by unfold JS.drop; rw [if_neg (by rw [hb]; simp)]
            have E1 := Lib.hid e1
            have E2 := Lib.hid e2
            clear e1 e2 hb
            go_wp2_with fail
            refine (drop_calls J bl bh _ x _ HR.out HXW.out).mono ?_
            rintro e w3 ⟨rfl, hr3, hm3⟩
            rw [E1.out]
            rw [E2.out] at hr3
            have hA3 : Blk w3 H (hasArr s) 4 := (hm3.block H HA.out.lt HNE.out.1 HNE.out.2.1 HNE.out.2.2).trans HA.out
            have hcell3 := (hm3.to_below (B := w.heap.size) HB.out.size HLE.out.1 HLE.out.2.1 HLE.out.2.2)
            have HB3 := Lib.hid (HB.out.trans hcell3)
            have hc3 : w3.cell? ⟨H, x, none⟩ = some (.bool false) := ((hA3.cell x).trans ((HA.out.cell x).symm.trans hcell))
            have HR3 := Lib.hid hr3
            have HA3 := Lib.hid hA3
            clear hr3 hA3 hcell3 hm3 hcell
            go_wp2_with fail
            go_quiet ((go_at_call 14; refine (num_calls _ _).mono ?_; rintro _ _ ⟨rfl, rfl⟩; exact ⟨rfl, _, rfl⟩))
            go_wp2_with fail
            refine ⟨⟨k + 1, s, by go_num, by omega, by omega, rfl, HR3.out.drewN _, HG.out.mono (Nat.le_succ k), HA3.out.drewN _, below_drewN HB3.out _, HS.out⟩, ?_⟩
            simp [intOf]
            omega
        · have hdb : (bits .and .i64 z 32 == 32) = false := by simp [hd]
          have hokf : okFr s.short ⟨true, true, (k : Int), ⟨#[122]⟩⟩ = true := by
            rw [HS.out]
            exact okFr_spec.2 ⟨by show (0 : Int) ≤ k; omega, by show (k : Int) < 4096; omega, by show 1 ≤ 2048; omega⟩
          have HOK := Lib.hid hokf
          clear hd hokf
          cases hb : JS.has s (x : Int) with
          | true =>
            rw [hb] at hcell
            have e1 : JS.addNum s (x : Int) = 1900 := by unfold JS.addNum; rw [if_pos (.inr hb)]
            have e2 : JS.add s (x : Int) = s := by unfold JS.add; rw [e1]; rfl
            have e3 : JS.putNum s (x : Int) ⟨true, true, (k : Int), ⟨#[122]⟩⟩ = 0 := by unfold JS.putNum; rw [if_pos hb, if_pos HOK.out]
            have hlen := len_old (q := k) HLN.out hb
            have HLEN : Hid (((JS.put s (x : Int) ⟨true, true, (k : Int), ⟨#[122]⟩⟩).2.links.length : Int) = (s.links.length : Int)) := Lib.hid (by rw [put_links e3, hlen])
            have HG2 := Lib.hid (put_good' HG.out (by omega) (x : Int) ⟨true, true, (k : Int), ⟨#[122]⟩⟩)
            have HAA := Lib.hid (hasArr_same (has_put e3 hb))
            have HCL := Lib.hid ((HA.out.cell x).symm.trans hcell)
            have HSH : Hid ((JS.put s (x : Int) ⟨true, true, (k : Int), ⟨#[122]⟩⟩).2.short = true) := Lib.hid ((put_short _ _ _).trans HS.out)
            have E1 := Lib.hid e1
            have E2 := Lib.hid e2
            have E3 := Lib.hid e3
            clear hlen e1 e2 e3 hb
            go_wp2_with fail
            refine (add_calls J bl bh _ x _ HR.out HG.out.fit HXW.out).mono ?_
            rintro e w3 ⟨rfl, hr3, hm3⟩
            rw [E1.out]
            rw [E2.out] at hr3
            have hA3 : Blk w3 H (hasArr s) 4 := (hm3.block H HA.out.lt HNE.out.1 HNE.out.2.1 HNE.out.2.2).trans HA.out
            have HB3 := Lib.hid (HB.out.trans (hm3.to_below (B := w.heap.size) HB.out.size HLE.out.1 HLE.out.2.1 HLE.out.2.2))
            have hc3 : w3.cell? ⟨H, x, none⟩ = some (.bool true) := ((hA3.cell x).trans ((HA.out.cell x).symm.trans hcell))
            have HR3 := Lib.hid hr3
            have HA3 := Lib.hid hA3
            clear hr3 hA3 hm3 hcell
            go_wp2_with (first
              | (go_at_call 14; ((with_reducible refine (num_calls _ _).mono ?_); rintro e w' ⟨rfl, rfl⟩))
              | (go_at_call 27; ((with_reducible refine (whole_calls k (by omega) _ _).mono ?_); rintro e w4 ⟨rfl, hb4⟩)))
            refine (put_calls J bl bh _ _ x ⟨true, true, (k : Int), ⟨#[122]⟩⟩ _ (HR3.out.below hb4) HG.out (by omega) HXW.out).mono ?_
            rintro e w5 ⟨v5, rfl, ht5, hr5, hm5⟩
            rw [E3.out]
            have hm35 := (Mv.of_below (J := J) (bl := bl) (bh := bh) hb4).trans hm5
            have hA5 : Blk w5 H (hasArr s) 4 := (hm35.block H HA3.out.lt HNE.out.1 HNE.out.2.1 HNE.out.2.2).trans HA3.out
            have HB5 := Lib.hid (HB3.out.trans (hm35.to_below (B := w.heap.size) HB3.out.size HLE.out.1 HLE.out.2.1 HLE.out.2.2))
            have hc5 : w5.cell? ⟨H, x, none⟩ = some (.bool true) := (hA5.cell x).trans HCL.out
            have HR5 := Lib.hid hr5
            have HA5 := Lib.hid hA5
            clear hr5 hA5 hm5 hm35 ht5 hb4
            go_wp2_with fail
            go_quiet ((go_at_call 14; refine (num_calls _ _).mono ?_; rintro _ _ ⟨rfl, rfl⟩; exact ⟨rfl, _, rfl⟩))
            go_wp2_with fail
            refine ⟨⟨k + 1, (JS.put s (x : Int) ⟨true, true, (k : Int), ⟨#[122]⟩⟩).2, by go_num, by omega, by omega, congrArg (Value.int .i64) HLEN.out.symm, HR5.out.drewN _, HG2.out, HAA.out ▸ HA5.out.drewN _, below_drewN HB5.out _, HSH.out⟩, ?_⟩
            simp [intOf]
            omega
          | false =>
            rw [hb] at hcell
            by_cases hfull : 8 ≤ s.links.length
            · have hfi : (8 : Int) ≤ (s.links.length : Int) := by omega
              have e1 : JS.addNum s (x : Int) = 1901 := by unfold JS.addNum; rw [if_neg (by rw [hb]; simp), if_pos hfull]
              have e2 : JS.add s (x : Int) = s := by unfold JS.add; rw [e1]; rfl
              have e3 : JS.putNum s (x : Int) ⟨true, true, (k : Int), ⟨#[122]⟩⟩ = 1902 := by unfold JS.putNum; rw [if_neg (by rw [hb]; simp)]
              have e4 : (JS.put s (x : Int) ⟨true, true, (k : Int), ⟨#[122]⟩⟩).2 = s := by unfold JS.put; rw [e3]; rfl
              have HCL := Lib.hid ((HA.out.cell x).symm.trans hcell)
              have HG2 := Lib.hid (HG.out.mono (Nat.le_succ k))
              have E1 := Lib.hid e1
              have E2 := Lib.hid e2
              have E3 := Lib.hid e3
              have E4 := Lib.hid e4
              clear e1 e2 e3 e4 hb hfull
              go_wp2_with fail
              refine (add_calls J bl bh _ x _ HR.out HG.out.fit HXW.out).mono ?_
              rintro e w3 ⟨rfl, hr3, hm3⟩
              rw [E1.out]
              rw [E2.out] at hr3
              have hA3 : Blk w3 H (hasArr s) 4 := (hm3.block H HA.out.lt HNE.out.1 HNE.out.2.1 HNE.out.2.2).trans HA.out
              have HB3 := Lib.hid (HB.out.trans (hm3.to_below (B := w.heap.size) HB.out.size HLE.out.1 HLE.out.2.1 HLE.out.2.2))
              have hc3 : w3.cell? ⟨H, x, none⟩ = some (.bool false) := (hA3.cell x).trans HCL.out
              have HR3 := Lib.hid hr3
              have HA3 := Lib.hid hA3
              clear hr3 hA3 hm3 hcell
              go_wp2_with (first
                | (go_at_call 14; ((with_reducible refine (num_calls _ _).mono ?_); rintro e w' ⟨rfl, rfl⟩))
                | (go_at_call 27; ((with_reducible refine (whole_calls k (by omega) _ _).mono ?_); rintro e w4 ⟨rfl, hb4⟩)))
              refine (put_calls J bl bh _ _ x ⟨true, true, (k : Int), ⟨#[122]⟩⟩ _ (HR3.out.below hb4) HG.out (by omega) HXW.out).mono ?_
              rintro e w5 ⟨v5, rfl, ht5, hr5, hm5⟩
              rw [E3.out]
              have hm35 := (Mv.of_below (J := J) (bl := bl) (bh := bh) hb4).trans hm5
              have hA5 : Blk w5 H (hasArr s) 4 := (hm35.block H HA3.out.lt HNE.out.1 HNE.out.2.1 HNE.out.2.2).trans HA3.out
              have HB5 := Lib.hid (HB3.out.trans (hm35.to_below (B := w.heap.size) HB3.out.size HLE.out.1 HLE.out.2.1 HLE.out.2.2))
              have hc5 : w5.cell? ⟨H, x, none⟩ = some (.bool false) := (hA5.cell x).trans HCL.out
              rw [E4.out] at hr5
              have HR5 := Lib.hid hr5
              have HA5 := Lib.hid hA5
              clear hr5 hA5 hm5 hm35 ht5 hb4
              go_wp2_with fail
              go_quiet ((go_at_call 14; refine (num_calls _ _).mono ?_; rintro _ _ ⟨rfl, rfl⟩; exact ⟨rfl, _, rfl⟩))
              go_wp2_with fail
              refine ⟨⟨k + 1, s, by go_num, by omega, by omega, rfl, HR5.out.drewN _, HG2.out, HA5.out.drewN _, below_drewN HB5.out _, HS.out⟩, ?_⟩
              simp [intOf]
              omega
            · have hfi : ((8 : Int) ≤ (s.links.length : Int)) = False := eq_false (by omega)
              have hfl : (s.links.length : Int) < 8 := by omega
              have e1 : JS.addNum s (x : Int) = 0 := by unfold JS.addNum; rw [if_neg (by rw [hb]; simp), if_neg hfull]
              have e2 : JS.add s (x : Int) = JS.setLink s x (-1) := by unfold JS.add; rw [if_pos e1]
              have hb2 : JS.has (JS.setLink s x (-1)) (x : Int) = true := by rw [has_set]; simp
              have e3 : JS.putNum (JS.setLink s x (-1)) (x : Int) ⟨true, true, (k : Int), ⟨#[122]⟩⟩ = 0 := by unfold JS.putNum; rw [if_pos hb2, if_pos (show okFr (JS.setLink s (x : Int) (-1)).short ⟨true, true, (k : Int), ⟨#[122]⟩⟩ = true from HOK.out)]
              have hG1 := add_good HG.out HXW.out
              rw [e2] at hG1
              have HG1 := Lib.hid hG1
              have HG2 := Lib.hid (put_good' hG1 (by omega) (x : Int) ⟨true, true, (k : Int), ⟨#[122]⟩⟩)
              have hA1 : (hasArr s).setIfInBounds x (.bool true) = hasArr (JS.setLink s x (-1)) := hasArr_set hx32 hb2 (fun y hy => by rw [has_set, decide_eq_false hy]; rfl)
              have HA1 := Lib.hid hA1
              have HAA := Lib.hid (hasArr_same (has_put e3 hb2))
              have HSH : Hid ((JS.put (JS.setLink s x (-1)) (x : Int) ⟨true, true, (k : Int), ⟨#[122]⟩⟩).2.short = true) := Lib.hid ((put_short _ _ _).trans HS.out)
              have HCL := Lib.hid ((HA.out.cell x).symm.trans hcell)
              have HCL2 : Hid ((hasArr (JS.setLink s x (-1)))[x]? = some (.bool true)) := Lib.hid (by rw [hasArr_at _ hx32, hb2])
              have hl1 := len_new (q := -1) hb
              have hHB2 := hb2
              have E1 := Lib.hid e1
              have E2 := Lib.hid e2
              have E3 := Lib.hid e3
              clear e1 e2 e3 hb hfull hA1 hb2 hG1
              go_wp2_with fail
              refine (add_calls J bl bh _ x _ HR.out HG.out.fit HXW.out).mono ?_
              rintro e w3 ⟨rfl, hr3, hm3⟩
              rw [E1.out]
              rw [E2.out] at hr3
              have hlenP : ((JS.put (JS.setLink s x (-1)) (x : Int) ⟨true, true, (k : Int), ⟨#[122]⟩⟩).2.links.length : Int) = (s.links.length : Int) + 1 := by
                rw [put_links E3.out, len_old hr3.links.nodup hHB2, hl1]; omega
              have HLEN := Lib.hid hlenP
              have hA3 : Blk w3 H (hasArr s) 4 := (hm3.block H HA.out.lt HNE.out.1 HNE.out.2.1 HNE.out.2.2).trans HA.out
              have HB3 := Lib.hid (HB.out.trans (hm3.to_below (B := w.heap.size) HB.out.size HLE.out.1 HLE.out.2.1 HLE.out.2.2))
              have hc3 : w3.cell? ⟨H, x, none⟩ = some (.bool false) := (hA3.cell x).trans HCL.out
              have hf3 := hA3.free x
              have HR3 := Lib.hid (rep_kept hr3 (grown_set (grown_refl _ _) x (.bool true)) (fun e => HNE.out.1 (Option.some.inj e).symm) (fun e => HNE.out.2.1 (Option.some.inj e).symm) (fun e => HNE.out.2.2 (Option.some.inj e).symm))
              have hA3' := hA3.set x (.bool true)
              rw [HA1.out] at hA3'
              have HA3 := Lib.hid hA3'
              clear hr3 hA3 hA3' hm3 hcell hl1 hlenP hHB2
              go_wp2_with (first
                | (go_at_call 14; ((with_reducible refine (num_calls _ _).mono ?_); rintro e w' ⟨rfl, rfl⟩))
                | (go_at_call 27; ((with_reducible refine (whole_calls k (by omega) _ _).mono ?_); rintro e w4 ⟨rfl, hb4⟩)))
              have HB3' := HB3
              clear HB3
              have HB3 := Lib.hid (HB3'.out.setCell (p := ⟨H, x, none⟩) hHB (.bool true))
              clear HB3'
              refine (put_calls J bl bh _ _ x ⟨true, true, (k : Int), ⟨#[122]⟩⟩ _ (HR3.out.below hb4) HG1.out (by omega) HXW.out).mono ?_
              rintro e w5 ⟨v5, rfl, ht5, hr5, hm5⟩
              rw [E3.out]
              have hm35 := (Mv.of_below (J := J) (bl := bl) (bh := bh) hb4).trans hm5
              have hA5 : Blk w5 H (hasArr (JS.setLink s x (-1))) 4 := (hm35.block H HA3.out.lt HNE.out.1 HNE.out.2.1 HNE.out.2.2).trans HA3.out
              have HB5 := Lib.hid (HB3.out.trans (hm35.to_below (B := w.heap.size) HB3.out.size HLE.out.1 HLE.out.2.1 HLE.out.2.2))
              have hc5 : w5.cell? ⟨H, x, none⟩ = some (.bool true) := (hA5.cell x).trans HCL2.out
              have HR5 := Lib.hid hr5
              have HA5 := Lib.hid hA5
              clear hr5 hA5 hm5 hm35 ht5 hb4
              go_wp2_with fail
              go_quiet ((go_at_call 14; refine (num_calls _ _).mono ?_; rintro _ _ ⟨rfl, rfl⟩; exact ⟨rfl, _, rfl⟩))
              go_wp2_with fail
              refine ⟨⟨k + 1, (JS.put (JS.setLink s x (-1)) (x : Int) ⟨true, true, (k : Int), ⟨#[122]⟩⟩).2, by go_num, by omega, by omega, congrArg (Value.int .i64) HLEN.out.symm, HR5.out.drewN _, HG2.out, HAA.out ▸ HA5.out.drewN _, below_drewN HB5.out _, HSH.out⟩, ?_⟩
              simp [intOf]
              omega
      · have hl1 : (k : Int) < (len : Int) := by omega
        have hl2 : ((k : Int) < 60) = False := eq_false (by omega)
        go_wp2_with (first
          | (go_at_call 14; ((with_reducible refine (num_calls _ _).mono ?_); rintro e w' ⟨rfl, rfl⟩)))
        go_ret
        exact ⟨rfl, HB.out⟩
    · have hl1 : ((k : Int) < (len : Int)) = False := eq_false (by omega)
      go_wp2_with (first
        | (go_at_call 14; ((with_reducible refine (num_calls _ _).mono ?_); rintro e w' ⟨rfl, rfl⟩)))
      go_ret
      exact ⟨rfl, HB.out⟩

end Go.Proofs.Ytcpehjdnmhkcpaa.LLinks
