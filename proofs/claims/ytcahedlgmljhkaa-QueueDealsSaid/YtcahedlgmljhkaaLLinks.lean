/- QueueLinks, the walk. -/
import Derived.Test.YtcahedlgmljhkaaQK
import Derived.Deep.Slices
namespace Go.Proofs.Ytcahedlgmljhkaa.LLinks
open Go Go.RowKit Go.Maps Go.Proofs.Ytcahedlgmljhkaa.Mem Go.Proofs.Ytcahedlgmljhkaa.Plain Go.Proofs.Ytcahedlgmljhkaa.IMap Go.Proofs.Ytcahedlgmljhkaa.RowAt Go.Proofs.Ytcahedlgmljhkaa.QP Go.Proofs.Ytcahedlgmljhkaa.QG Go.Proofs.Ytcahedlgmljhkaa.QA Go.Proofs.Ytcahedlgmljhkaa.QH
open Go.Proofs.Ytcahedlgmljhkaa.QK (awake_calls blk_same)

/-- The numbers of the argument. -/
theorem nums_at {a : Option Addr} {len cap : Nat} {z : List Int} {w : World} (h : (a = none ∧ len = 0 ∧ cap = 0 ∧ z = []) ∨ ∃ x, a = some x ∧ len ≤ cap ∧ cap ≤ maxLen ∧ z.length = cap ∧ (∀ i, i < z.length → w.cell? (x.add i) = some (.int .i64 (z.getD i 0))) ∧ ∀ n ∈ z, (Lit.int .i64 n).wf = true) :
    len ≤ maxLen ∧ ∀ i, i < len → ∃ x n, a = some x ∧ w.cell? (x.add i) = some (.int .i64 n) := by
  rcases h with ⟨_, rfl, _⟩ | ⟨x, rfl, h1, h2, h3, h4, _⟩
  · exact ⟨Nat.zero_le _, fun i hi => by omega⟩
  · exact ⟨by omega, fun i hi => ⟨x, _, rfl, h4 i (by omega)⟩⟩

/-- A row that is full is its block. -/
theorem row_blk {w : World} {B g n : Nat} {e : TypeId} {xs : List Value} (h : w.ownsRow B e 1 (.slice (some ⟨g, 0, none⟩) n n) n xs) : Blk w g xs.toArray e := by
  rcases h.2 with ⟨h0, _⟩ | ⟨g', cap, cur, h0, _, hg, _, _, hs, ht⟩
  · cases h0
  · simp only [Value.slice.injEq, Option.some.injEq, Addr.mk.injEq] at h0
    obtain ⟨⟨rfl, _⟩, _, rfl⟩ := h0
    rw [List.take_of_length_le (by simp [hs])] at ht
    subst ht
    exact hg

def hasArr (s : QS) : Array Value := ((List.range 16).map fun (k : Nat) => Value.bool (s.has (k : Int))).toArray
theorem hasArr_at (s : QS) {k : Nat} (hk : k < 16) : (hasArr s)[k]? = some (.bool (s.has (k : Int))) := by
  unfold hasArr
  rw [List.getElem?_toArray, List.getElem?_map, List.getElem?_range hk]
  rfl
theorem hasArr_set {s s' : QS} {k : Nat} {v : Bool} (hk : k < 16) (h1 : s'.has (k : Int) = v) (h2 : ∀ y : Int, y ≠ k → s'.has y = s.has y) : (hasArr s).setIfInBounds k (.bool v) = hasArr s' := by
  refine Array.ext_getElem? fun i => ?_
  rw [Array.getElem?_setIfInBounds]
  by_cases e : k = i
  · subst e
    rw [if_pos rfl, hasArr_at s' hk, h1, if_pos (by simpa [hasArr] using hk)]
  · rw [if_neg e]
    by_cases hi : i < 16
    · rw [hasArr_at s hi, hasArr_at s' hi, h2 _ (by omega)]
    · rw [Array.getElem?_eq_none (by simp [hasArr]; omega), Array.getElem?_eq_none (by simp [hasArr]; omega)]
theorem hasArr_same {s s' : QS} (h : s'.keys = s.keys) : hasArr s' = hasArr s := by
  unfold hasArr QS.has
  rw [h]

theorem info4 : (Try.prog.info? 4).map (fun i => (i.zero, i.size, i.bytes)) = some (some (.bool false), 1, 1) := by kernel_rfl
theorem arr0 : (madeCells (Value.bool false).cells (16 * 1)).toList.toArray = hasArr (QS.new 1 true) := by kernel_rfl

variable {s : QS} {n : Nat} {x : Int}

/-- Nothing waits. -/
def Idle (s : QS) : Prop := ∀ k, k ∈ s.keys → s.waits k = []

theorem drain_keys (s : QS) (x : Int) : (s.drain x).keys = s.keys := by unfold QS.drain; split <;> rfl
theorem drain_idle (h : Idle s) : Idle (s.drain x) := by unfold QS.drain; split <;> exact h
theorem drop_in (h : Idle s) (hx : s.has x = true) : s.dropNum x = 0 ∧ s.drop x = { s with keys := s.keys.filter (· != x) } := by
  have e : s.dropNum x = 0 := by unfold QS.dropNum; rw [if_pos hx, if_pos (h x (has_spec.1 hx))]
  exact ⟨e, by unfold QS.drop; rw [if_pos e]⟩
theorem drop_out (hx : s.has x = false) : s.dropNum x = 2002 ∧ s.drop x = s := by
  have e : s.dropNum x = 2002 := by unfold QS.dropNum; rw [hx]; rfl
  exact ⟨e, by unfold QS.drop; rw [e]; rfl⟩
theorem has_filter (s : QS) (x y : Int) : ({ s with keys := s.keys.filter (· != x) } : QS).has y = (!decide (y = x) && s.has y) := by
  unfold QS.has
  rw [Bool.eq_iff_iff]
  simp only [List.any_eq_true, List.mem_filter, Bool.and_eq_true, Bool.not_eq_true', decide_eq_false_iff_not, beq_iff_eq, bne_iff_ne]
  constructor
  · rintro ⟨k, ⟨h1, h2⟩, rfl⟩; exact ⟨h2, k, h1, rfl⟩
  · rintro ⟨h1, k, h2, rfl⟩; exact ⟨k, ⟨h2, h1⟩, rfl⟩
theorem has_more (s : QS) (x y : Int) (d : Int → Bool) (W : Int → List Wt) : ({ s with keys := s.keys ++ [x], drains := d, waits := W } : QS).has y = (decide (y = x) || s.has y) := by
  unfold QS.has
  rw [Bool.eq_iff_iff]
  simp only [List.any_append, List.any_cons, List.any_nil, Bool.or_false, Bool.or_eq_true, decide_eq_true_eq, beq_iff_eq]
  constructor
  · rintro (h | h)
    · exact .inr h
    · exact .inl h.symm
  · rintro (h | h)
    · exact .inr h.symm
    · exact .inl h
theorem len_filter (hn : s.keys.Nodup) (hx : s.has x = true) : (s.keys.filter (· != x)).length + 1 = s.keys.length := by
  have h1 := sum_filter hn (fun _ => 1) (has_spec.1 hx)
  have e : ∀ l : List Int, (l.map fun _ => 1).sum = l.length := fun l => by
    induction l with
    | nil => rfl
    | cons y l ih => simp only [List.map_cons, List.sum_cons, List.length_cons, ih]; omega
  rw [e, e] at h1
  omega
theorem drop_idle (h : Idle s) : Idle { s with keys := s.keys.filter (· != x) } := fun k hk => h k (List.mem_filter.1 hk).1
theorem add_idle (h : Idle s) : Idle { s with keys := s.keys ++ [x], drains := upd s.drains x false, waits := upd s.waits x [] } := by
  intro k hk
  show upd s.waits x [] k = []
  unfold upd
  split
  · rfl
  · rename_i hne
    rcases List.mem_append.1 hk with hk | hk
    · exact h k hk
    · simp at hk; exact absurd hk hne

set_option maxHeartbeats 4000000 in
set_option maxRecDepth 100000 in
theorem links_walk (a : Option Addr) (len cap : Nat) (w : World) (hlm : len ≤ maxLen) (hz : ∀ i, i < len → ∃ x n, a = some x ∧ w.cell? (x.add i) = some (.int .i64 n)) : Calls Try.prog 6 #[.slice a len cap] w fun e w' => e = .returned (.bool true) ∧ Below w.heap.size w w' := by
  have HZ := Lib.hid hz
  unfold maxLen at hlm
  clear hz
  go_enter Try.func6, Try.ntmps6
  go_wp2_with fail
  refine (awake_calls _).mono ?_
  rintro e w0 ⟨rfl, hb0⟩
  go_wp2_with fail
  refine (new_at 1 true _ (by omega) (by omega)).mono ?_
  rintro e w1 ⟨q, rfl, h1⟩
  have HX1 := Lib.hid h1
  have hsz0 := hb0.size
  have HB0 := Lib.hid hb0
  clear h1 hb0
  obtain ⟨i4, hi4, hz40, hz41, hz42⟩ := info_parts info4
  go_wp2_with (first | (at_make; refine wpList_make_full _ rfl _ _ 43 rfl w1.heap.size 4 i4 (.bool false) 1 Try.underlying43 hi4 hz40 hz41 _ _ _ _ 16 rfl rfl rfl rfl (by omega) (by unfold maxLen; omega) (Nat.le_refl _) ?_; intro w2 hrow2 hgr2))
  have hb2 := row_blk hrow2
  rw [arr0] at hb2
  have HA2 := Lib.hid hb2
  have HX2 : Hid (At q w0.heap.size w0 w2 (QS.new 1 true) [w1.heap.size]) := Lib.hid (HX1.out.more hgr2 (Nat.le_refl _) (by have := hb2.lt; omega))
  have hHB : w0.heap.size ≤ w1.heap.size := HX1.out.base
  generalize w1.heap.size = H at *
  clear hb2 hrow2 hgr2 HX1
  go_wp2_with (first
    | (go_at_call 9; ((with_reducible refine (num_calls _ _).mono ?_); rintro e w' ⟨rfl, rfl⟩)))
  go_loopw [6, 7] (fun m i wr => ∃ (k : Nat) (s : QS), i = .int .i64 k ∧ k ≤ len ∧ k ≤ 60 ∧ m = .int .i64 s.keys.length ∧ At q w0.heap.size w0 wr s [H] ∧ QG.Good s 0 ∧ Blk wr H (hasArr s) 4 ∧ Idle s) (fun _ i _ => len - (intOf i).toNat)
  case atStart => exact ⟨0, QS.new 1 true, rfl, by omega, by omega, rfl, HX2.out, new_good 1 true (by omega) (by omega), HA2.out, fun k hk => by cases hk⟩
  case round =>
    obtain ⟨k, s, rfl, hk, hk60, rfl, hX, hG, hA, hI⟩ := hrel
    have HX := Lib.hid hX
    have HG := Lib.hid hG
    have HA := Lib.hid hA
    have HI := Lib.hid hI
    have hkn := hG.kn
    clear hX hG hA hI
    by_cases hlt : k < len
    · by_cases h60 : k < 60
      · have hl1 : (k : Int) < (len : Int) := by omega
        have hl2 : (k : Int) < 60 := by omega
        obtain ⟨xa, z, rfl, hz⟩ := HZ.out k hlt
        have hBX := HX.out.below
        have hz0 := (HB0.out.cell (World.block_lt_of_cell? w _ hz)).trans hz
        have hzr := (hBX.cell (World.block_lt_of_cell? w0 _ hz0)).trans hz0
        clear hz hBX hz0
        obtain ⟨x, hx, hx16⟩ : ∃ x : Nat, bits .and .i64 z 15 = (x : Int) ∧ x < 16 := by
          have h0 : 0 ≤ z % 16 := Int.emod_nonneg _ (by omega)
          have h1 : z % 16 < 16 := Int.emod_lt_of_pos _ (by omega)
          exact ⟨(z % 16).toNat, by rw [and15]; omega, by omega⟩
        have hk0 : (0 : Int) ≤ (k : Int) := by omega
        have hx0 : (0 : Int) ≤ (x : Int) := by omega
        have hx3 : (x : Int) < 16 := by omega
        have hxw : (Lit.int .i64 (x : Int)).wf = true := wf_i64_iff.2 (by omega)
        have HXW := Lib.hid hxw
        have hcell : wr.cell? ⟨H, x, none⟩ = some (.bool (s.has (x : Int))) := (HA.out.cell x).trans (hasArr_at s hx16)
        clear hxw
        by_cases hd : bits .and .i64 z 16 = 16
        · have hdb : (bits .and .i64 z 16 == 16) = true := by simp [hd]
          clear hd
          cases hb : s.has (x : Int) with
          | true =>
            rw [hb] at hcell
            obtain ⟨e1, e2⟩ := drop_in HI.out hb
            have hlen := len_filter HG.out.nodup hb
            have HLEN : Hid (((s.keys.filter (· != (x : Int))).length : Int) = (s.keys.length : Int) - 1) := Lib.hid (by omega)
            have hG2 := drop_good (x := (x : Int)) HG.out
            have hA2 : (hasArr s).setIfInBounds x (.bool false) = hasArr { s with keys := s.keys.filter (· != (x : Int)) } := hasArr_set hx16 (by rw [has_filter]; simp) (fun y hy => by rw [has_filter, decide_eq_false hy]; rfl)
            rw [e2] at hG2
            have HG2 := Lib.hid hG2
            have HAA := Lib.hid hA2
            have E1 := Lib.hid e1
            have E2 := Lib.hid e2
            clear hlen e1 e2 hG2 hA2 hb
            go_wp2_with fail
            refine (drop_at (x := (x : Int)) HX.out HXW.out).mono ?_
            rintro e w3 ⟨rfl, hx3', k3, hs3⟩
            rw [E1.out]
            rw [E2.out] at hx3'
            have HX3 := Lib.hid hx3'
            have hA3 := blk_same (k3 H (by simp)) HA.out
            have hc3 : w3.cell? ⟨H, x, none⟩ = some (.bool true) := ((hA3.cell x).trans ((HA.out.cell x).symm.trans hcell))
            have hf3 := hA3.free x
            have HA3 := Lib.hid hA3
            clear hx3' hA3 k3 hcell
            go_wp2_with fail
            go_quiet ((go_at_call 9; refine (num_calls _ _).mono ?_; rintro _ _ ⟨rfl, rfl⟩; exact ⟨rfl, _, rfl⟩))
            go_wp2_with fail
            refine ⟨⟨k + 1, { s with keys := s.keys.filter (· != (x : Int)) }, by go_num, by omega, by omega, congrArg (Value.int .i64) HLEN.out.symm, HX3.out.grown (grown_set (grown_drewN (grown_refl _ _) _) x _) (fun b hb => by cases hb; exact ⟨by simp, hHB⟩), HG2.out, HAA.out ▸ (HA3.out.drewN _).set x _, drop_idle HI.out⟩, ?_⟩
            simp [intOf]
            omega
          | false =>
            rw [hb] at hcell
            obtain ⟨e1, e2⟩ := drop_out hb
            have E1 := Lib.hid e1
            have E2 := Lib.hid e2
            clear e1 e2 hb
            go_wp2_with fail
            refine (drop_at (x := (x : Int)) HX.out HXW.out).mono ?_
            rintro e w3 ⟨rfl, hx3', k3, hs3⟩
            rw [E1.out]
            rw [E2.out] at hx3'
            have HX3 := Lib.hid hx3'
            have hA3 := blk_same (k3 H (by simp)) HA.out
            have hc3 : w3.cell? ⟨H, x, none⟩ = some (.bool false) := ((hA3.cell x).trans ((HA.out.cell x).symm.trans hcell))
            have HA3 := Lib.hid hA3
            clear hx3' hA3 k3 hcell
            go_wp2_with fail
            go_quiet ((go_at_call 9; refine (num_calls _ _).mono ?_; rintro _ _ ⟨rfl, rfl⟩; exact ⟨rfl, _, rfl⟩))
            go_wp2_with fail
            refine ⟨⟨k + 1, s, by go_num, by omega, by omega, rfl, HX3.out.drewN _, HG.out, HA3.out.drewN _, HI.out⟩, ?_⟩
            simp [intOf]
            omega
        · have hdb : (bits .and .i64 z 16 == 16) = false := by simp [hd]
          cases hb : s.has (x : Int) with
          | true =>
            rw [hb] at hcell
            have e1 : s.addNum (x : Int) = 2000 := by unfold QS.addNum; rw [if_pos (.inr hb)]
            have e2 : s.add (x : Int) = s := by unfold QS.add; rw [e1]; rfl
            have e3 : s.drainNum (x : Int) = 0 := by unfold QS.drainNum; rw [if_pos hb]
            have HK := Lib.hid (drain_keys s (x : Int))
            have HG2 := Lib.hid (drain_good (x := (x : Int)) HG.out)
            have HI2 := Lib.hid (drain_idle (x := (x : Int)) HI.out)
            have E1 := Lib.hid e1
            have E2 := Lib.hid e2
            have E3 := Lib.hid e3
            have HCL := Lib.hid ((HA.out.cell x).symm.trans hcell)
            clear e1 e2 e3 hb hcell
            go_wp2_with fail
            refine (add_at (x := (x : Int)) HX.out hkn HXW.out).mono ?_
            rintro e w3 ⟨rfl, hx3', k3, hs3⟩
            rw [E1.out]
            rw [E2.out] at hx3'
            have HX3 := Lib.hid hx3'
            have hA3 := blk_same (k3 H (by simp)) HA.out
            have hc3 : w3.cell? ⟨H, x, none⟩ = some (.bool true) := (hA3.cell x).trans HCL.out
            have HA3 := Lib.hid hA3
            clear hx3' hA3 k3
            go_wp2_with fail
            go_quiet ((go_at_call 9; refine (num_calls _ _).mono ?_; rintro _ _ ⟨rfl, rfl⟩; exact ⟨rfl, _, rfl⟩))
            go_wp2_with (first
              | (go_at_call 9; ((with_reducible refine (num_calls _ _).mono ?_); rintro e w' ⟨rfl, rfl⟩)))
            refine (drain_at (x := (x : Int)) (HX3.out.drewN _) HXW.out).mono ?_
            rintro e w5 ⟨rfl, hx5, k5, hs5⟩
            rw [E3.out]
            have HX5 := Lib.hid hx5
            have hA5 := blk_same (k5 H (by simp)) (HA3.out.drewN _)
            have hc5 : w5.cell? ⟨H, x, none⟩ = some (.bool true) := (hA5.cell x).trans HCL.out
            have HA5 := Lib.hid hA5
            clear hx5 hA5 k5 hc3
            go_wp2_with fail
            go_quiet ((go_at_call 9; refine (num_calls _ _).mono ?_; rintro _ _ ⟨rfl, rfl⟩; exact ⟨rfl, _, rfl⟩))
            go_wp2_with fail
            refine ⟨⟨k + 1, s.drain (x : Int), by go_num, by omega, by omega, congrArg (fun l : List Int => Value.int .i64 (l.length : Int)) HK.out.symm, HX5.out.drewN _, HG2.out, hasArr_same HK.out ▸ HA5.out.drewN _, HI2.out⟩, ?_⟩
            simp [intOf]
            omega
          | false =>
            rw [hb] at hcell
            by_cases hfull : 8 ≤ s.keys.length
            · have hfi : (8 : Int) ≤ (s.keys.length : Int) := by omega
              have e1 : s.addNum (x : Int) = 2001 := by unfold QS.addNum; rw [if_neg (by rw [hb]; simp), if_pos hfull]
              have e2 : s.add (x : Int) = s := by unfold QS.add; rw [e1]; rfl
              have e3 : s.drainNum (x : Int) = 2002 := by unfold QS.drainNum; rw [hb]; rfl
              have e4 : s.drain (x : Int) = s := by unfold QS.drain; rw [hb]; rfl
              have E1 := Lib.hid e1
              have E2 := Lib.hid e2
              have E3 := Lib.hid e3
              have E4 := Lib.hid e4
              have HCL := Lib.hid ((HA.out.cell x).symm.trans hcell)
              clear e1 e2 e3 e4 hb hcell hfull
              go_wp2_with fail
              refine (add_at (x := (x : Int)) HX.out hkn HXW.out).mono ?_
              rintro e w3 ⟨rfl, hx3', k3, hs3⟩
              rw [E1.out]
              rw [E2.out] at hx3'
              have HX3 := Lib.hid hx3'
              have hA3 := blk_same (k3 H (by simp)) HA.out
              have hc3 : w3.cell? ⟨H, x, none⟩ = some (.bool false) := (hA3.cell x).trans HCL.out
              have HA3 := Lib.hid hA3
              clear hx3' hA3 k3
              go_wp2_with fail
              go_quiet ((go_at_call 9; refine (num_calls _ _).mono ?_; rintro _ _ ⟨rfl, rfl⟩; exact ⟨rfl, _, rfl⟩))
              go_wp2_with (first
                | (go_at_call 9; ((with_reducible refine (num_calls _ _).mono ?_); rintro e w' ⟨rfl, rfl⟩)))
              refine (drain_at (x := (x : Int)) (HX3.out.drewN _) HXW.out).mono ?_
              rintro e w5 ⟨rfl, hx5, k5, hs5⟩
              rw [E3.out]
              rw [E4.out] at hx5
              have HX5 := Lib.hid hx5
              have hA5 := blk_same (k5 H (by simp)) (HA3.out.drewN _)
              have hc5 : w5.cell? ⟨H, x, none⟩ = some (.bool false) := (hA5.cell x).trans HCL.out
              have HA5 := Lib.hid hA5
              clear hx5 hA5 k5 hc3
              go_wp2_with fail
              go_quiet ((go_at_call 9; refine (num_calls _ _).mono ?_; rintro _ _ ⟨rfl, rfl⟩; exact ⟨rfl, _, rfl⟩))
              go_wp2_with fail
              refine ⟨⟨k + 1, s, by go_num, by omega, by omega, rfl, HX5.out.drewN _, HG.out, HA5.out.drewN _, HI.out⟩, ?_⟩
              simp [intOf]
              omega
            · have hfi : ((8 : Int) ≤ (s.keys.length : Int)) = False := eq_false (by omega)
              have hfl : (s.keys.length : Int) < 8 := by omega
              have e1 : s.addNum (x : Int) = 0 := by unfold QS.addNum; rw [if_neg (by rw [hb]; simp), if_neg hfull]
              have e2 : s.add (x : Int) = { s with keys := s.keys ++ [(x : Int)], drains := upd s.drains (x : Int) false, waits := upd s.waits (x : Int) [] } := by unfold QS.add; rw [e1]; rfl
              have hG1 := add_good (x := (x : Int)) HG.out (by omega)
              have hI1 := add_idle (x := (x : Int)) HI.out
              rw [e2] at hG1
              have hA1 : (hasArr s).setIfInBounds x (.bool true) = hasArr { s with keys := s.keys ++ [(x : Int)], drains := upd s.drains (x : Int) false, waits := upd s.waits (x : Int) [] } := hasArr_set hx16 (by rw [has_more]; simp) (fun y hy => by rw [has_more, decide_eq_false hy]; rfl)
              have hl1' : (({ s with keys := s.keys ++ [(x : Int)], drains := upd s.drains (x : Int) false, waits := upd s.waits (x : Int) [] } : QS).keys.length : Int) = (s.keys.length : Int) + 1 := by simp
              have hb1 : ({ s with keys := s.keys ++ [(x : Int)], drains := upd s.drains (x : Int) false, waits := upd s.waits (x : Int) [] } : QS).has (x : Int) = true := by rw [has_more]; simp
              obtain ⟨s1, hs1⟩ : ∃ s1 : QS, ({ s with keys := s.keys ++ [(x : Int)], drains := upd s.drains (x : Int) false, waits := upd s.waits (x : Int) [] } : QS) = s1 := ⟨_, rfl⟩
              rw [hs1] at e2 hG1 hI1 hA1 hl1' hb1
              have e3 : s1.drainNum (x : Int) = 0 := by unfold QS.drainNum; rw [if_pos hb1]
              have HK := Lib.hid (drain_keys s1 (x : Int))
              have HLEN : Hid (((s1.drain (x : Int)).keys.length : Int) = (s.keys.length : Int) + 1) := Lib.hid (by rw [HK.out]; exact hl1')
              have HG2 := Lib.hid (drain_good (x := (x : Int)) hG1)
              have HI2 := Lib.hid (drain_idle (x := (x : Int)) hI1)
              have HA1 := Lib.hid hA1
              have HCL1 : Hid ((hasArr s1)[x]? = some (.bool true)) := Lib.hid (by rw [hasArr_at _ hx16, hb1])
              have E1 := Lib.hid e1
              have E2 := Lib.hid e2
              have E3 := Lib.hid e3
              have HCL := Lib.hid ((HA.out.cell x).symm.trans hcell)
              clear e1 e2 e3 hb hcell hfull hG1 hI1 hA1 hl1' hb1 hs1
              go_wp2_with fail
              refine (add_at (x := (x : Int)) HX.out hkn HXW.out).mono ?_
              rintro e w3 ⟨rfl, hx3', k3, hs3⟩
              rw [E1.out]
              rw [E2.out] at hx3'
              have HX3 := Lib.hid hx3'
              have hA3 := blk_same (k3 H (by simp)) HA.out
              have hc3 : w3.cell? ⟨H, x, none⟩ = some (.bool false) := (hA3.cell x).trans HCL.out
              have hf3 := hA3.free x
              have HA3 := Lib.hid hA3
              clear hx3' hA3 k3
              go_wp2_with fail
              go_quiet ((go_at_call 9; refine (num_calls _ _).mono ?_; rintro _ _ ⟨rfl, rfl⟩; exact ⟨rfl, _, rfl⟩))
              have HX4 := Lib.hid (HX3.out.grown (grown_set (grown_drewN (grown_refl w3 (some H)) nq) x (.bool true)) (fun b hb => by cases hb; exact ⟨by simp, hHB⟩))
              have hA4 := (HA3.out.drewN nq).set x (.bool true)
              rw [HA1.out] at hA4
              have HA4 := Lib.hid hA4
              clear hA4
              go_wp2_with (first
                | (go_at_call 9; ((with_reducible refine (num_calls _ _).mono ?_); rintro e w' ⟨rfl, rfl⟩)))
              refine (drain_at (x := (x : Int)) HX4.out HXW.out).mono ?_
              rintro e w5 ⟨rfl, hx5, k5, hs5⟩
              rw [E3.out]
              have HX5 := Lib.hid hx5
              have hA5 := blk_same (k5 H (by simp)) HA4.out
              have hc5 : w5.cell? ⟨H, x, none⟩ = some (.bool true) := (hA5.cell x).trans HCL1.out
              have HA5 := Lib.hid hA5
              clear hx5 hA5 k5 hc3
              go_wp2_with fail
              go_quiet ((go_at_call 9; refine (num_calls _ _).mono ?_; rintro _ _ ⟨rfl, rfl⟩; exact ⟨rfl, _, rfl⟩))
              go_wp2_with fail
              refine ⟨⟨k + 1, s1.drain (x : Int), by go_num, by omega, by omega, congrArg (Value.int .i64) HLEN.out.symm, HX5.out.drewN _, HG2.out, hasArr_same HK.out ▸ HA5.out.drewN _, HI2.out⟩, ?_⟩
              simp [intOf]
              omega
      · have hl1 : (k : Int) < (len : Int) := by omega
        have hl2 : ((k : Int) < 60) = False := eq_false (by omega)
        go_wp2_with (first
          | (go_at_call 9; ((with_reducible refine (num_calls _ _).mono ?_); rintro e w' ⟨rfl, rfl⟩)))
        go_ret
        exact ⟨rfl, HB0.out.trans (HX.out.below.mono hsz0)⟩
    · have hl1 : ((k : Int) < (len : Int)) = False := eq_false (by omega)
      go_wp2_with (first
        | (go_at_call 9; ((with_reducible refine (num_calls _ _).mono ?_); rintro e w' ⟨rfl, rfl⟩)))
      go_ret
      exact ⟨rfl, HB0.out.trans (HX.out.below.mono hsz0)⟩

end Go.Proofs.Ytcahedlgmljhkaa.LLinks
