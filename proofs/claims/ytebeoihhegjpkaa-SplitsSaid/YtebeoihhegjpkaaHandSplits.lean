/- Statement Splits, the walk: split.Cut answers the document's fragments, twice, the sizes stay, and an answer that is spoilt spoils no other. -/
import Derived.Test.YtebeoihhegjpkaaHandLend
import Derived.Test.YtebeoihhegjpkaaCutBSplits
import Derived.Test.YtebeoihhegjpkaaHandSplitOne
namespace Go.Proofs.Ytebeoihhegjpkaa.HandSplits
open Go.RowKit Go.Proofs.Ytebeoihhegjpkaa.PSplits Go.Proofs.YtebeoihhegjpkaaW.PrintWords Go.Proofs.YtebeoihhegjpkaaW.PrintLast Go.Proofs.YtebeoihhegjpkaaW.PrintMore Go.Proofs.Ytebeoihhegjpkaa.Plain Go.Proofs.Ytebeoihhegjpkaa.HandLend Go.Proofs.Ytebeoihhegjpkaa.Mem

theorem awake_calls (w : World) : Calls Try.prog 15 #[] w fun e w' => e = .returned (.bool true) ∧ Below w.heap.size w w' := HandOne.awake_calls w
theorem num_calls (x : Int) (w : World) : Calls Try.prog 12 #[.int .i64 x] w fun e w' => e = .returned (.int .i64 x) ∧ w = w' := HandOne.num_calls x w

/-- The fragments' own block. -/
theorem frags_block {w : World} {base : Nat} {ok : Nat → Prop} {v : Value} {r : List S39} (h : Kd.R k39 39 w base ok v r) :
    v = .slice none 0 0 ∧ r = [] ∨ ∃ g c cur, v = .slice (some ⟨g, 0, none⟩) r.length c ∧ base ≤ g ∧ Blk w g cur 39 ∧ ∀ i, i < r.length → ∃ x, cur[i * 4 + 2]? = some (.int .i64 x) := by
  obtain ⟨A, c, rfl, hl, hC⟩ := Kd.R_reads h
  obtain ⟨inner, ho⟩ := Kd.R_own h
  rcases ho.2 with ⟨e, hz⟩ | ⟨g, cap, cur, e, hb, hh, hn, hm, hsz, ht⟩
  · exact .inl ⟨e, List.length_eq_zero_iff.1 hz⟩
  · right
    simp only [Value.slice.injEq] at e
    obtain ⟨rfl, _, rfl⟩ := e
    refine ⟨g, c, cur, rfl, hb, hh, fun i hi => ?_⟩
    obtain ⟨ad, e, c0, c1, c2, c3⟩ := at_T39 hC (i : Int) (by omega) (by omega)
    obtain rfl : (⟨g, 0, none⟩ : Addr) = ad := Option.some.inj e
    simp only [Int.toNat_natCast, add_plain] at c2
    have hblk : Blk w g cur 39 := hh
    rw [hblk.cell] at c2
    exact ⟨_, c2⟩

/-- The cells of what was lent. -/
theorem lent_cell {w : World} {g : Nat} {cur : Array Value} {l : List Int} (hb : w.heap[g]? = some (.cells cur 3 (0, 0))) (ht : cur.toList.take (l.length + 2) = (l ++ [-7777, -8888]).map (Value.int .i64)) (i : Nat) (hi : i < l.length + 2) :
    w.cell? ⟨g, i, none⟩ = some (.int .i64 ((l ++ [-7777, -8888]).getD i 0)) := by
  have hblk : Blk w g cur 3 := hb
  rw [hblk.cell]
  have h1 : cur[i]? = (cur.toList.take (l.length + 2))[i]? := by rw [List.getElem?_take_of_lt hi]; simp
  rw [h1, ht, List.getElem?_map, List.getD_eq_getElem?_getD, List.getElem?_eq_getElem (by simp; omega)]
  rfl

theorem lent_reads {w : World} {g : Nat} {l : List Int} (hl : l.length * 8 ≤ 140737488351232) (h : ∀ i, i < l.length + 2 → w.cell? ⟨g, i, none⟩ = some (.int .i64 ((l ++ [-7777, -8888]).getD i 0))) : Kd.C (Kd.int .i64) w (some ⟨g, 0, none⟩) l.length l := by
  refine ⟨rfl, by omega, fun _ => ⟨_, rfl, fun j p hp => ⟨[.int .i64 p], rfl, rfl, fun i u hu => ?_⟩⟩⟩
  have hj : j < l.length := (List.getElem?_eq_some_iff.1 hp).1
  cases i with
  | zero =>
    simp at hu
    subst hu
    have hs : j * (Kd.int .i64).sz + 0 = j := Nat.mul_one j
    rw [hs, add_plain, h j (by omega), List.getD_eq_getElem?_getD, List.getElem?_append_left hj, hp]
    rfl
  | succ i => simp at hu

theorem lent_low {w : World} {g : Nat} {l : List Int} (h : ∀ i, i < l.length + 2 → w.cell? ⟨g, i, none⟩ = some (.int .i64 ((l ++ [-7777, -8888]).getD i 0))) : ∀ i, i < l.length → w.cell? ⟨g, i, none⟩ = some (.int .i64 (l.getD i 0)) := by
  intro i hi
  rw [h i (by omega), List.getD_eq_getElem?_getD, List.getElem?_append_left hi, ← List.getD_eq_getElem?_getD]
theorem lent_one {w : World} {g : Nat} {l : List Int} (h : ∀ i, i < l.length + 2 → w.cell? ⟨g, i, none⟩ = some (.int .i64 ((l ++ [-7777, -8888]).getD i 0))) : w.cell? ⟨g, l.length, none⟩ = some (.int .i64 (-7777)) := by
  rw [h _ (by omega), List.getD_eq_getElem?_getD, List.getElem?_append_right (Nat.le_refl _)]
  simp
theorem lent_two {w : World} {g : Nat} {l : List Int} (h : ∀ i, i < l.length + 2 → w.cell? ⟨g, i, none⟩ = some (.int .i64 ((l ++ [-7777, -8888]).getD i 0))) : w.cell? ⟨g, l.length + 1, none⟩ = some (.int .i64 (-8888)) := by
  rw [h _ (by omega), List.getD_eq_getElem?_getD, List.getElem?_append_right (by omega)]
  simp
theorem reads_low {w : World} {A : Option Addr} {l : List Int} (h : Kd.C (Kd.int .i64) w A l.length l) : ∀ i, i < l.length → ∃ b, A = some b ∧ w.cell? (b.add i) = some (.int .i64 (l.getD i 0)) := by
  intro i hi
  obtain ⟨ad, e, hc⟩ := h.2.2 (by omega)
  obtain ⟨cc, h1, h2, h3⟩ := hc i _ (List.getElem?_eq_getElem hi)
  have h2' : cc = [Value.int .i64 l[i]] := h2
  have := h3 0 (.int .i64 l[i]) (by rw [h2']; rfl)
  have hs : i * (Kd.int .i64).sz + 0 = i := Nat.mul_one i
  rw [hs] at this
  refine ⟨ad, e, ?_⟩
  rw [this, List.getD_eq_getElem?_getD, List.getElem?_eq_getElem hi]
  rfl
theorem drawn_below {w w' : World} (h : Drawn0 w w') : Below w.heap.size w w' := by
  obtain ⟨n, rfl⟩ := h
  exact below_drewN (Below.refl _ _) n

theorem spoil_nil (w : World) : Calls Try.prog 14 #[.slice none 0 0] w fun e w' => e = .returned (.tuple #[]) ∧ w = w' := by
  go_enter Try.func14, Try.ntmps14
  go_wp2
  refine wp_loop_rounds 1 ?_
  rw [rounds_succ]
  go_wp2
  go_end0
  exact ⟨rfl, rfl⟩

theorem spoil_any {w : World} {base top c : Nat} {A : Option Addr} {r : List S39} (hr : r.length ≤ 64) (h : Kd.R k39 39 w base (fun _ => True) (.slice A r.length c) r) (ht : ∀ k, (Value.slice A r.length c).ownBlock = some k → k < top) :
    Calls Try.prog 14 #[.slice A r.length c] w fun e w' => e = .returned (.tuple #[]) ∧ ∃ row, w.grownBy w' row ∧ ∀ k, row = some k → base ≤ k ∧ k < top := by
  rcases frags_block h with ⟨e, rfl⟩ | ⟨g, c', cur, e, hb, hblk, hc⟩
  · rw [e]
    exact (spoil_nil w).mono fun _ _ ⟨h1, h2⟩ => ⟨h1, none, h2 ▸ grown_refl _ _, fun k hk => by cases hk⟩
  · rw [e] at ht ⊢
    exact (spoil_calls g r.length c' cur w hr hblk hc).mono fun _ _ ⟨h1, h2⟩ => ⟨h1, some g, h2, fun k hk => by cases hk; exact ⟨hb, ht _ rfl⟩⟩

set_option maxHeartbeats 2000000 in
set_option maxRecDepth 100000 in
theorem splits_any (s : ByteArray) (A : Option Addr) (c : Nat) (l : List Int) (seq : Int) (short : Bool) (w : World) (hr : Kd.C (Kd.int .i64) w A l.length l) (hc : l.length ≤ c) (hl : l.length * 8 ≤ 140737488351232) :
    Calls Try.prog 3 #[.string s, .slice A l.length c, .int .i64 seq, .bool short] w fun e w' => e = .returned (.bool true) ∧ Below w.heap.size w w' := by
  obtain ⟨r, e0, hcut⟩ := cut_some s l seq short 300 (by omega)
  have hrl := pieces_le (by omega) hcut
  have href := ref_cut s l seq short 300 1700 (by omega) (by omega)
  rw [hcut] at href
  have HCUT := Lib.hid hcut
  have HREF := Lib.hid href
  have HR := Lib.hid hr
  have HC := Lib.hid hc
  clear hcut href hr hc
  go_enter Try.func3, Try.ntmps3
  go_wp2_with (first | (go_at_call 8; refine (lend_calls A c l w HR.out HC.out hl).mono ?_; rintro e w1 ⟨g, cap, cur, rfl, hcap, hmax, hblk, hsz, htake, hb1⟩; have HBLK := Lib.hid hblk; have HSZ := Lib.hid hsz; have HTK := Lib.hid htake; clear hblk hsz htake))
  have hcell := fun i hi => lent_cell HBLK.out HTK.out i hi
  have hC1 := lent_reads hl hcell
  have HCELL := Lib.hid hcell
  have HC1 := Lib.hid hC1
  clear hcell hC1 HBLK HSZ HTK
  refine (split_Cut.calls 300 s _ cap l seq short r e0 _ HC1.out (by omega) HCUT.out).mono ?_
  rintro e w2 ⟨v1, rfl, hR1, hb2⟩
  have HC2 := Lib.hid (Kd.C_below HC1.out hb2)
  have HR1 := Lib.hid hR1
  have HLT := Lib.hid (fun k hk => own_lt (Kd.R_own hR1).choose_spec k hk : ∀ k, v1.ownBlock = some k → k < w2.heap.size)
  clear hR1
  go_wp2_with fail
  refine (split_Cut.calls 300 s _ cap l seq short r e0 _ HC2.out (by omega) HCUT.out).mono ?_
  rintro e w3 ⟨v2, rfl, hR2, hb3⟩
  have HR2 := Lib.hid hR2
  clear hR2
  go_wp2_with fail
  have hB2 := hb1.trans (hb2.mono hb1.size)
  have hB3 := hB2.trans (hb3.mono hB2.size)
  refine (withyref17_Cut.calls 1700 s A c l seq short r e0 _ (Kd.C_below HR.out hB3) HC.out HREF.out).mono ?_
  rintro e w4 ⟨v3, rfl, hR3, hb4⟩
  have HR3 := Lib.hid hR3
  clear hR3
  have hB4 := hB3.trans (hb4.mono hB3.size)
  have R1 := Kd.R_below (Kd.R_below HR1.out hb3) hb4
  have R2 := Kd.R_below HR2.out hb4
  obtain ⟨A1, c1, rfl, hl1, C1⟩ := Kd.R_reads R1
  obtain ⟨A3, c3, rfl, hl3, C3⟩ := Kd.R_reads HR3.out
  have RR1 := Lib.hid R1
  have RR2 := Lib.hid R2
  have CC1 := Lib.hid C1
  have CC3 := Lib.hid C3
  clear R1 R2 C1 C3 HR1 HR2
  go_wp2_with fail
  refine (withylaw0_SameFrags.calls 100 A1 c1 r A3 c3 r true _ CC1.out hl1 CC3.out hl3 (same_self r hrl 100 (by omega))).mono ?_
  rintro e w5 ⟨rfl, hd⟩
  have hB45 : Below w4.heap.size w4 w5 := drawn_below hd
  have hB14 : Below w1.heap.size w1 w4 := (hb2.trans (hb3.mono hb2.size)).trans (hb4.mono (Nat.le_trans hb2.size hb3.size))
  have hB15 : Below w1.heap.size w1 w5 := hB14.trans (hB45.mono hB14.size)
  have hB5 : Below w.heap.size w w5 := hB4.trans (hB45.mono hB4.size)
  have R1 := Kd.R_below RR1.out hB45
  have R2 := Kd.R_below RR2.out hB45
  have R3 := Kd.R_below HR3.out hB45
  have CA := Kd.C_below HR.out hB5
  have LC : ∀ i, i < l.length + 2 → w5.cell? ⟨g, i, none⟩ = some (.int .i64 ((l ++ [-7777, -8888]).getD i 0)) := fun i hi => by
    have h := HCELL.out i hi
    exact (hB15.cell (World.block_lt_of_cell? w1 _ h)).trans h
  have HD := Lib.hid hd
  have QR1 := Lib.hid R1
  have QR2 := Lib.hid R2
  have QR3 := Lib.hid R3
  have QCA := Lib.hid CA
  have QLC := Lib.hid LC
  clear R1 R2 R3 CA LC hd HCELL HC1 HC2 RR1 RR2 CC1 CC3 HR3
  go_wp2_with (first
    | (go_at_call 12; refine (num_calls _ _).mono ?_; rintro e w' ⟨rfl, rfl⟩)
    | (go_at_call 13; refine (kept_calls g cap A l.length c l _ (by omega) hcap (lent_low QLC.out) (reads_low QCA.out) (lent_one QLC.out) (lent_two QLC.out)).mono ?_; rintro e w6 ⟨rfl, nq, rfl⟩))
  have HSP := spoil_any (c := c1) hrl (Kd.R_below QR1.out (below_drewN (Below.refl _ _) nq)) HLT.out
  refine HSP.mono ?_
  rintro e w7 ⟨rfl, rw7, hgr, hrw⟩
  have hB7 : Below w.heap.size w w7 := (below_drewN hB5 nq).grown hgr (by have := hB5.size; exact this) (fun k hk => Nat.le_trans hb1.size (hrw k hk).1)
  have R2 : k39.R 39 w7 w2.heap.size (fun _ => True) v2 r := Kd.R_mono (Kd.R_grown (Kd.R_bound (Kd.R_below QR2.out (below_drewN (Below.refl _ _) nq))) hgr (fun k hk e => by have := (hrw k e.symm).2; have := hk.2.1; omega)) (fun _ _ => trivial)
  have R3 : k39.R 39 w7 w3.heap.size (fun _ => True) (.slice A3 r.length c3) r := Kd.R_mono (Kd.R_grown (Kd.R_bound (Kd.R_below QR3.out (below_drewN (Below.refl _ _) nq))) hgr (fun k hk e => by have := (hrw k e.symm).2; have := hk.2.1; have := hb3.size; omega)) (fun _ _ => trivial)
  obtain ⟨A2, c2, rfl, hl2, C2⟩ := Kd.R_reads R2
  have C3 : Kd.C k39 w7 A3 r.length r := by
    obtain ⟨A', c', e, _, hC⟩ := Kd.R_reads R3
    simp only [Value.slice.injEq] at e
    rw [e.1]
    exact hC
  have D2 := Lib.hid C2
  have D3 := Lib.hid C3
  clear C2 C3 R2 R3 hrw hgr HSP QR1 QR2 QR3 QCA QLC HLT
  go_wp2_with (first
    | (go_at_call 11; refine (withylaw0_SameFrags.calls 100 A2 c2 r A3 c3 r true _ D2.out hl2 D3.out hl3 (same_self r hrl 100 (by omega))).mono ?_; rintro e w8 ⟨rfl, hd8⟩)
    | (go_at_call 15; refine (awake_calls _).mono ?_; rintro e w9 ⟨rfl, hb9⟩))
  go_ret
  have hB8 := hB7.trans ((drawn_below hd8).mono hB7.size)
  exact ⟨rfl, hB8.trans (hb9.mono hB8.size)⟩

theorem splits_walk (a0 : ByteArray) (a1 : Option Addr) (len1 cap1 : Nat) (z1 : List Int) (a2 : Int) (a3 : Bool) (w : World) (w1 : (a1 = none ∧ len1 = 0 ∧ cap1 = 0 ∧ z1 = []) ∨ ∃ x, a1 = some x ∧ len1 ≤ cap1 ∧ cap1 ≤ maxLen ∧ z1.length = cap1 ∧ (∀ i, i < z1.length → w.cell? (x.add i) = some (.int .i64 (z1.getD i 0))) ∧ ∀ n ∈ z1, (Lit.int .i64 n).wf = true) (y1 : len1 * 8 ≤ 140737488351232) :
    Calls Try.prog 3 #[.string a0, .slice a1 len1 cap1, .int .i64 a2, .bool a3] w fun e w' => e = .returned (.bool true) ∧ Below w.heap.size w w' := by
  obtain ⟨l1, rfl, hr1, hm1, hw1, hc1⟩ := ReadsInt.ofRowC w1
  exact splits_any a0 a1 cap1 l1 a2 a3 w (Kd.C_of_reads (d := (0 : Int)) (h1 := fun _ => rfl) hr1) hc1 y1

end Go.Proofs.Ytebeoihhegjpkaa.HandSplits
