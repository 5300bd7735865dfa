/- Statement MpSeqs, the walk: which numbers there are in each form; the bits stand where they must. -/
import Derived.Test.YtgmoeghhigfmhaaPMpFormsx4
import Derived.Test.YtgmoeghhigfmhaaMpAMpForms
import Derived.Test.YtgmoeghhigfmhaaMem
import Derived.Lib.Hide
import Derived.Lib.ConvBytes
namespace Go.Proofs.Ytgmoeghhigfmhaa.HandMpSeqs
open Go Go.RowKit Go.Proofs.Ytgmoeghhigfmhaa.PMpForms Go.Proofs.YtgmoeghhigfmhaaW.PrintWords Go.Proofs.YtgmoeghhigfmhaaW.PrintLast Go.Proofs.YtgmoeghhigfmhaaW.PrintMore Go.Proofs.Ytgmoeghhigfmhaa.Plain Go.Proofs.Ytgmoeghhigfmhaa.Mem

theorem awake_ok {k : Nat} (hk : 20 ≤ k) : withylaw8_awake.f k = some true :=
  at_rounds (g := withylaw8_awake.f) withylaw8_awake.mono hk (by kernel_rfl)
theorem awake_calls (w : World) : Calls Try.prog 12 #[] w fun e w' => e = .returned (.bool true) ∧ Below w.heap.size w w' := withylaw8_awake.calls 20 true w (awake_ok (Nat.le_refl _))

theorem num_calls (x : Int) (w : World) : Calls Try.prog 11 #[.int .i64 x] w fun e w' => e = .returned (.int .i64 x) ∧ w = w' := by
  go_enter Try.func11, Try.ntmps11
  go_wp2
  go_ret
  exact ⟨rfl, rfl⟩

/-- The one byte of data. -/
def dS : ByteArray := ⟨#[100]⟩

theorem put_no (b e short : Bool) (q : Int) (w : World) (h : q < 0 ∨ ringOf short ≤ q) : Calls Try.prog 7 #[.agg #[.bool b, .bool e, .int .i64 q, .string ⟨#[100]⟩], .bool short] w fun x w' => x = .returned (.tuple #[.string ⟨#[]⟩, .int .i64 801]) ∧ Below w.heap.size w w' := by
  refine mphead_Put.calls 3 b e q _ short _ _ w ?_
  rw [put_f 3 (by omega)]
  unfold putF
  rw [if_pos (by omega)]

theorem put_yes (b e short : Bool) (q : Int) (w : World) (h0 : 0 ≤ q) (h1 : q < ringOf short) : Calls Try.prog 7 #[.agg #[.bool b, .bool e, .int .i64 q, .string ⟨#[100]⟩], .bool short] w fun x w' => x = .returned (.tuple #[.string (strOfNums (headOf b e q short) ++ dS), .int .i64 0]) ∧ Below w.heap.size w w' := by
  refine mphead_Put.calls 3 b e q _ short _ _ w ?_
  rw [put_f 3 (by omega)]
  unfold putF
  have hd : (⟨#[100]⟩ : ByteArray).size = 1 := rfl
  rw [if_neg (by omega)]
  rfl

set_option maxHeartbeats 2000000 in
set_option maxRecDepth 100000 in
theorem seqs_no (q : Int) (b e short : Bool) (w : World) (h : q < 0 ∨ ringOf short ≤ q) :
    Calls Try.prog 5 #[.int .i64 q, .bool b, .bool e, .bool short] w fun x w' => x = .returned (.bool true) ∧ Below w.heap.size w w' := by
  have H := Lib.hid h
  cases short
  · have h3 : q < 0 ∨ 16777216 ≤ q := h
    clear h
    by_cases hq : q < 0
    all_goals
      go_enter Try.func5, Try.ntmps5
      go_wp2_with (first | (go_at_call 12; refine (awake_calls _).mono ?_; rintro x w1 ⟨rfl, hb⟩) | (go_at_call 7; refine (put_no b e _ q _ H.out).mono ?_; rintro x w2 ⟨rfl, hb2⟩) | (go_at_call 11; refine (num_calls _ _).mono ?_; rintro x w3 ⟨rfl, rfl⟩))
      go_ret
      exact ⟨rfl, hb.trans (hb2.mono hb.size)⟩
  · have h3 : q < 0 ∨ 4096 ≤ q := h
    clear h
    by_cases hq : q < 0
    all_goals
      go_enter Try.func5, Try.ntmps5
      go_wp2_with (first | (go_at_call 12; refine (awake_calls _).mono ?_; rintro x w1 ⟨rfl, hb⟩) | (go_at_call 7; refine (put_no b e _ q _ H.out).mono ?_; rintro x w2 ⟨rfl, hb2⟩) | (go_at_call 11; refine (num_calls _ _).mono ?_; rintro x w3 ⟨rfl, rfl⟩))
      go_ret
      exact ⟨rfl, hb.trans (hb2.mono hb.size)⟩

/-- '[]byte(s)': its cells; behind a store into the first, 'string(b)'. -/
theorem lent_run (S : ByteArray) (W : World) : Sem.run Try.prog (convert 9 36 (.string S)) W = .ok (.slice (some ⟨W.heap.size, 0, none⟩) S.size (grownCap W S.size 0 5)) (Lib.bytesWorld W 5 S) :=
  Lib.run_convert_string_bytes W 9 36 5 S Try.underlying9 Try.underlying36 Try.underlying5

theorem lent_at (S : ByteArray) (W : World) (j : Nat) (hj : j < S.size) : (Lib.bytesWorld W 5 S).cell? ⟨W.heap.size, j, none⟩ = some (.int .u8 (bt S j)) := by
  rw [Lib.bytesWorld_cell W 5 S j hj]
  have h1 : S.data.toList.getD j 0 = S[j] := by
    rw [List.getD_eq_getElem?_getD, Array.getElem?_toList]
    have : j < S.data.size := hj
    rw [Array.getElem?_eq_getElem this]
    rfl
  rw [h1]
  have h2 : bt S (j : Int) = (S[j].toNat : Int) := by
    unfold bt
    have e : ((j : Int)).toNat = j := by omega
    rw [dif_pos (by omega)]
    simp only [e]
  rw [h2]

theorem cells_pos (S : ByteArray) (W : World) (h : 0 < S.size) : 0 < (Lib.bytesCells W 5 S).size := by
  unfold Lib.bytesCells
  have h' : 0 < S.data.size := h
  rw [Array.size_append, Array.size_map]
  omega

theorem lent_free (S : ByteArray) (W : World) (h : 0 < S.size) : (Lib.bytesWorld W 5 S).frozen? ⟨W.heap.size, 0, none⟩ = false := by
  have h1 := Lib.bytesWorld_at_new W 5 S
  have h2 := cells_pos S W h
  simp only [World.frozen?, h1]
  have h3 : ¬ (Lib.bytesCells W 5 S).size ≤ 0 := by omega
  rw [decide_eq_false h3]
  rfl

/-- The bytes behind a store into the first. -/
def backS (S : ByteArray) (v : Int) : ByteArray := strOfNums (v :: (List.range (S.size - 1)).map fun i : Nat => bt S ((i + 1 : Nat) : Int))

theorem lent_back (S : ByteArray) (W : World) (c n : Nat) (v : Int) (h : S.size = n) (hn : 0 < n) :
    Sem.run Try.prog (convert 36 9 (.slice (some ⟨W.heap.size, 0, none⟩) n c)) ((Lib.bytesWorld W 5 S).setCell ⟨W.heap.size, 0, none⟩ (.int .u8 v)) = .ok (.string (backS S v)) ((Lib.bytesWorld W 5 S).setCell ⟨W.heap.size, 0, none⟩ (.int .u8 v)) := by
  have hb := Lib.bytesWorld_at_new W 5 S
  have hcell : ∀ j, ((Lib.bytesWorld W 5 S).setCell ⟨W.heap.size, 0, none⟩ (.int .u8 v)).cell? ⟨W.heap.size, j, none⟩ = ((Lib.bytesCells W 5 S).setIfInBounds 0 (.int .u8 v))[j]? := by
    intro j
    simp [World.cell?, World.setCell, Array.getElem?_modify, hb]
  have hold : ∀ j, (Lib.bytesWorld W 5 S).cell? ⟨W.heap.size, j, none⟩ = (Lib.bytesCells W 5 S)[j]? := by
    intro j
    simp [World.cell?, hb]
  have hsz := cells_pos S W (by omega)
  refine run_convert_bytes_arg _ 36 5 Try.underlying36 Try.underlying5 W.heap.size 0 n c (v :: (List.range (S.size - 1)).map fun i : Nat => bt S ((i + 1 : Nat) : Int)) (by simp; omega) (fun i hi => ?_) 9 Try.underlying9
  rw [Nat.zero_add, hcell]
  cases i with
  | zero => rw [Array.getElem?_setIfInBounds_self_of_lt hsz]; rfl
  | succ i =>
    rw [Array.getElem?_setIfInBounds_ne (by omega), ← hold, lent_at S W (i + 1) (by omega)]
    simp [List.getD_eq_getElem?_getD, show i < S.size - 1 by omega]

theorem back_size (S : ByteArray) (v : Int) (h : 0 < S.size) : (backS S v).size = S.size := by
  unfold backS
  rw [size_strOfNums]
  simp
  omega

theorem back_bt (S : ByteArray) (v : Int) (h0 : 0 ≤ v) (h1 : v < 256) : bt (backS S v) 0 = v := by
  have := bt_head (v :: (List.range (S.size - 1)).map fun i : Nat => bt S ((i + 1 : Nat) : Int)) ⟨#[]⟩ 0 (by simp) h0 h1
  have e : strOfNums (v :: (List.range (S.size - 1)).map fun i : Nat => bt S ((i + 1 : Nat) : Int)) ++ (⟨#[]⟩ : ByteArray) = backS S v := by
    apply ByteArray.ext
    rw [ByteArray.data_append]
    exact Array.append_empty
  rw [e] at this
  exact this

theorem or32_small : ((List.range 256).all fun x => decide (bits .or .u8 (x : Int) 32 / 32 % 2 = 1 ∧ 0 ≤ bits .or .u8 (x : Int) 32 ∧ bits .or .u8 (x : Int) 32 < 256)) = true := by decide +kernel
theorem or32 {x : Int} (h0 : 0 ≤ x) (h1 : x < 256) : bits .or .u8 x 32 / 32 % 2 = 1 ∧ 0 ≤ bits .or .u8 x 32 ∧ bits .or .u8 x 32 < 256 := by
  have h := or32_small
  rw [List.all_eq_true] at h
  have h' := h x.toNat (by simp; omega)
  simp only [decide_eq_true_eq] at h'
  have e : ((x.toNat : Nat) : Int) = x := by omega
  rw [e] at h'
  exact h'

/-- Get refuses. -/
theorem get_no (T : ByteArray) (short : Bool) (w : World) (hs : T.size ≤ 100) (h : T.size < wide short ∨ odd (bt T 0) short) :
    Calls Try.prog 9 #[.string T, .bool short] w fun x w' => x = .returned (.tuple #[.agg #[.bool false, .bool false, .int .i64 0, .string ⟨#[]⟩], .int .i64 800]) ∧ Below w.heap.size w w' := by
  refine mphead_Get.calls 8 T short _ _ _ _ _ w ?_
  rw [get_f 8 (by omega) T (by omega)]
  unfold getF
  rw [if_pos h]

/-- Get takes a head alone. -/
theorem get_head (b e short : Bool) (q : Int) (w : World) (h0 : 0 ≤ q) (h1 : q < ringOf short) :
    Calls Try.prog 9 #[.string (strOfNums (headOf b e q short)), .bool short] w fun x w' => x = .returned (.tuple #[.agg #[.bool b, .bool e, .int .i64 q, .string ⟨#[]⟩], .int .i64 0]) ∧ Below w.heap.size w w' := by
  have e1 : strOfNums (headOf b e q short) ++ (⟨#[]⟩ : ByteArray) = strOfNums (headOf b e q short) := by
    apply ByteArray.ext
    rw [ByteArray.data_append]
    exact Array.append_empty
  have hg := get_put (b := b) (e := e) (q := q) (d := ⟨#[]⟩) (short := short) h0 h1 (by decide)
  rw [e1] at hg
  have hl : (headOf b e q short).length ≤ 4 := by unfold headOf; split <;> simp
  refine mphead_Get.calls 8 _ short _ _ _ _ _ w ?_
  rw [get_f 8 (by omega) _ (by rw [size_strOfNums]; omega), hg]

theorem head_of (b e short : Bool) (q : Int) : (strOfNums (headOf b e q short) ++ dS).extract 0 (headOf b e q short).length = strOfNums (headOf b e q short) := by
  apply ByteArray.ext
  have h1 : (strOfNums (headOf b e q short)).data.size = (headOf b e q short).length := size_strOfNums _
  rw [ByteArray.data_extract, ByteArray.data_append, ← h1, Array.extract_append]
  simp

theorem lent_below (S : ByteArray) (W : World) {B : Nat} (hB : B ≤ W.heap.size) : Below B W (Lib.bytesWorld W 5 S) :=
  ⟨rfl, rfl, rfl, by rw [Lib.bytesWorld_size]; omega, fun k hk => Lib.bytesWorld_at_old W 5 S k (by omega)⟩

set_option maxHeartbeats 2000000 in
set_option maxRecDepth 100000 in
theorem seqs_short (q : Int) (b e : Bool) (w : World) (h0 : 0 ≤ q) (h1 : q < 4096) :
    Calls Try.prog 5 #[.int .i64 q, .bool b, .bool e, .bool true] w fun x w' => x = .returned (.bool true) ∧ Below w.heap.size w w' := by
  obtain ⟨S, hS⟩ : ∃ S, S = strOfNums (headOf b e q true) ++ dS := ⟨_, rfl⟩
  have hsz : S.size = 3 := by rw [hS, size_head]; rfl
  have hx : S.extract 0 2 = strOfNums (headOf b e q true) := by rw [hS]; exact head_of b e true q
  have f0 : bt S 0 = ((S[0]'(by omega)).toNat : Int) := by unfold bt; rw [dif_pos (show (0 : Int).toNat < S.size by omega)]; rfl
  have g0 : bt S 0 = hb b e + q / 256 := by
    rw [hS]
    have hh : headOf b e q true = [hb b e + q / 256, q % 256] := rfl
    have hbb : 0 ≤ hb b e ∧ hb b e ≤ 192 := by cases b <;> cases e <;> decide
    exact bt_head _ _ 0 (by rw [hh]; simp) (by rw [hh]; show 0 ≤ hb b e + q / 256; omega) (by rw [hh]; show hb b e + q / 256 < 256; omega)
  have HS := Lib.hid hS
  clear hS
  have hr := PMpForms.bt_range S 0
  have hbc : hb b e % 64 = 0 ∧ 0 ≤ hb b e ∧ hb b e < 256 ∧ (128 ≤ hb b e ↔ b = true) ∧ (hb b e / 64 % 2 = 1 ↔ e = true) := by cases b <;> cases e <;> decide
  obtain ⟨d1, d2, d3, d4, d5⟩ := hbc
  obtain ⟨z1, z2, a3, a4, z3, z4, z5, z6⟩ := and_byte hr.1 hr.2
  clear z1 z2 z3 z4 z5 z6
  obtain ⟨v1, v2, v3⟩ := or32 hr.1 hr.2
  rw [f0] at a3 a4
  rw [f0] at g0
  have k1 : (bits BinOp.and IntKind.u8 ((S[0]'(by omega)).toNat : Int) 128 != 0) = b := by rw [a3, Bool.eq_iff_iff, ← d4]; simp; omega
  have k2 : (bits BinOp.and IntKind.u8 ((S[0]'(by omega)).toNat : Int) 64 != 0) = e := by rw [a4, Bool.eq_iff_iff, ← d5]; simp; omega
  clear a3 a4 d1 d2 d3 d4 d5 hr f0 g0
  have c1 := lent_run S
  have c2 : ∀ W, (Lib.bytesWorld W 5 S).cell? ⟨W.heap.size, 0, none⟩ = some (.int .u8 (bt S 0)) := fun W => lent_at S W 0 (by omega)
  have c3 : ∀ W, (Lib.bytesWorld W 5 S).frozen? ⟨W.heap.size, 0, none⟩ = false := fun W => lent_free S W (by omega)
  have c4 := fun W c v => lent_back S W c 3 v hsz (by omega)
  have T1 : ∀ W, Calls Try.prog 9 #[.string (backS S (bits BinOp.or IntKind.u8 (bt S 0) 32)), .bool true] W _ := fun W => get_no _ true W (by rw [back_size _ _ (by omega)]; omega) (.inr (by rw [back_bt _ _ v2 v3]; unfold odd; rw [if_pos rfl]; omega))
  have T2 : ∀ W, Calls Try.prog 9 #[.string (S.extract 0 1), .bool true] W _ := fun W => get_no _ true W (by rw [ByteArray.size_extract]; omega) (.inl (by rw [ByteArray.size_extract]; show _ < 2; omega))
  have TT1 := Lib.hid T1
  have TT2 := Lib.hid T2
  have HX := Lib.hid hx
  clear T1 T2 hx v1 v2 v3
  go_enter Try.func5, Try.ntmps5
  go_wp2_with (first | (go_at_call 12; refine (awake_calls _).mono ?_; rintro x w1 ⟨rfl, hb⟩) | (go_at_call 7; refine (put_yes b e true q _ h0 h1).mono ?_; rintro x w2 ⟨rfl, hb2⟩; rw [← HS.out]) | (go_at_call 11; refine (num_calls _ _).mono ?_; rintro x w3 ⟨rfl, rfl⟩))
  clear c1 c2 c3 c4 k1 k2
  refine (TT1.out _).mono ?_
  rintro x w4 ⟨rfl, hb4⟩
  have hbw : Below w.heap.size w w4 := by
    have p1 := hb.trans (hb2.mono hb.size)
    have p2 : Below w.heap.size w (Lib.bytesWorld w2 5 S) := p1.trans (lent_below S w2 p1.size)
    have p3 := p2.setCell (p := ⟨w2.heap.size, 0, none⟩) p1.size (.int .u8 (bits BinOp.or IntKind.u8 (bt S 0) 32))
    exact p3.trans (hb4.mono p3.size)
  clear hb hb2 hb4
  go_wp2_with fail
  refine (TT2.out _).mono ?_
  rintro x w5 ⟨rfl, hb5⟩
  have hbw5 : Below w.heap.size w w5 := by
    have p1 := hbw.alloc hbw.size (.cells #[.bool false, .bool false, .int .i64 0, .string ⟨#[]⟩] 23)
    exact p1.trans (hb5.mono p1.size)
  clear hbw hb5
  go_wp2_with fail
  rw [HX.out]
  refine (get_head b e true q _ h0 h1).mono ?_
  rintro x w6 ⟨rfl, hb6⟩
  have hbw6 : Below w.heap.size w w6 := by
    have p1 := hbw5.alloc hbw5.size (.cells #[.bool false, .bool false, .int .i64 0, .string ⟨#[]⟩] 23)
    exact p1.trans (hb6.mono p1.size)
  clear hbw5 hb6
  go_wp2_with (go_at_call 11; refine (num_calls _ _).mono ?_; rintro x w3 ⟨rfl, rfl⟩)
  go_ret
  exact ⟨rfl, hbw6.alloc hbw6.size _⟩

set_option maxHeartbeats 2000000 in
set_option maxRecDepth 100000 in
theorem seqs_long (q : Int) (b e : Bool) (w : World) (h0 : 0 ≤ q) (h1 : q < 16777216) :
    Calls Try.prog 5 #[.int .i64 q, .bool b, .bool e, .bool false] w fun x w' => x = .returned (.bool true) ∧ Below w.heap.size w w' := by
  obtain ⟨S, hS⟩ : ∃ S, S = strOfNums (headOf b e q false) ++ dS := ⟨_, rfl⟩
  have hsz : S.size = 5 := by rw [hS, size_head]; rfl
  have hx : S.extract 0 4 = strOfNums (headOf b e q false) := by rw [hS]; exact head_of b e false q
  have f0 : bt S 0 = ((S[0]'(by omega)).toNat : Int) := by unfold bt; rw [dif_pos (show (0 : Int).toNat < S.size by omega)]; rfl
  have g0 : bt S 0 = hb b e := by
    rw [hS]
    have hh : headOf b e q false = [hb b e, q / 65536, q / 256 % 256, q % 256] := rfl
    have hbb : 0 ≤ hb b e ∧ hb b e ≤ 192 := by cases b <;> cases e <;> decide
    exact bt_head _ _ 0 (by rw [hh]; simp) (by rw [hh]; show 0 ≤ hb b e; omega) (by rw [hh]; show hb b e < 256; omega)
  have HS := Lib.hid hS
  clear hS
  have hr := PMpForms.bt_range S 0
  have hbc : hb b e % 64 = 0 ∧ 0 ≤ hb b e ∧ hb b e < 256 ∧ (128 ≤ hb b e ↔ b = true) ∧ (hb b e / 64 % 2 = 1 ↔ e = true) := by cases b <;> cases e <;> decide
  obtain ⟨d1, d2, d3, d4, d5⟩ := hbc
  obtain ⟨z1, z2, a3, a4, z3, z4, z5, z6⟩ := and_byte hr.1 hr.2
  clear z1 z2 z3 z4 z5 z6
  obtain ⟨v1, v2, v3⟩ := or32 hr.1 hr.2
  rw [f0] at a3 a4
  rw [f0] at g0
  have k1 : (bits BinOp.and IntKind.u8 ((S[0]'(by omega)).toNat : Int) 128 != 0) = b := by rw [a3, Bool.eq_iff_iff, ← d4]; simp; omega
  have k2 : (bits BinOp.and IntKind.u8 ((S[0]'(by omega)).toNat : Int) 64 != 0) = e := by rw [a4, Bool.eq_iff_iff, ← d5]; simp; omega
  clear a3 a4 d1 d2 d3 d4 d5 hr f0 g0
  have c1 := lent_run S
  have c2 : ∀ W, (Lib.bytesWorld W 5 S).cell? ⟨W.heap.size, 0, none⟩ = some (.int .u8 (bt S 0)) := fun W => lent_at S W 0 (by omega)
  have c3 : ∀ W, (Lib.bytesWorld W 5 S).frozen? ⟨W.heap.size, 0, none⟩ = false := fun W => lent_free S W (by omega)
  have c4 := fun W c v => lent_back S W c 5 v hsz (by omega)
  have T1 : ∀ W, Calls Try.prog 9 #[.string (backS S (bits BinOp.or IntKind.u8 (bt S 0) 32)), .bool false] W _ := fun W => get_no _ false W (by rw [back_size _ _ (by omega)]; omega) (.inr (by rw [back_bt _ _ v2 v3]; unfold odd; rw [if_neg (by simp)]; omega))
  have T2 : ∀ W, Calls Try.prog 9 #[.string (S.extract 0 3), .bool false] W _ := fun W => get_no _ false W (by rw [ByteArray.size_extract]; omega) (.inl (by rw [ByteArray.size_extract]; show _ < 4; omega))
  have TT1 := Lib.hid T1
  have TT2 := Lib.hid T2
  have HX := Lib.hid hx
  clear T1 T2 hx v1 v2 v3
  go_enter Try.func5, Try.ntmps5
  go_wp2_with (first | (go_at_call 12; refine (awake_calls _).mono ?_; rintro x w1 ⟨rfl, hb⟩) | (go_at_call 7; refine (put_yes b e false q _ h0 h1).mono ?_; rintro x w2 ⟨rfl, hb2⟩; rw [← HS.out]) | (go_at_call 11; refine (num_calls _ _).mono ?_; rintro x w3 ⟨rfl, rfl⟩))
  clear c1 c2 c3 c4 k1 k2
  refine (TT1.out _).mono ?_
  rintro x w4 ⟨rfl, hb4⟩
  have hbw : Below w.heap.size w w4 := by
    have p1 := hb.trans (hb2.mono hb.size)
    have p2 : Below w.heap.size w (Lib.bytesWorld w2 5 S) := p1.trans (lent_below S w2 p1.size)
    have p3 := p2.setCell (p := ⟨w2.heap.size, 0, none⟩) p1.size (.int .u8 (bits BinOp.or IntKind.u8 (bt S 0) 32))
    exact p3.trans (hb4.mono p3.size)
  clear hb hb2 hb4
  go_wp2_with fail
  refine (TT2.out _).mono ?_
  rintro x w5 ⟨rfl, hb5⟩
  have hbw5 : Below w.heap.size w w5 := by
    have p1 := hbw.alloc hbw.size (.cells #[.bool false, .bool false, .int .i64 0, .string ⟨#[]⟩] 23)
    exact p1.trans (hb5.mono p1.size)
  clear hbw hb5
  go_wp2_with fail
  rw [HX.out]
  refine (get_head b e false q _ h0 h1).mono ?_
  rintro x w6 ⟨rfl, hb6⟩
  have hbw6 : Below w.heap.size w w6 := by
    have p1 := hbw5.alloc hbw5.size (.cells #[.bool false, .bool false, .int .i64 0, .string ⟨#[]⟩] 23)
    exact p1.trans (hb6.mono p1.size)
  clear hbw5 hb6
  go_wp2_with (go_at_call 11; refine (num_calls _ _).mono ?_; rintro x w3 ⟨rfl, rfl⟩)
  go_ret
  exact ⟨rfl, hbw6.alloc hbw6.size _⟩

theorem seqs_any (q : Int) (b e short : Bool) (w : World) :
    Calls Try.prog 5 #[.int .i64 q, .bool b, .bool e, .bool short] w fun x w' => x = .returned (.bool true) ∧ Below w.heap.size w w' := by
  by_cases h : q < 0 ∨ ringOf short ≤ q
  · exact seqs_no q b e short w h
  · cases short
    · have hr : ringOf false = 16777216 := rfl
      rw [hr] at h
      exact seqs_long q b e w (by omega) (by omega)
    · have hr : ringOf true = 4096 := rfl
      rw [hr] at h
      exact seqs_short q b e w (by omega) (by omega)

end Go.Proofs.Ytgmoeghhigfmhaa.HandMpSeqs
