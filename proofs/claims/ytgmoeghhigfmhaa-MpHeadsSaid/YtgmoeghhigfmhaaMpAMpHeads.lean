/- What mphead.Put and mphead.Get of the printed functions answer, in closed form; there and back. -/
import Derived.Test.YtgmoeghhigfmhaaHandMpHeads
import Derived.Test.YtgmoeghhigfmhaaPlain
namespace Go.Proofs.Ytgmoeghhigfmhaa.PMpHeads
open Go Go.RowKit Go.Proofs.YtgmoeghhigfmhaaW.PrintWords Go.Proofs.YtgmoeghhigfmhaaW.PrintLast Go.Proofs.YtgmoeghhigfmhaaW.PrintMore Go.Proofs.Ytgmoeghhigfmhaa.Plain

/-- The two flags. -/
def hb (b e : Bool) : Int := (if b = true then 128 else 0) + (if e = true then 64 else 0)
def ringOf (short : Bool) : Int := if short = true then 4096 else 16777216
def headOf (b e : Bool) (q : Int) (short : Bool) : List Int := if short = true then [hb b e + q / 256, q % 256] else [hb b e, q / 65536, q / 256 % 256, q % 256]
def putF (b e : Bool) (q : Int) (d : ByteArray) (short : Bool) : ByteArray × Int :=
  if q < 0 ∨ ringOf short ≤ q ∨ 2048 < d.size then (⟨#[]⟩, 801) else (strOfNums (headOf b e q short) ++ d, 0)

theorem ringOf_eq (b : Bool) : ringOf b = 4096 ∨ ringOf b = 16777216 := by unfold ringOf; split <;> simp
theorem ring_f (b : Bool) : mphead_Ring.f b = some (ringOf b) := by unfold mphead_Ring.f ringOf; split <;> rfl

/-- Small numbers: what the bits give. -/
theorem or_small : ((List.range 256).all fun x => (List.range 16).all fun y => decide (x % 16 ≠ 0) || bits .or .i64 (x : Int) (y : Int) == (x : Int) + y) = true := by decide +kernel

theorem or_flag {x y : Int} (h0 : 0 ≤ x) (h1 : x < 256) (h2 : x % 16 = 0) (h3 : 0 ≤ y) (h4 : y < 16) : bits .or .i64 x y = x + y := by
  have h := or_small
  rw [List.all_eq_true] at h
  have h' := h x.toNat (by simp; omega)
  rw [List.all_eq_true] at h'
  have h'' := h' y.toNat (by simp; omega)
  simp only [Bool.or_eq_true, decide_eq_true_eq, beq_iff_eq] at h''
  have e1 : ((x.toNat : Nat) : Int) = x := by omega
  have e2 : ((y.toNat : Nat) : Int) = y := by omega
  rw [e1, e2] at h''
  rcases h'' with h'' | h''
  · omega
  · exact h''

theorem or64 (b : Bool) : bits .or .i64 (if b = true then 128 else 0) 64 = (if b = true then 128 else 0) + 64 := by cases b <;> decide +kernel
theorem or128 : bits .or .i64 0 128 = 128 := by decide +kernel

theorem put_f (k : Nat) (hk : 3 ≤ k) (b e : Bool) (q : Int) (d : ByteArray) (short : Bool) : mphead_Put.f k b e q d short = some (putF b e q d short) := by
  obtain ⟨k, rfl⟩ : ∃ m, k = m + 2 := ⟨k - 2, by omega⟩
  unfold mphead_Put.f putF
  have hno : mphead_Put.j0 (k + 2) short true b e q d = some (⟨#[]⟩, 801) := by simp [mphead_Put.j0]
  rw [ring_f]
  simp only [Option.bind_some]
  by_cases h1 : q < 0
  · rw [if_pos h1, if_pos (.inl h1)]; exact hno
  rw [if_neg h1]
  by_cases h2 : q ≥ ringOf short
  · rw [if_pos h2, if_pos (.inr (.inl h2))]; exact hno
  rw [if_neg h2]
  by_cases h3 : (d.size : Int) > 2048
  · rw [decide_eq_true h3, if_pos (.inr (.inr (by omega)))]; exact hno
  rw [decide_eq_false h3, if_neg (by omega)]
  simp only [mphead_Put.j0, if_neg (show ¬ (false = true) by simp)]
  have hx : (if b = true then mphead_Put.j1 (k + 1) short (bits .or .i64 0 128) b e q d else mphead_Put.j1 (k + 1) short 0 b e q d) = mphead_Put.j1 (k + 1) short (if b = true then 128 else 0) b e q d := by
    cases b
    · rfl
    · rw [if_pos rfl, if_pos rfl, or128]
  rw [hx]
  simp only [mphead_Put.j1, Option.bind_some, size_strOfNums, List.length_cons, List.length_nil, or64]
  have hr := ringOf_eq short
  cases short with
  | true =>
    have hr' : ringOf true = 4096 := rfl
    rw [hr'] at h2
    have hq : 0 ≤ q / 256 ∧ q / 256 < 16 := by omega
    cases e with
    | true =>
      have e1 : bits .or .i64 ((if b = true then 128 else 0) + 64) (q / 256) = (if b = true then 128 else 0) + 64 + q / 256 := or_flag (by split <;> omega) (by split <;> omega) (by split <;> omega) hq.1 hq.2
      rw [if_pos rfl, if_pos rfl, if_pos (by omega), e1]
      have e2 : ((if b = true then (128 : Int) else 0) + 64 + q / 256) % 256 = hb b true + q / 256 := by unfold hb; rw [if_pos (rfl : true = true)]; split <;> omega
      rw [e2]
      rfl
    | false =>
      have e1 : bits .or .i64 (if b = true then 128 else 0) (q / 256) = (if b = true then 128 else 0) + q / 256 := or_flag (by split <;> omega) (by split <;> omega) (by split <;> omega) hq.1 hq.2
      rw [if_neg (by simp), if_pos rfl, if_pos (by omega), e1]
      have e2 : ((if b = true then (128 : Int) else 0) + q / 256) % 256 = hb b false + q / 256 := by unfold hb; rw [if_neg (by simp : ¬ (false = true))]; split <;> omega
      rw [e2]
      rfl
  | false =>
    have hr' : ringOf false = 16777216 := rfl
    rw [hr'] at h2
    have e0 : q / 65536 % 256 = q / 65536 := by omega
    cases e with
    | true =>
      rw [if_pos rfl, if_neg (by simp), if_pos (by omega)]
      have e2 : ((if b = true then (128 : Int) else 0) + 64) % 256 = hb b true := by unfold hb; rw [if_pos (rfl : true = true)]; split <;> omega
      rw [e2, e0]
      rfl
    | false =>
      rw [if_neg (by simp), if_neg (by simp), if_pos (by omega)]
      have e2 : (if b = true then (128 : Int) else 0) % 256 = hb b false := by unfold hb; rw [if_neg (by simp : ¬ (false = true))]; split <;> omega
      rw [e2, e0]
      rfl

/-! ### bytes -/
theorem bt_range (s : ByteArray) (i : Int) : 0 ≤ bt s i ∧ bt s i < 256 := by
  unfold bt
  split
  · have := (s[i.toNat]).toNat_lt; omega
  · omega

theorem and_small : ((List.range 256).all fun x => bits .and .i64 (x : Int) 48 == ((x / 16 % 4 * 16 : Nat) : Int) && bits .and .i64 (x : Int) 63 == ((x % 64 : Nat) : Int) && bits .and .u8 (x : Int) 128 == ((x / 128 * 128 : Nat) : Int) && bits .and .u8 (x : Int) 64 == ((x / 64 % 2 * 64 : Nat) : Int) && bits .andNot .u8 (x : Int) 192 == ((x % 64 : Nat) : Int)
  && bits .and .u8 (x : Int) 48 == ((x / 16 % 4 * 16 : Nat) : Int) && bits .and .u8 (x : Int) 63 == ((x % 64 : Nat) : Int) && bits .and .u8 (x : Int) 15 == ((x % 16 : Nat) : Int)) = true := by decide +kernel

theorem and_byte {x : Int} (h0 : 0 ≤ x) (h1 : x < 256) : bits .and .i64 x 48 = x / 16 % 4 * 16 ∧ bits .and .i64 x 63 = x % 64 ∧ bits .and .u8 x 128 = x / 128 * 128 ∧ bits .and .u8 x 64 = x / 64 % 2 * 64 ∧ bits .andNot .u8 x 192 = x % 64 ∧
    bits .and .u8 x 48 = x / 16 % 4 * 16 ∧ bits .and .u8 x 63 = x % 64 ∧ bits .and .u8 x 15 = x % 16 := by
  have h := and_small
  rw [List.all_eq_true] at h
  have h' := h x.toNat (by simp; omega)
  simp only [Bool.and_eq_true, beq_iff_eq, and_assoc] at h'
  have e1 : ((x.toNat : Nat) : Int) = x := by omega
  rw [e1] at h'
  obtain ⟨a, b, c, d, e, f, g, i⟩ := h'
  exact ⟨by omega, by omega, by omega, by omega, by omega, by omega, by omega, by omega⟩

/-- a * 256 | b. -/
theorem or_shift {a b : Int} (h0 : 0 ≤ a) (h1 : a < 1099511627776) (h2 : 0 ≤ b) (h3 : b < 256) : bits .or .i64 (a * 256) b = a * 256 + b := by
  obtain ⟨a, rfl⟩ := Int.eq_ofNat_of_zero_le h0
  obtain ⟨b, rfl⟩ := Int.eq_ofNat_of_zero_le h2
  show IntKind.wrap .i64 (((BitVec.ofInt 64 ((a : Int) * 256)) ||| (BitVec.ofInt 64 (b : Int))).toNat : Int) = _
  rw [BitVec.toNat_or, BitVec.toNat_ofInt, BitVec.toNat_ofInt]
  have e1 : (((a : Int) * 256) % ((2 ^ 64 : Nat) : Int)).toNat = a * 256 := by omega
  have e2 : ((b : Int) % ((2 ^ 64 : Nat) : Int)).toNat = b := by omega
  rw [e1, e2]
  have e3 : a * 256 ||| b = a * 256 + b := by
    have := Nat.shiftLeft_add_eq_or_of_lt (i := 8) (b := b) (by omega) a
    rw [Nat.shiftLeft_eq, show (2 : Nat) ^ 8 = 256 from rfl] at this
    exact this.symm
  rw [e3]
  unfold IntKind.wrap
  simp [IntKind.bits, IntKind.signed]
  omega

/-- a * 65536 | b * 256. -/
theorem or_shift2 {a b : Int} (h0 : 0 ≤ a) (h1 : a < 1099511627776) (h2 : 0 ≤ b) (h3 : b < 256) : bits .or .i64 (a * 65536) (b * 256) = a * 65536 + b * 256 := by
  obtain ⟨a, rfl⟩ := Int.eq_ofNat_of_zero_le h0
  obtain ⟨b, rfl⟩ := Int.eq_ofNat_of_zero_le h2
  show IntKind.wrap .i64 (((BitVec.ofInt 64 ((a : Int) * 65536)) ||| (BitVec.ofInt 64 ((b : Int) * 256))).toNat : Int) = _
  rw [BitVec.toNat_or, BitVec.toNat_ofInt, BitVec.toNat_ofInt]
  have e1 : (((a : Int) * 65536) % ((2 ^ 64 : Nat) : Int)).toNat = a * 65536 := by omega
  have e2 : (((b : Int) * 256) % ((2 ^ 64 : Nat) : Int)).toNat = b * 256 := by omega
  rw [e1, e2]
  have e3 : a * 65536 ||| b * 256 = a * 65536 + b * 256 := by
    have := Nat.shiftLeft_add_eq_or_of_lt (i := 16) (b := b * 256) (by omega) a
    rw [Nat.shiftLeft_eq, show (2 : Nat) ^ 16 = 65536 from rfl] at this
    exact this.symm
  rw [e3]
  unfold IntKind.wrap
  simp [IntKind.bits, IntKind.signed]
  omega

/-! ### Get -/
def wide (short : Bool) : Nat := if short = true then 2 else 4
/-- A first byte's bits that must be 0. -/
def odd (x : Int) (short : Bool) : Prop := if short = true then x / 16 % 4 ≠ 0 else x % 64 ≠ 0
instance (x : Int) (short : Bool) : Decidable (odd x short) := by unfold odd; infer_instance
def seqOf (s : ByteArray) (short : Bool) : Int := if short = true then bt s 0 % 64 * 256 + bt s 1 else ((bt s 0 % 64 * 256 + bt s 1) * 256 + bt s 2) * 256 + bt s 3
def getF (s : ByteArray) (short : Bool) : Bool × Bool × Int × ByteArray × Int :=
  if s.size < wide short ∨ odd (bt s 0) short then (false, false, 0, ⟨#[]⟩, 800) else
  if 2048 + wide short < s.size then (false, false, 0, ⟨#[]⟩, 801) else
  (decide (128 ≤ bt s 0), decide (bt s 0 / 64 % 2 = 1), seqOf s short, s.extract (wide short) s.size, 0)

theorem get_f (k : Nat) (hk : 8 ≤ k) (s : ByteArray) (hs : s.size ≤ 281474976710656) (short : Bool) : mphead_Get.f k s short = some (getF s short) := by
  obtain ⟨k, rfl⟩ : ∃ m, k = m + 7 := ⟨k - 7, by omega⟩
  have r0 := bt_range s 0
  have r1 := bt_range s 1
  have r2 := bt_range s 2
  have r3 := bt_range s 3
  have w0 : wrap64 (bt s 0) = bt s 0 := wrap_i64 (by omega) (by omega)
  have w1 : wrap64 (bt s 1) = bt s 1 := wrap_i64 (by omega) (by omega)
  have w2 : wrap64 (bt s 2) = bt s 2 := wrap_i64 (by omega) (by omega)
  have w3 : wrap64 (bt s 3) = bt s 3 := wrap_i64 (by omega) (by omega)
  obtain ⟨a1, a2, a3, a4, a5, _, _, _⟩ := and_byte r0.1 r0.2
  have b1 : ((bits .and .u8 (bt s 0) 128) != 0) = decide (128 ≤ bt s 0) := by rw [a3, Bool.eq_iff_iff]; simp; omega
  have b2 : ((bits .and .u8 (bt s 0) 64) != 0) = decide (bt s 0 / 64 % 2 = 1) := by rw [a4, Bool.eq_iff_iff]; simp; omega
  unfold mphead_Get.f getF
  cases short with
  | true =>
    have hw : wide true = 2 := rfl
    rw [if_pos rfl, hw]
    simp only [mphead_Get.j0]
    by_cases h1 : s.size < 2
    · rw [if_pos (by omega), if_pos (.inl h1)]; simp [mphead_Get.j1]
    rw [if_neg (by omega), if_pos (by omega), w0, a1]
    by_cases h2 : bt s 0 / 16 % 4 = 0
    · rw [h2, if_neg (by intro h; rcases h with h | h; exact h1 h; exact h h2)]
      simp only [mphead_Get.j1]
      rw [if_neg (by simp), wrap_i64 (by omega) (by omega)]
      by_cases h3 : 2048 + 2 < s.size
      · rw [if_pos (by omega), if_pos h3]
      rw [if_neg (by omega), if_neg h3, if_pos (by omega), if_pos (by omega), if_pos (by omega), b1, b2, a5]
      rw [wrap_i64 (n := bt s 0 % 64) (by omega) (by omega)]
      simp only [mphead_Get.l0]
      rw [if_pos (by omega), if_pos (by omega), if_pos (by omega), w1, wrap_i64 (n := 1 + 1) (by omega) (by omega), wrap_i64 (n := bt s 0 % 64 * 256) (by omega) (by omega), or_shift (by omega) (by omega) r1.1 r1.2]
      rw [if_neg (by omega)]
      rfl
    · rw [if_pos (.inr h2)]
      have : ((bt s 0 / 16 % 4 * 16) != 0) = true := by simp; omega
      rw [this]
      simp [mphead_Get.j1]
  | false =>
    have hw : wide false = 4 := rfl
    rw [if_neg (by simp), hw]
    simp only [mphead_Get.j0]
    by_cases h1 : s.size < 4
    · rw [if_pos (by omega), if_pos (.inl h1)]; simp [mphead_Get.j1]
    rw [if_neg (by omega), if_pos (by omega), w0, a2]
    by_cases h2 : bt s 0 % 64 = 0
    · have h2' := h2
      rw [h2, if_neg (by intro h; rcases h with h | h; exact h1 h; exact h h2)]
      simp only [mphead_Get.j1]
      rw [if_neg (by simp), wrap_i64 (by omega) (by omega)]
      by_cases h3 : 2048 + 4 < s.size
      · rw [if_pos (by omega), if_pos h3]
      rw [if_neg (by omega), if_neg h3, if_pos (by omega), if_pos (by omega), if_pos (by omega), b1, b2, a5]
      rw [wrap_i64 (n := bt s 0 % 64) (by omega) (by omega)]
      simp only [mphead_Get.l0]
      rw [if_pos (by omega), if_pos (by omega), if_pos (by omega), w1, wrap_i64 (n := 1 + 1) (by omega) (by omega), wrap_i64 (n := bt s 0 % 64 * 256) (by omega) (by omega), or_shift (by omega) (by omega) r1.1 r1.2]
      rw [if_pos (by omega), if_pos (by omega), if_pos (by omega), show (1 + 1 : Int) = 2 from rfl, w2, wrap_i64 (n := 2 + 1) (by omega) (by omega), wrap_i64 (n := (bt s 0 % 64 * 256 + bt s 1) * 256) (by omega) (by omega), or_shift (by omega) (by omega) r2.1 r2.2]
      rw [if_pos (by omega), if_pos (by omega), if_pos (by omega), show (2 + 1 : Int) = 3 from rfl, w3, wrap_i64 (n := 3 + 1) (by omega) (by omega), wrap_i64 (n := ((bt s 0 % 64 * 256 + bt s 1) * 256 + bt s 2) * 256) (by omega) (by omega), or_shift (by omega) (by omega) r3.1 r3.2]
      rw [if_neg (by omega)]
      rfl
    · rw [if_pos (.inr h2)]
      have : ((bt s 0 % 64) != 0) = true := by simpa using h2
      rw [this]
      simp [mphead_Get.j1]

/-! ### heads and bytes -/
theorem bt_head (l : List Int) (d : ByteArray) (i : Nat) (h : i < l.length) (h0 : 0 ≤ l.getD i 0) (h1 : l.getD i 0 < 256) : bt (strOfNums l ++ d) (i : Int) = l.getD i 0 := by
  have hs : (strOfNums l ++ d).size = l.length + d.size := by rw [ByteArray.size_append, size_strOfNums]
  unfold bt
  rw [dif_pos (by rw [hs]; omega)]
  have hi : ((i : Int)).toNat = i := by omega
  have e : (strOfNums l ++ d)[((i : Int)).toNat]'(by rw [hs]; omega) = UInt8.ofNat (l.getD i 0).toNat := by
    show (strOfNums l ++ d).data[((i : Int)).toNat]'(by show _ < (strOfNums l ++ d).size; rw [hs]; omega) = _
    simp only [ByteArray.data_append, hi]
    rw [Array.getElem_append_left (by show i < (strOfNums l).size; rw [size_strOfNums]; exact h)]
    simp [strOfNums, List.getD_eq_getElem?_getD, h]
  rw [e]
  show ((UInt8.ofNat (l.getD i 0).toNat).toNat : Int) = _
  rw [UInt8.toNat_ofNat']
  clear e hs hi h
  generalize l.getD i 0 = v at *
  omega

theorem extract_head (l : List Int) (d : ByteArray) : (strOfNums l ++ d).extract l.length (strOfNums l ++ d).size = d := by
  apply ByteArray.ext
  rw [ByteArray.data_extract, ByteArray.data_append]
  have h1 : (strOfNums l).data.size = l.length := size_strOfNums l
  have h2 : (strOfNums l ++ d).size = l.length + d.data.size := by rw [ByteArray.size_append, size_strOfNums]; rfl
  rw [h2, ← h1, Array.extract_append, Array.extract_empty_of_size_le_start (Nat.le_refl _)]
  simp only [Array.empty_append, Nat.sub_self, Nat.add_sub_cancel_left]
  exact Array.extract_size

theorem size_head (l : List Int) (d : ByteArray) : (strOfNums l ++ d).size = l.length + d.size := by rw [ByteArray.size_append, size_strOfNums]

/-- There and back: what was put comes out. -/
theorem get_put {b e : Bool} {q : Int} {d : ByteArray} {short : Bool} (h0 : 0 ≤ q) (h1 : q < ringOf short) (h2 : d.size ≤ 2048) :
    getF (strOfNums (headOf b e q short) ++ d) short = (b, e, q, d, 0) := by
  unfold getF
  have hb0 : hb b e % 64 = 0 ∧ 0 ≤ hb b e ∧ hb b e < 256 ∧ (128 ≤ hb b e ↔ b = true) ∧ (hb b e / 64 % 2 = 1 ↔ e = true) := by cases b <;> cases e <;> decide
  obtain ⟨c1, c2, c3, c4, c5⟩ := hb0
  cases short with
  | true =>
    have hr : ringOf true = 4096 := rfl
    rw [hr] at h1
    have hh : headOf b e q true = [hb b e + q / 256, q % 256] := rfl
    have hl : (headOf b e q true).length = 2 := rfl
    have t0 : bt (strOfNums (headOf b e q true) ++ d) 0 = hb b e + q / 256 := bt_head _ d 0 (by rw [hl]; omega) (by rw [hh]; show 0 ≤ hb b e + q / 256; omega) (by rw [hh]; show hb b e + q / 256 < 256; omega)
    have t1 : bt (strOfNums (headOf b e q true) ++ d) 1 = q % 256 := bt_head _ d 1 (by rw [hl]; omega) (by rw [hh]; show 0 ≤ q % 256; omega) (by rw [hh]; show q % 256 < 256; omega)
    have hw : wide true = 2 := rfl
    have hx := extract_head (headOf b e q true) d
    rw [hl] at hx
    rw [hw, if_neg (by rw [size_head, hl]; unfold odd; rw [if_pos rfl, t0]; omega), if_neg (by rw [size_head, hl]; omega), hx]
    have e1 : seqOf (strOfNums (headOf b e q true) ++ d) true = q := by unfold seqOf; rw [if_pos rfl, t0, t1]; omega
    rw [e1, t0]
    have e2 : decide (128 ≤ hb b e + q / 256) = b := by rw [Bool.eq_iff_iff, decide_eq_true_eq, ← c4]; omega
    have e3 : decide ((hb b e + q / 256) / 64 % 2 = 1) = e := by rw [Bool.eq_iff_iff, decide_eq_true_eq, ← c5]; omega
    rw [e2, e3]
  | false =>
    have hr : ringOf false = 16777216 := rfl
    rw [hr] at h1
    have hh : headOf b e q false = [hb b e, q / 65536, q / 256 % 256, q % 256] := rfl
    have hl : (headOf b e q false).length = 4 := rfl
    have t0 : bt (strOfNums (headOf b e q false) ++ d) 0 = hb b e := bt_head _ d 0 (by rw [hl]; omega) (by rw [hh]; exact c2) (by rw [hh]; exact c3)
    have t1 : bt (strOfNums (headOf b e q false) ++ d) 1 = q / 65536 := bt_head _ d 1 (by rw [hl]; omega) (by rw [hh]; show 0 ≤ q / 65536; omega) (by rw [hh]; show q / 65536 < 256; omega)
    have t2 : bt (strOfNums (headOf b e q false) ++ d) 2 = q / 256 % 256 := bt_head _ d 2 (by rw [hl]; omega) (by rw [hh]; show 0 ≤ q / 256 % 256; omega) (by rw [hh]; show q / 256 % 256 < 256; omega)
    have t3 : bt (strOfNums (headOf b e q false) ++ d) 3 = q % 256 := bt_head _ d 3 (by rw [hl]; omega) (by rw [hh]; show 0 ≤ q % 256; omega) (by rw [hh]; show q % 256 < 256; omega)
    have hw : wide false = 4 := rfl
    have hx := extract_head (headOf b e q false) d
    rw [hl] at hx
    rw [hw, if_neg (by rw [size_head, hl]; unfold odd; rw [if_neg (by simp), t0]; omega), if_neg (by rw [size_head, hl]; omega), hx]
    have e1 : seqOf (strOfNums (headOf b e q false) ++ d) false = q := by unfold seqOf; rw [if_neg (by simp), t0, t1, t2, t3]; omega
    rw [e1, t0]
    have e2 : decide (128 ≤ hb b e) = b := by rw [Bool.eq_iff_iff, decide_eq_true_eq, ← c4]
    have e3 : decide (hb b e / 64 % 2 = 1) = e := by rw [Bool.eq_iff_iff, decide_eq_true_eq, ← c5]
    rw [e2, e3]

end Go.Proofs.Ytgmoeghhigfmhaa.PMpHeads
