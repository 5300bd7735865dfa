/- Statement MpHeads, the plain part: the document's Mp and Unmp answer what mphead.Put and mphead.Get answer. -/
import Derived.Test.YtgmoeghhigfmhaaMpAMpHeads
namespace Go.Proofs.Ytgmoeghhigfmhaa.Pure
open Go Go.RowKit Go.Proofs.Ytgmoeghhigfmhaa.PMpHeads Go.Proofs.YtgmoeghhigfmhaaW.PrintWords Go.Proofs.YtgmoeghhigfmhaaW.PrintLast Go.Proofs.Ytgmoeghhigfmhaa.Plain

theorem awake_ok {k : Nat} (hk : 20 ≤ k) : withylaw8_awake.f k = some true :=
  at_rounds (g := withylaw8_awake.f) withylaw8_awake.mono hk (by kernel_rfl)

theorem rring_f (b : Bool) : withyref1_Ring.f b = some (ringOf b) := by unfold withyref1_Ring.f ringOf; split <;> rfl

theorem strOfNums_app (a b : List Int) : strOfNums a ++ strOfNums b = strOfNums (a ++ b) := by
  apply ByteArray.ext
  rw [ByteArray.data_append]
  simp [strOfNums]

/-- h * 16384 | q. -/
theorem or_head {a b : Int} (h0 : 0 ≤ a) (h1 : a < 1000) (h2 : 0 ≤ b) (h3 : b < 4096) : bits .or .i64 (a * 4096) b = a * 4096 + b := by
  obtain ⟨a, rfl⟩ := Int.eq_ofNat_of_zero_le h0
  obtain ⟨b, rfl⟩ := Int.eq_ofNat_of_zero_le h2
  show IntKind.wrap .i64 (((BitVec.ofInt 64 ((a : Int) * 4096)) ||| (BitVec.ofInt 64 (b : Int))).toNat : Int) = _
  rw [BitVec.toNat_or, BitVec.toNat_ofInt, BitVec.toNat_ofInt]
  have e1 : (((a : Int) * 4096) % ((2 ^ 64 : Nat) : Int)).toNat = a * 4096 := by omega
  have e2 : ((b : Int) % ((2 ^ 64 : Nat) : Int)).toNat = b := by omega
  rw [e1, e2]
  have e3 : a * 4096 ||| b = a * 4096 + b := by
    have := Nat.shiftLeft_add_eq_or_of_lt (i := 12) (b := b) (by omega) a
    rw [Nat.shiftLeft_eq, show (2 : Nat) ^ 12 = 4096 from rfl] at this
    exact this.symm
  rw [e3]
  unfold IntKind.wrap
  simp [IntKind.bits, IntKind.signed]
  omega

theorem hb_eq (b e : Bool) : ∃ h : Int, hb b e = h ∧ 0 ≤ h ∧ h < 256 ∧ h % 64 = 0 := ⟨_, rfl, by unfold hb; split <;> split <;> omega, by unfold hb; split <;> split <;> omega, by unfold hb; split <;> split <;> omega⟩

theorem j2_f (k : Nat) (b e : Bool) (q : Int) (d : ByteArray) (short : Bool) (h0 : 0 ≤ q) (h1 : q < ringOf short) (h2 : d.size ≤ 2048) (x : Int) (hx : x = hb b e) :
    withyref1_Mp.j2 (k + 1) short x b e q d = some (strOfNums (headOf b e q short) ++ d, 0) := by
  subst hx
  obtain ⟨h, hh, a0, a1, a2⟩ := hb_eq b e
  unfold headOf
  rw [hh]
  simp only [withyref1_Mp.j2, withyref1_two.f, Option.bind_some]
  clear hh
  cases short with
  | true =>
    have hr : ringOf true = 4096 := rfl
    rw [hr] at h1
    have ho : bits .or .i64 (h * 256) q = h * 256 + q := by
      have := or_head (a := h / 16) (b := q) (by omega) (by omega) h0 h1
      rw [show h / 16 * 4096 = h * 256 from by omega] at this
      exact this
    have e1 : (h * 256 + q) / 256 % 256 % 256 = h + q / 256 := by omega
    have e2 : (h * 256 + q) % 256 % 256 = q % 256 := by omega
    rw [if_pos rfl, if_pos rfl, wrap_i64 (n := h * 256) (by omega) (by omega), ho, and255, and255, e1, e2]
    rw [if_pos (by rw [size_strOfNums]; simp; omega)]
  | false =>
    have hr : ringOf false = 16777216 := rfl
    rw [hr] at h1
    have e1 : h % 256 = h := by omega
    have e2 : q / 65536 % 256 = q / 65536 := by omega
    have e3 : q / 256 % 256 % 256 = q / 256 % 256 := by omega
    have e4 : q % 256 % 256 = q % 256 := by omega
    rw [if_neg (show ¬ (false = true) by simp), if_neg (show ¬ (false = true) by simp), and255, and255, e1, e2, e3, e4]
    rw [if_pos (by rw [size_strOfNums, size_strOfNums]; simp), strOfNums_app, if_pos (by rw [size_strOfNums]; simp; omega)]
    rfl

theorem mp_f (k : Nat) (hk : 5 ≤ k) (b e : Bool) (q : Int) (d : ByteArray) (short : Bool) : withyref1_Mp.f k b e q d short = some (putF b e q d short) := by
  obtain ⟨k, rfl⟩ : ∃ m, k = m + 3 := ⟨k - 3, by omega⟩
  unfold withyref1_Mp.f putF
  have hno : withyref1_Mp.j0 (k + 3) short true b e q d = some (⟨#[]⟩, 801) := by simp [withyref1_Mp.j0]
  rw [rring_f]
  simp only [Option.bind_some]
  by_cases h1 : q < 0
  · rw [if_pos h1, if_pos (.inl h1)]; exact hno
  rw [if_neg h1]
  by_cases h2 : q ≥ ringOf short
  · rw [if_pos h2, if_pos (.inr (.inl h2))]; exact hno
  rw [if_neg h2]
  by_cases h3 : (d.size : Int) > 2048
  · rw [decide_eq_true h3, if_pos (.inr (.inr (by omega)))]; exact hno
  rw [decide_eq_false h3, if_neg (by omega)]
  have j2 := j2_f k b e q d short (by omega) (by omega) (by omega)
  have hw0 : wrap64 ((0 : Int) + 64) = 64 := by decide +kernel
  have hw1 : wrap64 ((128 : Int) + 64) = 192 := by decide +kernel
  simp only [withyref1_Mp.j0, if_neg (show ¬ (false = true) by simp), withyref1_Mp.j1, hw0, hw1]
  cases b <;> cases e
  · rw [if_neg (by simp), if_neg (by simp)]; exact j2 0 (by decide)
  · rw [if_neg (by simp), if_pos rfl]; exact j2 64 (by decide)
  · rw [if_pos rfl, if_neg (by simp)]; exact j2 128 (by decide)
  · rw [if_pos rfl, if_pos rfl]; exact j2 192 (by decide)

theorem unmp_f (k : Nat) (hk : 8 ≤ k) (s : ByteArray) (hs : s.size ≤ 281474976710656) (short : Bool) : withyref1_Unmp.f k s short = some (getF s short) := by
  obtain ⟨k, rfl⟩ : ∃ m, k = m + 7 := ⟨k - 7, by omega⟩
  have r0 := PMpHeads.bt_range s 0
  have r1 := PMpHeads.bt_range s 1
  have r2 := PMpHeads.bt_range s 2
  have r3 := PMpHeads.bt_range s 3
  have w1 : wrap64 (bt s 1) = bt s 1 := wrap_i64 (by omega) (by omega)
  have w2 : wrap64 (bt s 2) = bt s 2 := wrap_i64 (by omega) (by omega)
  have w3 : wrap64 (bt s 3) = bt s 3 := wrap_i64 (by omega) (by omega)
  obtain ⟨_, _, a3, a4, _, a6, a7, a8⟩ := and_byte r0.1 r0.2
  have b1 : ((bits .and .u8 (bt s 0) 128) == 128) = decide (128 ≤ bt s 0) := by rw [a3, Bool.eq_iff_iff]; simp; omega
  have b2 : ((bits .and .u8 (bt s 0) 64) == 64) = decide (bt s 0 / 64 % 2 = 1) := by rw [a4, Bool.eq_iff_iff]; simp; omega
  unfold withyref1_Unmp.f getF
  cases short with
  | true =>
    have hw : wide true = 2 := rfl
    rw [if_pos rfl, hw]
    rw [withyref1_Unmp.j0]
    by_cases h1 : s.size < 2
    · rw [if_pos (by omega), if_pos (.inl h1)]; simp [withyref1_Unmp.j1]
    rw [if_neg (by omega), if_pos rfl, if_pos (by omega), a6]
    by_cases h2 : bt s 0 / 16 % 4 = 0
    · rw [h2, if_neg (by intro h; rcases h with h | h; exact h1 h; exact h h2)]
      rw [withyref1_Unmp.j1]
      rw [if_neg (by simp), wrap_i64 (by omega) (by omega)]
      by_cases h3 : 2048 + 2 < s.size
      · rw [if_pos (by omega), if_pos h3]
      rw [if_neg (by omega), if_neg h3, if_pos (by omega), if_pos (by omega), if_pos (by omega), if_pos rfl, if_pos (by omega), b1, b2, a8]
      rw [wrap_i64 (n := bt s 0 % 16) (by omega) (by omega), wrap_i64 (n := bt s 0 % 16 * 256) (by omega) (by omega), w1, or_shift (by omega) (by omega) r1.1 r1.2]
      have : bt s 0 % 16 = bt s 0 % 64 := by omega
      rw [this]
      rfl
    · rw [if_pos (.inr h2)]
      have : ((bt s 0 / 16 % 4 * 16) != 0) = true := by simp; omega
      rw [this]
      simp [withyref1_Unmp.j1]
  | false =>
    have hw : wide false = 4 := rfl
    rw [if_neg (by simp), hw]
    rw [withyref1_Unmp.j0]
    by_cases h1 : s.size < 4
    · rw [if_pos (by omega), if_pos (.inl h1)]; simp [withyref1_Unmp.j1]
    rw [if_neg (by omega), if_neg (by simp), if_pos (by omega), a7]
    by_cases h2 : bt s 0 % 64 = 0
    · rw [if_pos h2, if_neg (by intro h; rcases h with h | h; exact h1 h; exact h h2)]
      rw [withyref1_Unmp.j1]
      rw [if_neg (by simp), wrap_i64 (by omega) (by omega)]
      by_cases h3 : 2048 + 4 < s.size
      · rw [if_pos (by omega), if_pos h3]
      rw [if_neg (by omega), if_neg h3, if_pos (by omega), if_pos (by omega), if_pos (by omega), if_neg (by simp), if_pos (by omega), if_pos (by omega), if_pos (by omega), b1, b2]
      rw [w1, w2, w3, wrap_i64 (n := bt s 1 * 65536) (by omega) (by omega), wrap_i64 (n := bt s 2 * 256) (by omega) (by omega), or_shift2 (by omega) (by omega) r2.1 r2.2]
      have e : bt s 1 * 65536 + bt s 2 * 256 = (bt s 1 * 256 + bt s 2) * 256 := by omega
      rw [e, or_shift (by omega) (by omega) r3.1 r3.2]
      have e2 : seqOf s false = (bt s 1 * 256 + bt s 2) * 256 + bt s 3 := by
        show ((bt s 0 % 64 * 256 + bt s 1) * 256 + bt s 2) * 256 + bt s 3 = _
        rw [h2]
        omega
      rw [e2]
      rfl
    · rw [if_neg h2, if_pos (.inr h2)]
      simp [withyref1_Unmp.j1]

theorem num0 (x : Int) : withylaw0_Num.f x = some x := rfl

theorem MpHeads (b e : Bool) (q : Int) (d s : ByteArray) (short : Bool) (hs : s.size ≤ 140737488351232) : ∃ k, withylaw8_MpHeads.f k b e q d s short = some true := by
  refine ⟨40, ?_⟩
  obtain ⟨k, hk⟩ : ∃ k : Nat, k = 40 := ⟨_, rfl⟩
  rw [← hk]
  unfold withylaw8_MpHeads.f
  have p1 := put_f k (by omega) b e q d short
  have p2 := mp_f k (by omega) b e q d short
  have g1 := get_f k (by omega) s (by omega) short
  have g2 := unmp_f k (by omega) s (by omega) short
  have aw := awake_ok (k := k) (by omega)
  rw [p1, Option.bind_some, p2, Option.bind_some, g1, Option.bind_some, g2, Option.bind_some, if_pos rfl, num0, Option.bind_some, if_pos rfl]
  rw [if_pos (by simp), num0, Option.bind_some, if_pos rfl, aw, Option.bind_some]

end Go.Proofs.Ytgmoeghhigfmhaa.Pure
