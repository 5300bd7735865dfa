/- What split.Cut of the printed functions answers, in closed form: a list of pieces, and what these are. -/
import Derived.Test.YtebeoihhegjpkaaPSplitFormsx2
namespace Go.Proofs.Ytebeoihhegjpkaa.PSplitForms
open Go.RowKit Go.Proofs.YtebeoihhegjpkaaW.PrintWords Go.Proofs.YtebeoihhegjpkaaW.PrintLast Go.Proofs.YtebeoihhegjpkaaW.PrintMore

theorem w64 {n : Int} (h0 : -9223372036854775808 ≤ n) (h1 : n ≤ 9223372036854775807) : wrap64 n = n := by
  unfold wrap64; omega

theorem size_nil {s : ByteArray} : s.toList = ([] : List UInt8) ↔ s.size = 0 := by
  rw [ByteArray.toList_eq, ← data_length]
  exact List.length_eq_zero_iff.symm

/-- The pieces of a text: at most f of them, the first of them piece i. -/
def pieces (sz : List Int) (ring seq : Int) : Nat → Nat → ByteArray → Option (List S39)
  | 0, _, s => if s.size = 0 then some [] else none
  | f + 1, i, s => if s.size = 0 then some [] else
    (pieces sz ring seq f (i + 1) (s.extract (mn (rd sz ((i : Int) % (sz.length : Int))) (s.size : Int)).toNat s.size)).map
      fun r => (⟨((i : Int) == 0), ((mn (rd sz ((i : Int) % (sz.length : Int))) (s.size : Int)) == (s.size : Int)), (seq + i) % ring, s.extract 0 (mn (rd sz ((i : Int) % (sz.length : Int))) (s.size : Int)).toNat⟩ : S39) :: r

/-- How many bytes piece i takes. -/
def cutN (sz : List Int) (i : Nat) (s : ByteArray) : Nat := (mn (rd sz ((i : Int) % (sz.length : Int))) (s.size : Int)).toNat

structure Fine (sz : List Int) (ring seq : Int) : Prop where
  some1 : 0 < sz.length
  most : sz.length ≤ 64
  each : ∀ i : Int, 0 ≤ i → i < sz.length → 1 ≤ rd sz i ∧ rd sz i ≤ 1500
  ring2 : ring = 4096 ∨ ring = 16777216
  seq0 : 0 ≤ seq
  seqr : seq < ring

theorem mod_in {sz : List Int} (h : 0 < sz.length) (i : Nat) : 0 ≤ (i : Int) % (sz.length : Int) ∧ (i : Int) % (sz.length : Int) < (sz.length : Int) :=
  ⟨Int.emod_nonneg _ (by omega), Int.emod_lt_of_pos _ (by omega)⟩

theorem mn_le {a b : Int} : mn a b ≤ b ∧ mn a b ≤ a ∧ (mn a b = a ∨ mn a b = b) := by
  unfold mn; split <;> omega

theorem cut_l1 {sz : List Int} {ring seq : Int} (F : Fine sz ring seq) : ∀ (f i k : Nat) (acc : List S39) (s : ByteArray), i + f = 64 → f < k → acc.length = i → s.size ≤ 1500 →
    split_Cut.l1 k s sz seq ring acc (i : Int) = some (match pieces sz ring seq f i s with | some r => (acc ++ r, 0) | none => ([], 1800)) := by
  intro f
  induction f with
  | zero =>
    intro i k acc s hi hk ha hs
    obtain ⟨k, rfl⟩ : ∃ m, k = m + 1 := ⟨k - 1, by omega⟩
    simp only [split_Cut.l1, pieces]
    by_cases h : s.size = 0
    · rw [if_pos (size_nil.2 h), if_pos h]; simp
    · rw [if_neg (fun e => h (size_nil.1 e)), if_pos (by omega), if_neg h]
  | succ f ih =>
    intro i k acc s hi hk ha hs
    obtain ⟨k, rfl⟩ : ∃ m, k = m + 1 := ⟨k - 1, by omega⟩
    simp only [split_Cut.l1, pieces]
    by_cases h : s.size = 0
    · rw [if_pos (size_nil.2 h), if_pos h]; simp
    · have hm := mod_in F.some1 i
      have htm : Int.tmod (i : Int) (sz.length : Int) = (i : Int) % (sz.length : Int) := Int.tmod_eq_emod_of_nonneg (by omega)
      have he := F.each _ hm.1 hm.2
      have h1 := F.some1
      have h2 := F.seq0
      have h3 := F.seqr
      rw [if_neg (fun e => h (size_nil.1 e)), if_neg (by omega), if_neg (by omega), htm, if_pos hm.1, if_pos hm.2, if_neg h]
      have hmn := @mn_le (rd sz ((i : Int) % (sz.length : Int))) (s.size : Int)
      generalize hN : mn (rd sz ((i : Int) % (sz.length : Int))) (s.size : Int) = N at hmn ⊢
      have hr := F.ring2
      rw [if_neg (by omega), if_pos (by omega), if_pos (by omega), if_pos (by omega)]
      rw [w64 (n := (i : Int) + 1) (by omega) (by omega), w64 (n := seq + (i : Int)) (by omega) (by omega)]
      have hq : Int.tmod (seq + (i : Int)) ring = (seq + (i : Int)) % ring := Int.tmod_eq_emod_of_nonneg (by omega)
      rw [hq]
      have := ih (i + 1) k (acc ++ [(⟨((i : Int) == 0), (N == (s.size : Int)), (seq + (i : Int)) % ring, s.extract 0 N.toNat⟩ : S39)]) (s.extract N.toNat s.size) (by omega) (by omega) (by simp; omega) (by simp; omega)
      rw [show ((i + 1 : Nat) : Int) = (i : Int) + 1 by omega] at this
      rw [this]
      cases pieces sz ring seq f (i + 1) (s.extract N.toNat s.size) <;> simp

theorem rd_mem {sz : List Int} {i : Int} (h0 : 0 ≤ i) (h1 : i < sz.length) : rd sz i ∈ sz := by
  unfold rd
  have : i.toNat < sz.length := by omega
  rw [List.getD_eq_getElem?_getD, List.getElem?_eq_getElem this]
  exact List.getElem_mem this

/-- Which calls are let by. -/
def okArgs (s : ByteArray) (sz : List Int) (seq : Int) (short : Bool) : Prop :=
  1 ≤ s.size ∧ s.size ≤ 1500 ∧ 1 ≤ sz.length ∧ sz.length ≤ 64 ∧ 0 ≤ seq ∧ seq < (if short = true then 4096 else 16777216) ∧ ∀ i : Int, 0 ≤ i → i < sz.length → 1 ≤ rd sz i ∧ rd sz i ≤ 1500

def ringOf (short : Bool) : Int := if short = true then 4096 else 16777216

theorem ringOf_eq (b : Bool) : ringOf b = 4096 ∨ ringOf b = 16777216 := by unfold ringOf; split <;> simp

theorem ring_f (b : Bool) : mphead_Ring.f b = some (ringOf b) := by
  unfold mphead_Ring.f ringOf
  split <;> rfl

theorem cut_l0 {s : ByteArray} {sz : List Int} {ring seq : Int} (hl : sz.length ≤ 64) : ∀ (d : Nat) (k : Nat) (i : Int), 0 ≤ i → (sz.length : Int) - i = d → d + 65 < k →
    (∃ j : Int, i ≤ j ∧ j < sz.length ∧ ¬ (1 ≤ rd sz j ∧ rd sz j ≤ 1500)) ∧ split_Cut.l0 k s sz seq ring sz (sz.length : Int) i = some ([], 1800) ∨
    (∀ j : Int, i ≤ j → j < sz.length → 1 ≤ rd sz j ∧ rd sz j ≤ 1500) ∧ ∃ k', 64 < k' ∧ split_Cut.l0 k s sz seq ring sz (sz.length : Int) i = split_Cut.l1 k' s sz seq ring [] 0 := by
  intro d
  induction d with
  | zero =>
    intro k i h0 hd hk
    obtain ⟨k, rfl⟩ : ∃ m, k = m + 1 := ⟨k - 1, by omega⟩
    right
    refine ⟨fun j h1 h2 => by omega, k, by omega, ?_⟩
    simp only [split_Cut.l0]
    rw [if_neg (by omega)]
  | succ d ih =>
    intro k i h0 hd hk
    obtain ⟨k, rfl⟩ : ∃ m, k = m + 1 := ⟨k - 1, by omega⟩
    simp only [split_Cut.l0]
    rw [if_pos (show i < (sz.length : Int) by omega), if_pos h0, if_pos (show i < (sz.length : Int) by omega)]
    rw [w64 (n := i + 1) (by omega) (by omega)]
    by_cases h : 1 ≤ rd sz i ∧ rd sz i ≤ 1500
    · have hm : split_may.f (rd sz i) = some true := by unfold split_may.f; rw [if_pos (by omega)]; simp [h.2]
      rw [hm]; simp only [Option.bind_some, if_true]
      rcases ih k (i + 1) (by omega) (by omega) (by omega) with ⟨⟨j, h1, h2, h3⟩, e⟩ | ⟨h1, k', h2, e⟩
      · exact .inl ⟨⟨j, by omega, h2, h3⟩, e⟩
      · refine .inr ⟨fun j h3 h4 => ?_, k', h2, e⟩
        by_cases hj : j = i
        · rw [hj]; exact h
        · exact h1 j (by omega) h4
    · have hm : split_may.f (rd sz i) = some false := by
        unfold split_may.f
        by_cases h1 : rd sz i ≥ 1
        · rw [if_pos h1]; simp; omega
        · rw [if_neg h1]
      left
      refine ⟨⟨i, by omega, by omega, h⟩, ?_⟩
      rw [hm]; simp

/-- split.Cut in closed form. -/
theorem cut_f (s : ByteArray) (sz : List Int) (seq : Int) (short : Bool) (k : Nat) (hk : 200 ≤ k) :
    (¬ okArgs s sz seq short ∧ split_Cut.f k s sz seq short = some ([], 1800)) ∨
    (okArgs s sz seq short ∧ Fine sz (ringOf short) seq ∧ split_Cut.f k s sz seq short = some (match pieces sz (ringOf short) seq 64 0 s with | some r => (r, 0) | none => ([], 1800))) := by
  have hr : ringOf short = if short = true then 4096 else 16777216 := rfl
  obtain ⟨k, rfl⟩ : ∃ m, k = m + 1 := ⟨k - 1, by omega⟩
  have hno : split_Cut.j0 (k + 1) s sz seq (ringOf short) true = some ([], 1800) := by simp [split_Cut.j0]
  unfold split_Cut.f
  rw [ring_f]
  simp only [Option.bind_some]
  by_cases h1 : 1 ≤ s.size ∧ s.size ≤ 1500
  · have hm : split_may.f (s.size : Int) = some true := by unfold split_may.f; rw [if_pos (by omega)]; simp; omega
    rw [hm]; simp only [Option.bind_some, if_true]
    by_cases h2 : (sz.length : Int) < 1
    · exact .inl ⟨fun h => by unfold okArgs at h; omega, by rw [if_pos h2]; exact hno⟩
    rw [if_neg h2]
    by_cases h3 : (sz.length : Int) > 64
    · exact .inl ⟨fun h => by unfold okArgs at h; omega, by rw [if_pos h3]; exact hno⟩
    rw [if_neg h3]
    by_cases h4 : seq < 0
    · exact .inl ⟨fun h => by unfold okArgs at h; omega, by rw [if_pos h4]; exact hno⟩
    rw [if_neg h4]
    by_cases h5 : seq ≥ ringOf short
    · exact .inl ⟨fun h => by unfold okArgs at h; rw [← hr] at h; omega, by rw [decide_eq_true h5]; exact hno⟩
    rw [decide_eq_false h5]
    simp only [split_Cut.j0, if_neg (show ¬ (false = true) by simp)]
    rcases cut_l0 (s := s) (ring := ringOf short) (seq := seq) (sz := sz) (by omega) sz.length k 0 (by omega) (by omega) (by omega) with ⟨⟨j, a, b, c⟩, e⟩ | ⟨a, k', b, e⟩
    · exact .inl ⟨fun h => c (h.2.2.2.2.2.2 j a b), e⟩
    · have F : Fine sz (ringOf short) seq := ⟨by omega, by omega, a, ringOf_eq short, by omega, by omega⟩
      have h5' : ¬ ((if short = true then 4096 else 16777216 : Int) ≤ seq) := by rw [← hr]; omega
      refine .inr ⟨⟨h1.1, h1.2, by omega, by omega, by omega, by omega, a⟩, F, ?_⟩
      rw [e]
      have := cut_l1 F 64 0 k' [] s (by omega) (by omega) rfl h1.2
      simpa using this
  · have hm : split_may.f (s.size : Int) = some false := by
      unfold split_may.f
      by_cases h : (s.size : Int) ≥ 1
      · rw [if_pos h]; simp; omega
      · rw [if_neg h]
    rw [hm]; simp only [Option.bind_some]
    exact .inl ⟨fun h => h1 ⟨h.1, h.2.1⟩, by simp [hno]⟩

/-- What the pieces are. -/
theorem pieces_say {sz : List Int} {ring seq : Int} (F : Fine sz ring seq) : ∀ (f i : Nat) (s : ByteArray) (r : List S39), pieces sz ring seq f i s = some r →
    r.length ≤ f ∧ r.flatMap (fun x => x.f3.data.toList) = s.data.toList ∧
    ∀ j, j < r.length → (rd_T39 r j).f0 = decide (i + j = 0) ∧ (rd_T39 r j).f1 = decide (j + 1 = r.length) ∧ (rd_T39 r j).f2 = (seq + ((i + j : Nat) : Int)) % ring ∧
      1 ≤ (rd_T39 r j).f3.size ∧ ((rd_T39 r j).f3.size : Int) ≤ rd sz (((i + j : Nat) : Int) % (sz.length : Int)) := by
  intro f
  induction f with
  | zero =>
    intro i s r h
    simp only [pieces] at h
    split at h
    · rename_i h0
      cases h
      refine ⟨by simp, ?_, fun j hj => by simp at hj⟩
      have := data_length s
      simp only [List.flatMap_nil]
      exact (List.length_eq_zero_iff.1 (by omega)).symm
    · cases h
  | succ f ih =>
    intro i s r h
    simp only [pieces] at h
    split at h
    · rename_i h0
      cases h
      refine ⟨by simp, ?_, fun j hj => by simp at hj⟩
      have := data_length s
      simp only [List.flatMap_nil]
      exact (List.length_eq_zero_iff.1 (by omega)).symm
    · rename_i h0
      have hm := mod_in F.some1 i
      have he := F.each _ hm.1 hm.2
      have hmn := @mn_le (rd sz ((i : Int) % (sz.length : Int))) (s.size : Int)
      generalize hN : mn (rd sz ((i : Int) % (sz.length : Int))) (s.size : Int) = N at hmn h
      obtain ⟨r', hr', rfl⟩ := Option.map_eq_some_iff.1 h
      obtain ⟨a, b, c⟩ := ih _ _ _ hr'
      have hlen : r'.length = 0 ↔ N = s.size := by
        have hs : (s.extract N.toNat s.size).data.toList.length = s.size - N.toNat := by rw [data_length]; simp
        constructor
        · intro e
          have : r' = [] := List.length_eq_zero_iff.1 e
          rw [this] at b
          rw [← b] at hs
          simp at hs
          omega
        · intro e
          by_cases hz : r'.length = 0
          · exact hz
          · exfalso
            have hp := (c 0 (by omega)).2.2.2.1
            have : (r'.flatMap (fun x => x.f3.data.toList)).length = 0 := by rw [b, hs]; omega
            have h1 : r'.flatMap (fun x => x.f3.data.toList) = [] := List.length_eq_zero_iff.1 this
            rw [List.flatMap_eq_nil_iff] at h1
            cases r' with
            | nil => simp at hz
            | cons x t =>
              have h2 := h1 x (by simp)
              have h3 : (rd_T39 (x :: t) (0 : Nat)) = x := rfl
              rw [h3] at hp
              have := data_length x.f3
              rw [h2] at this
              simp at this
              omega
      refine ⟨by simp; omega, ?_, ?_⟩
      · rw [List.flatMap_cons, b]
        simp only [ByteArray.data_extract, Array.toList_extract, List.extract_eq_take_drop]
        rw [← data_length]
        simp only [List.drop_zero, Nat.sub_zero]
        rw [List.take_of_length_le (l := List.drop _ _) (by simp)]
        exact List.take_append_drop _ _
      · intro j hj
        cases j with
        | zero =>
          have h3 : ∀ (x : S39) (t : List S39), rd_T39 (x :: t) ((0 : Nat) : Int) = x := fun _ _ => rfl
          rw [h3]
          refine ⟨?_, ?_, rfl, ?_, ?_⟩
          · show ((i : Int) == 0) = _
            rw [Bool.eq_iff_iff]; simp
          · show (N == (s.size : Int)) = _
            rw [Bool.eq_iff_iff]
            simp only [List.length_cons, beq_iff_eq, decide_eq_true_eq]
            exact ⟨fun e => by have := hlen.2 e; omega, fun e => hlen.1 (by omega)⟩
          · show 1 ≤ (s.extract 0 N.toNat).size
            simp; omega
          · show ((s.extract 0 N.toNat).size : Int) ≤ _
            simp; omega
        | succ j =>
          have h3 : ∀ (x : S39) (t : List S39), rd_T39 (x :: t) ((j + 1 : Nat) : Int) = rd_T39 t (j : Int) := by
            intro x t
            unfold rd_T39
            rw [show ((j + 1 : Nat) : Int).toNat = j + 1 by omega, show ((j : Nat) : Int).toNat = j by omega]
            rfl
          rw [h3]
          simp only [List.length_cons] at hj
          obtain ⟨c1, c2, c3, c4, c5⟩ := c j (by omega)
          rw [c1, c2, c3]
          refine ⟨decide_eq_decide.2 (by omega), ?_, ?_, c4, ?_⟩
          · simp only [List.length_cons]; exact decide_eq_decide.2 (by omega)
          · rw [show i + 1 + j = i + (j + 1) by omega]
          · rw [show i + (j + 1) = i + 1 + j by omega]; exact c5

theorem div_step (a d : Int) (hd : 1 ≤ d) : (a + d - 1) / d = (a - d + d - 1) / d + 1 := by
  rw [show a + d - 1 = (a - d + d - 1) + d * 1 by omega, Int.add_mul_ediv_left _ _ (by omega)]

theorem div_last (a d : Int) (h1 : 1 ≤ a) (h : a ≤ d) : (a + d - 1) / d = 1 := by
  rw [show a + d - 1 = (a - 1) + d * 1 by omega, Int.add_mul_ediv_left _ _ (by omega), Int.ediv_eq_zero_of_lt (by omega) (by omega)]
  rfl

/-- One size alone: how many there are. -/
theorem pieces_one {d ring seq : Int} (F : Fine [d] ring seq) : ∀ (f i : Nat) (s : ByteArray),
    ((s.size : Int) ≤ f * d → ∃ r, pieces [d] ring seq f i s = some r ∧ (r.length : Int) = ((s.size : Int) + d - 1) / d) ∧ (f * d < (s.size : Int) → pieces [d] ring seq f i s = none) := by
  have hd : 1 ≤ d := (F.each 0 (by omega) (by simp)).1
  have hz : ∀ i : Nat, rd [d] ((i : Int) % (([d] : List Int).length : Int)) = d := by
    intro i
    have : (i : Int) % (([d] : List Int).length : Int) = 0 := by simp
    rw [this]; rfl
  have hq : (d - 1) / d = 0 := Int.ediv_eq_zero_of_lt (by omega) (by omega)
  intro f
  induction f with
  | zero =>
    intro i s
    simp only [pieces]
    refine ⟨fun h => ?_, fun h => ?_⟩
    · have h' : ((0 : Nat) : Int) * d = 0 := by simp
      rw [h'] at h
      have : s.size = 0 := by omega
      rw [if_pos this]
      exact ⟨[], rfl, by rw [this]; simp [hq]⟩
    · have h' : ((0 : Nat) : Int) * d = 0 := by simp
      rw [h'] at h
      rw [if_neg (by omega)]
  | succ f ih =>
    intro i s
    simp only [pieces, hz]
    by_cases h0 : s.size = 0
    · rw [if_pos h0]
      refine ⟨fun h => ⟨[], rfl, by rw [h0]; simp [hq]⟩, fun h => ?_⟩
      exfalso
      rw [h0] at h
      have : 0 ≤ ((f + 1 : Nat) : Int) * d := Int.mul_nonneg (by omega) (by omega)
      simp at h; simp at this; omega
    · rw [if_neg h0]
      have hmn := @mn_le d (s.size : Int)
      generalize hN : mn d (s.size : Int) = N at hmn ⊢
      have hN' : N = if (s.size : Int) < d then (s.size : Int) else d := by rw [← hN]; rfl
      have hs : ((s.extract N.toNat s.size).size : Int) = (s.size : Int) - N := by clear ih; simp; omega
      have hb1 : ∀ fd : Int, 0 ≤ fd → (s.size : Int) ≤ fd + d → (s.size : Int) - N ≤ fd := by clear ih; intro fd _ _; split at hN' <;> omega
      have hb2 : ∀ fd : Int, 0 ≤ fd → fd + d < (s.size : Int) → fd < (s.size : Int) - N := by clear ih; intro fd _ _; split at hN' <;> omega
      have q1 : (1 : Int) ≤ s.size := by clear ih; omega
      obtain ⟨i1, i2⟩ := ih (i + 1) (s.extract N.toNat s.size)
      rw [hs] at i1 i2
      have hf : ((f + 1 : Nat) : Int) * d = f * d + d := by
        rw [Int.natCast_add, Int.add_mul]; simp
      rw [hf]
      have hfd : 0 ≤ (f : Int) * d := Int.mul_nonneg (by omega) (by omega)
      generalize (f : Int) * d = fd at *
      refine ⟨fun h => ?_, fun h => ?_⟩
      · obtain ⟨r, e, hl⟩ := i1 (hb1 _ hfd h)
        rw [e]
        refine ⟨_, rfl, ?_⟩
        rw [List.length_cons, Int.natCast_add, hl]
        split at hN'
        · rename_i hlt
          rw [hN', Int.sub_self, div_last _ _ q1 (Int.le_of_lt hlt)]
          simp [hq]
        · rw [hN', div_step (s.size : Int) d hd]
          rfl
      · rw [i2 (hb2 _ hfd h)]
        rfl

end Go.Proofs.Ytebeoihhegjpkaa.PSplitForms
