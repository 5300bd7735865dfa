/- Statement Splits, the plain part: the document's cut is the program's. -/
import Derived.Test.YtebeoihhegjpkaaPSplitsx3
import Derived.Test.YtebeoihhegjpkaaCutASplits
namespace Go.Proofs.Ytebeoihhegjpkaa.PSplits
open Go.RowKit Go.Proofs.YtebeoihhegjpkaaW.PrintWords Go.Proofs.YtebeoihhegjpkaaW.PrintLast Go.Proofs.YtebeoihhegjpkaaW.PrintMore

theorem pieces_fuel {sz : List Int} {ring seq : Int} : ∀ (f i : Nat) (s : ByteArray) (r : List S39), pieces sz ring seq f i s = some r →
    ∀ f', (r.length ≤ f' → pieces sz ring seq f' i s = some r) ∧ (f' < r.length → pieces sz ring seq f' i s = none) := by
  intro f
  induction f with
  | zero =>
    intro i s r h f'
    simp only [pieces] at h
    split at h
    · rename_i h0
      cases h
      refine ⟨fun _ => ?_, fun h => by simp at h⟩
      cases f' <;> simp only [pieces, if_pos h0]
    · cases h
  | succ f ih =>
    intro i s r h f'
    simp only [pieces] at h
    split at h
    · rename_i h0
      cases h
      refine ⟨fun _ => ?_, fun h => by simp at h⟩
      cases f' <;> simp only [pieces, if_pos h0]
    · rename_i h0
      obtain ⟨r', hr', rfl⟩ := Option.map_eq_some_iff.1 h
      cases f' with
      | zero =>
        refine ⟨fun h => by simp at h, fun _ => ?_⟩
        simp only [pieces, if_neg h0]
      | succ f' =>
        obtain ⟨a, b⟩ := ih _ _ _ hr' f'
        simp only [pieces, if_neg h0, List.length_cons]
        exact ⟨fun h => by rw [a (by omega)]; rfl, fun h => by rw [b (by omega)]; rfl⟩

theorem pieces_all {sz : List Int} {ring seq : Int} (F : Fine sz ring seq) : ∀ (f i : Nat) (s : ByteArray), s.size ≤ f → ∃ r, pieces sz ring seq f i s = some r := by
  intro f
  induction f with
  | zero =>
    intro i s h
    exact ⟨[], by simp only [pieces]; rw [if_pos (by omega)]⟩
  | succ f ih =>
    intro i s h
    simp only [pieces]
    by_cases h0 : s.size = 0
    · exact ⟨[], by rw [if_pos h0]⟩
    · rw [if_neg h0]
      have hm := mod_in F.some1 i
      have he := F.each _ hm.1 hm.2
      have hmn := @mn_le (rd sz ((i : Int) % (sz.length : Int))) (s.size : Int)
      generalize mn (rd sz ((i : Int) % (sz.length : Int))) (s.size : Int) = N at hmn ⊢
      obtain ⟨r, hr⟩ := ih (i + 1) (s.extract N.toNat s.size) (by simp; omega)
      rw [hr]
      exact ⟨_, rfl⟩

theorem ref_ring (b : Bool) : withyref1_Ring.f b = some (ringOf b) := by unfold withyref1_Ring.f ringOf; split <;> rfl

theorem ref_l1 {sz : List Int} {seq : Int} {short : Bool} (F : Fine sz (ringOf short) seq) (s : ByteArray) (hs : s.size ≤ 1500) : ∀ (f i at_ k : Nat) (acc r : List S39), pieces sz (ringOf short) seq f i (s.extract at_ s.size) = some r →
    at_ ≤ s.size → (at_ = 0 ↔ i = 0) → i ≤ at_ → f < k → acc.length = i →
    withyref17_Cut.l1 k s sz seq short acc (at_ : Int) (i : Int) = some (if 64 < i + r.length then ([], 1800) else (acc ++ r, 0)) := by
  intro f
  induction f with
  | zero =>
    intro i at_ k acc r h hat h00 hi hk ha
    obtain ⟨k, rfl⟩ : ∃ m, k = m + 1 := ⟨k - 1, by omega⟩
    simp only [pieces] at h
    split at h
    · rename_i h0
      cases h
      have h1 : at_ = s.size := by simp at h0; omega
      simp only [withyref17_Cut.l1]
      rw [if_neg (by omega)]
      by_cases hc : 64 < i
      · rw [if_pos (by omega), if_pos (by simpa using hc)]
      · rw [if_neg (by omega), if_neg (by simpa using hc)]; simp
    · cases h
  | succ f ih =>
    intro i at_ k acc r h hat h00 hi hk ha
    obtain ⟨k, rfl⟩ : ∃ m, k = m + 1 := ⟨k - 1, by omega⟩
    simp only [pieces] at h
    have hse : (s.extract at_ s.size).size = s.size - at_ := by simp
    rw [hse] at h
    split at h
    · rename_i h0
      cases h
      simp only [withyref17_Cut.l1]
      rw [if_neg (by omega)]
      by_cases hc : 64 < i
      · rw [if_pos (by omega), if_pos (by simpa using hc)]
      · rw [if_neg (by omega), if_neg (by simpa using hc)]; simp
    · rename_i h0
      have hm := mod_in F.some1 i
      have htm : Int.tmod (i : Int) (sz.length : Int) = (i : Int) % (sz.length : Int) := Int.tmod_eq_emod_of_nonneg (by omega)
      have he := F.each _ hm.1 hm.2
      have g1 := F.some1
      have g2 := F.seq0
      have g3 := F.seqr
      have g4 := ringOf_eq short
      have hmn := @mn_le (rd sz ((i : Int) % (sz.length : Int))) ((s.size - at_ : Nat) : Int)
      have hto : mn (s.size : Int) ((at_ : Int) + rd sz ((i : Int) % (sz.length : Int))) = (at_ : Int) + mn (rd sz ((i : Int) % (sz.length : Int))) ((s.size - at_ : Nat) : Int) := by
        unfold mn; split <;> split <;> omega
      generalize hN : mn (rd sz ((i : Int) % (sz.length : Int))) ((s.size - at_ : Nat) : Int) = N at *
      obtain ⟨n, rfl⟩ := Int.eq_ofNat_of_zero_le (show 0 ≤ N by omega)
      obtain ⟨r', hr', rfl⟩ := Option.map_eq_some_iff.1 h
      have o1 : (at_ : Int) < (s.size : Int) := by omega
      have o2 : ¬ (sz.length : Int) = 0 := by omega
      have o3 : ¬ ringOf short = 0 := by omega
      have o4 : (0 : Int) ≤ (at_ : Int) := by omega
      have o5 : (at_ : Int) ≤ (at_ : Int) + (n : Int) := by omega
      have o6 : (at_ : Int) + (n : Int) ≤ (s.size : Int) := by omega
      have o7 : acc.length < 4398046511104 := by omega
      have o8 : (at_ : Int) + (n : Int) = ((at_ + n : Nat) : Int) := by omega
      have o9 : (i : Int) + 1 = ((i + 1 : Nat) : Int) := by omega
      have o10 : ((n : Int)).toNat = n := by omega
      have o11 : ((at_ : Int)).toNat = at_ := by omega
      have o12 : (((at_ + n : Nat) : Int)).toNat = at_ + n := by omega
      have o13 : n ≤ s.size - at_ := by omega
      have o14 : 1 ≤ n := by omega
      have q0 : 0 ≤ seq + (i : Int) := by omega
      have w1 : wrap64 ((at_ : Int) + rd sz ((i : Int) % (sz.length : Int))) = (at_ : Int) + rd sz ((i : Int) % (sz.length : Int)) := w64 (by omega) (by omega)
      have w2 : wrap64 (seq + (i : Int)) = seq + (i : Int) := w64 (by clear w1; omega) (by clear w1; omega)
      have w3 : wrap64 ((i : Int) + 1) = (i : Int) + 1 := w64 (by clear w1 w2; omega) (by clear w1 w2; omega)
      have hts : Int.tmod (seq + (i : Int)) (ringOf short) = (seq + (i : Int)) % ringOf short := Int.tmod_eq_emod_of_nonneg q0
      simp only [withyref17_Cut.l1]
      rw [if_pos o1, if_neg o2, htm, if_pos hm.1, if_pos hm.2, ref_ring, Option.bind_some, if_neg o3, if_pos o4, w1, hto, if_pos o5, if_pos o6, if_pos o7, w2, hts, w3, o8, o9, o11, o12]
      clear w1 w2 w3 hts htm
      rw [o10] at hr'
      have hx1 : (s.extract at_ s.size).extract n (s.size - at_) = s.extract (at_ + n) s.size := by
        rw [ByteArray.extract_extract]
        congr 1
        omega
      have hx2 : (s.extract at_ s.size).extract 0 n = s.extract at_ (at_ + n) := by
        rw [ByteArray.extract_extract]
        congr 1
        omega
      rw [hx1] at hr'
      have b1 : ((at_ : Int) == 0) = ((i : Int) == 0) := by rw [Bool.eq_iff_iff]; simp; omega
      have b2 : (((at_ + n : Nat) : Int) == (s.size : Int)) = ((n : Int) == ((s.size - at_ : Nat) : Int)) := by rw [Bool.eq_iff_iff, beq_iff_eq, beq_iff_eq]; omega
      rw [b1, b2, ih (i + 1) (at_ + n) k _ r' hr' (by omega) (by omega) (by omega) (by omega) (by simp; omega)]
      simp only [o10, hx2, List.length_cons, List.append_assoc, List.singleton_append]
      congr 1
      rw [show i + 1 + r'.length = i + (r'.length + 1) by omega]

theorem ref_l0 {s : ByteArray} {sz : List Int} {seq : Int} {short : Bool} (hl : sz.length ≤ 64) : ∀ (d : Nat) (k : Nat) (i : Int), 0 ≤ i → (sz.length : Int) - i = d → d + 1600 < k →
    (∃ j : Int, i ≤ j ∧ j < sz.length ∧ ¬ (1 ≤ rd sz j ∧ rd sz j ≤ 1500)) ∧ withyref17_Cut.l0 k s sz seq short i = some ([], 1800) ∨
    (∀ j : Int, i ≤ j → j < sz.length → 1 ≤ rd sz j ∧ rd sz j ≤ 1500) ∧ ∃ k', 1500 < k' ∧ withyref17_Cut.l0 k s sz seq short i = withyref17_Cut.l1 k' s sz seq short [] 0 0 := by
  intro d
  induction d with
  | zero =>
    intro k i h0 hd hk
    obtain ⟨k, rfl⟩ : ∃ m, k = m + 1 := ⟨k - 1, by omega⟩
    right
    refine ⟨fun j h1 h2 => by omega, k, by omega, ?_⟩
    simp only [withyref17_Cut.l0]
    rw [if_neg (by omega)]
  | succ d ih =>
    intro k i h0 hd hk
    obtain ⟨k, rfl⟩ : ∃ m, k = m + 1 := ⟨k - 1, by omega⟩
    have w1 : wrap64 (i + 1) = i + 1 := w64 (by omega) (by omega)
    simp only [withyref17_Cut.l0]
    rw [if_pos (show i < (sz.length : Int) by clear w1; omega), if_pos h0, w1]
    clear w1
    by_cases h1 : rd sz i < 1
    · rw [if_pos h1]
      exact .inl ⟨⟨i, by omega, by omega, by omega⟩, rfl⟩
    rw [if_neg h1]
    by_cases h2 : rd sz i > 1500
    · rw [if_pos h2]
      exact .inl ⟨⟨i, by omega, by omega, by omega⟩, rfl⟩
    rw [if_neg h2]
    rcases ih k (i + 1) (by omega) (by omega) (by omega) with ⟨⟨j, h1, h2, h3⟩, e⟩ | ⟨h3, k', h4, e⟩
    · exact .inl ⟨⟨j, by omega, h2, h3⟩, e⟩
    · refine .inr ⟨fun j h5 h6 => ?_, k', h4, e⟩
      by_cases hj : j = i
      · rw [hj]; omega
      · exact h3 j (by omega) h6

/-- The document's cut is the program's. -/
theorem ref_cut (s : ByteArray) (sz : List Int) (seq : Int) (short : Bool) (k k' : Nat) (hk : 200 ≤ k) (hk' : 1700 ≤ k') : withyref17_Cut.f k' s sz seq short = split_Cut.f k s sz seq short := by
  have hr : ringOf short = if short = true then 4096 else 16777216 := rfl
  obtain ⟨k', rfl⟩ : ∃ m, k' = m + 1 := ⟨k' - 1, by omega⟩
  have hno : withyref17_Cut.j0 (k' + 1) s sz seq short true = some ([], 1800) := by simp [withyref17_Cut.j0]
  rcases cut_f s sz seq short k hk with ⟨hn, h⟩ | ⟨hok, F, h⟩
  · rw [h]
    unfold withyref17_Cut.f
    by_cases h1 : (s.size : Int) < 1
    · rw [if_pos h1]; exact hno
    rw [if_neg h1]
    by_cases h2 : (s.size : Int) > 1500
    · rw [if_pos h2]; exact hno
    rw [if_neg h2]
    by_cases h3 : (sz.length : Int) < 1
    · rw [if_pos h3]; exact hno
    rw [if_neg h3]
    by_cases h4 : (sz.length : Int) > 64
    · rw [if_pos h4]; exact hno
    rw [if_neg h4]
    by_cases h5 : seq < 0
    · rw [if_pos h5]; exact hno
    rw [if_neg h5, ref_ring, Option.bind_some]
    by_cases h6 : seq ≥ ringOf short
    · rw [decide_eq_true h6]; exact hno
    rw [decide_eq_false h6]
    simp only [withyref17_Cut.j0, if_neg (show ¬ (false = true) by simp)]
    rcases ref_l0 (s := s) (seq := seq) (short := short) (sz := sz) (by omega) sz.length k' 0 (by omega) (by omega) (by omega) with ⟨_, e⟩ | ⟨a, _⟩
    · exact e
    · exact absurd ⟨by omega, by omega, by omega, by omega, by omega, by rw [← hr]; omega, a⟩ hn
  · rw [h]
    obtain ⟨o1, o2, o3, o4, o5, o6, o7⟩ := hok
    rw [← hr] at o6
    unfold withyref17_Cut.f
    rw [if_neg (by omega), if_neg (by omega), if_neg (by omega), if_neg (by omega), if_neg (by omega), ref_ring, Option.bind_some, decide_eq_false (by omega)]
    simp only [withyref17_Cut.j0, if_neg (show ¬ (false = true) by simp)]
    rcases ref_l0 (s := s) (seq := seq) (short := short) (sz := sz) (by omega) sz.length k' 0 (by omega) (by omega) (by omega) with ⟨⟨j, a, b, c⟩, _⟩ | ⟨_, k2, hk2, e⟩
    · exact absurd (o7 j a b) c
    · rw [e]
      have hs : s.extract 0 s.size = s := by
        apply ByteArray.ext
        rw [ByteArray.data_extract]
        exact Array.extract_size
      obtain ⟨r, hp⟩ := pieces_all F 1500 0 s o2
      have hl := ref_l1 F s o2 1500 0 0 k2 [] r (by rw [hs]; exact hp) (by omega) (by omega) (by omega) (by omega) rfl
      have hl' : withyref17_Cut.l1 k2 s sz seq short [] 0 0 = some (if 64 < 0 + r.length then ([], 1800) else ([] ++ r, 0)) := hl
      rw [hl']
      obtain ⟨a, b⟩ := pieces_fuel 1500 0 s r hp 64
      by_cases hc : r.length ≤ 64
      · rw [a hc, if_neg (by omega)]; rfl
      · rw [b (by omega), if_pos (by omega)]

/-- A list of fragments is as itself. -/
theorem same_self (r : List S39) (hr : r.length ≤ 64) (k : Nat) (hk : 70 ≤ k) : withylaw0_SameFrags.f k r r = some true := by
  have key : ∀ (d k j : Nat), j + d = r.length → d < k → withylaw0_SameFrags.l0 k r r (j : Int) = some true := by
    intro d
    induction d with
    | zero =>
      intro k j hj hk
      obtain ⟨k, rfl⟩ : ∃ m, k = m + 1 := ⟨k - 1, by omega⟩
      simp only [withylaw0_SameFrags.l0]
      rw [if_neg (by omega)]
    | succ d ih =>
      intro k j hj hk
      obtain ⟨k, rfl⟩ : ∃ m, k = m + 1 := ⟨k - 1, by omega⟩
      have o1 : (j : Int) < (r.length : Int) := by omega
      have o2 : (0 : Int) ≤ (j : Int) := by omega
      have w1 : wrap64 ((j : Int) + 1) = ((j + 1 : Nat) : Int) := by rw [w64 (by omega) (by omega)]; omega
      simp only [withylaw0_SameFrags.l0]
      rw [if_pos o1, if_pos o2, if_pos o1, if_neg (by simp), w1]
      clear w1
      exact ih k (j + 1) (by omega) (by omega)
  unfold withylaw0_SameFrags.f
  rw [if_pos rfl]
  exact key r.length k 0 (by omega) (by omega)

theorem pieces_le {s : ByteArray} {sz : List Int} {seq : Int} {short : Bool} {k : Nat} (hk : 200 ≤ k) {r : List S39} {e : Int} (h : split_Cut.f k s sz seq short = some (r, e)) : r.length ≤ 64 := by
  rcases cut_f s sz seq short k hk with ⟨_, h'⟩ | ⟨_, F, h'⟩
  · rw [h'] at h; cases h; simp
  · rw [h'] at h
    cases hp : pieces sz (ringOf short) seq 64 0 s with
    | none => rw [hp] at h; cases h; simp
    | some q =>
      rw [hp] at h
      cases h
      exact (pieces_say F 64 0 s _ hp).1

theorem cut_some (s : ByteArray) (sz : List Int) (seq : Int) (short : Bool) (k : Nat) (hk : 200 ≤ k) : ∃ r e, split_Cut.f k s sz seq short = some (r, e) := by
  rcases cut_f s sz seq short k hk with ⟨_, h'⟩ | ⟨_, F, h'⟩
  · exact ⟨_, _, h'⟩
  · rw [h']
    cases pieces sz (ringOf short) seq 64 0 s <;> exact ⟨_, _, rfl⟩

end Go.Proofs.Ytebeoihhegjpkaa.PSplits
