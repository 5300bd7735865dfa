/- Statement SplitOne, the walk: a packet that fits is one fragment. -/
import Derived.Test.YtebeoihhegjpkaaPSplitFormsx3
import Derived.Test.YtebeoihhegjpkaaCutASplitForms
import Derived.Test.YtebeoihhegjpkaaPlain
namespace Go.Proofs.Ytebeoihhegjpkaa.HandOne
open Go.RowKit Go.Proofs.Ytebeoihhegjpkaa.PSplitForms Go.Proofs.YtebeoihhegjpkaaW.PrintWords Go.Proofs.YtebeoihhegjpkaaW.PrintLast Go.Proofs.YtebeoihhegjpkaaW.PrintMore Go.Proofs.Ytebeoihhegjpkaa.Plain
attribute [local go_sem] max2_int min2_int max_two min_two

theorem awake_ok {k : Nat} (hk : 300 ≤ k) : withylaw18_awake.f k = some true :=
  at_rounds (g := withylaw18_awake.f) withylaw18_awake.mono hk (by kernel_rfl)

theorem awake_calls (w : World) : Calls Try.prog 15 #[] w fun e w' => e = .returned (.bool true) ∧ Below w.heap.size w w' := withylaw18_awake.calls 300 true w (awake_ok (Nat.le_refl _))

/-- A packet that fits. -/
theorem cut_one (t : ByteArray) (m q : Int) (h0 : 1 ≤ t.size) (h1 : (t.size : Int) ≤ m) (h2 : m ≤ 1500) (h3 : 0 ≤ q) (h4 : q < 4096) (k : Nat) (hk : 200 ≤ k) :
    split_Cut.f k t [m] q true = some ([(⟨true, true, q, t⟩ : S39)], 0) := by
  have hr : ringOf true = 4096 := rfl
  have hrr : ∀ i : Int, 0 ≤ i → i < ([m] : List Int).length → rd [m] i = m := by
    intro i h0 h1
    have : i = 0 := by simp at h1; omega
    rw [this]; rfl
  rcases cut_f t [m] q true k hk with ⟨hno, _⟩ | ⟨_, F, h⟩
  · exact absurd ⟨h0, by omega, by simp, by simp, h3, h4, fun i a b => by rw [hrr i a b]; omega⟩ hno
  · obtain ⟨p1, _⟩ := pieces_one F 64 0 t
    obtain ⟨r, e, hl⟩ := p1 (by omega)
    rw [div_last _ _ (by omega) h1] at hl
    obtain ⟨s1, s2, s3⟩ := pieces_say F 64 0 t r e
    have hz := s3 0 (by omega)
    cases r with
    | nil => simp at hl
    | cons x r =>
      cases r with
      | cons y r => simp at hl; omega
      | nil =>
        have e0 : rd_T39 [x] ((0 : Nat) : Int) = x := rfl
        rw [e0] at hz
        obtain ⟨z1, z2, z3, _, _⟩ := hz
        have z4 : x.f3 = t := by
          have : x.f3.data.toList = t.data.toList := by simpa using s2
          exact ByteArray.ext (Array.toList_inj.1 this)
        rw [h, e]
        have ex : x = ⟨true, true, q, t⟩ := by
          cases x
          simp only at z1 z2 z3 z4
          rw [z1, z2, z3, z4, hr]
          simp
          omega
        rw [ex]

theorem num_calls (x : Int) (w : World) : Calls Try.prog 12 #[.int .i64 x] w fun e w' => e = .returned (.int .i64 x) ∧ w = w' := by
  go_enter Try.func12, Try.ntmps12
  go_wp2
  go_ret
  exact ⟨rfl, rfl⟩

/-- split.Cut at a built slice of one size that fits. -/
theorem cut_calls (t : ByteArray) (m q : Int) (w : World) (h0 : 1 ≤ t.size) (h1 : (t.size : Int) ≤ m) (h2 : m ≤ 1500) (h3 : 0 ≤ q) (h4 : q < 4096) :
    Calls Try.prog 9 #[.string t, .slice (some ⟨w.heap.size, 0, none⟩) 1 1, .int .i64 q, .bool true] (w.alloc (.cells #[.int .i64 m] 3)) fun e w' => ∃ (g : Nat) (c : Nat), e = .returned (.tuple #[.slice (some ⟨g, 0, none⟩) 1 c, .int .i64 0]) ∧
      w'.cell? ⟨g, 0, none⟩ = some (.bool true) ∧ w'.cell? ⟨g, 1, none⟩ = some (.bool true) ∧ w'.cell? ⟨g, 2, none⟩ = some (.int .i64 q) ∧ w'.cell? ⟨g, 3, none⟩ = some (.string t) ∧ Below w.heap.size w w' := by
  have hC : (Kd.int .i64).C (w.alloc (.cells #[.int .i64 m] 3)) (some ⟨w.heap.size, 0, none⟩) ([m] : List Int).length [m] := by
    refine ⟨rfl, by simp, fun _ => ⟨_, rfl, fun j p hp => ?_⟩⟩
    cases j with
    | zero =>
      simp at hp
      subst hp
      refine ⟨[.int .i64 m], rfl, rfl, fun i u hu => ?_⟩
      cases i with
      | zero =>
        simp at hu
        subst hu
        simp [add_plain, Kd.int, Kd.scalar]
      | succ i => simp at hu
    | succ j => simp at hp
  refine (split_Cut.calls 300 t _ 1 [m] q true _ _ _ hC (by simp) (cut_one t m q h0 h1 h2 h3 h4 300 (by omega))).mono ?_
  rintro e w' ⟨v, rfl, hR, hb⟩
  obtain ⟨A, c, rfl, hl, hCC⟩ := Kd.R_reads hR
  obtain ⟨ad, rfl, c0, c1, c2, c3⟩ := at_T39 hCC 0 (by omega) (by simp)
  obtain ⟨inner, ho⟩ := Kd.R_own hR
  obtain ⟨g, rfl⟩ : ∃ g, ad = ⟨g, 0, none⟩ := by
    rcases ho.2 with ⟨h, _⟩ | ⟨g, cap, cur, h, _⟩
    · simp at h
    · simp at h
      exact ⟨g, h.1⟩
  simp only [rd_T39, Int.toNat_zero, Nat.zero_mul, add_plain, Nat.zero_add] at c0 c1 c2 c3
  exact ⟨g, c, rfl, c0, c1, c2, c3, (((Below.refl _ _).alloc (Nat.le_refl _) _).trans (hb.mono (by simp)))⟩

set_option maxHeartbeats 1000000 in
set_option maxRecDepth 100000 in
theorem one_small (s : ByteArray) (more seq : Int) (w : World) (hs : s.size + 1 ≤ 1500) :
    Calls Try.prog 6 #[.string s, .int .i64 more, .int .i64 seq] w fun e w' => e = .returned (.bool true) ∧ Below w.heap.size w w' := by
  have hsz : (s ++ (⟨#[120]⟩ : ByteArray)).size = s.size + 1 := by rw [ByteArray.size_append]; rfl
  have hm := and255 more
  have hq := and4095 seq
  have m0 : 0 ≤ more % 256 := Int.emod_nonneg _ (by omega)
  have m1 : more % 256 < 256 := Int.emod_lt_of_pos _ (by omega)
  have q0 : 0 ≤ seq % 4096 := Int.emod_nonneg _ (by omega)
  have q1 : seq % 4096 < 4096 := Int.emod_lt_of_pos _ (by omega)
  generalize more % 256 = mm at *
  generalize seq % 4096 = q at *
  go_enter Try.func6, Try.ntmps6
  go_wp2_with ((go_at_call 15; refine (awake_calls _).mono ?_; rintro e w1 ⟨rfl, hb⟩))
  all_goals
    refine (cut_calls _ _ q _ (by omega) (by omega) (by omega) q0 q1).mono ?_
    rintro e w2 ⟨g, c, rfl, c0, c1, c2, c3, hb2⟩
    have HB := (hb.trans (hb2.mono hb.size))
    clear hb hb2
    go_wp2_with (go_at_call 12; refine (num_calls _ _).mono ?_; rintro e w' ⟨rfl, rfl⟩)
    go_ret
    exact ⟨rfl, HB⟩

set_option maxHeartbeats 1000000 in
set_option maxRecDepth 100000 in
theorem one_large (s : ByteArray) (more seq : Int) (w : World) (hs : 1500 < s.size + 1) (hs2 : s.size ≤ 140737488351232) :
    Calls Try.prog 6 #[.string s, .int .i64 more, .int .i64 seq] w fun e w' => e = .returned (.bool true) ∧ Below w.heap.size w w' := by
  have hsz : (s ++ (⟨#[120]⟩ : ByteArray)).size = s.size + 1 := by rw [ByteArray.size_append]; rfl
  have hm := and255 more
  have hq := and4095 seq
  have m0 : 0 ≤ more % 256 := Int.emod_nonneg _ (by omega)
  have m1 : more % 256 < 256 := Int.emod_lt_of_pos _ (by omega)
  have q0 : 0 ≤ seq % 4096 := Int.emod_nonneg _ (by omega)
  have q1 : seq % 4096 < 4096 := Int.emod_lt_of_pos _ (by omega)
  generalize more % 256 = mm at *
  generalize seq % 4096 = q at *
  have hex : ((s ++ (⟨#[120]⟩ : ByteArray)).extract 0 1500).size = 1500 := by rw [ByteArray.size_extract, hsz]; omega
  go_enter Try.func6, Try.ntmps6
  go_wp2_with ((go_at_call 15; refine (awake_calls _).mono ?_; rintro e w1 ⟨rfl, hb⟩))
  all_goals
    refine (cut_calls _ _ q _ (by omega) (by omega) (by omega) q0 q1).mono ?_
    rintro e w2 ⟨g, c, rfl, c0, c1, c2, c3, hb2⟩
    have HB := (hb.trans (hb2.mono hb.size))
    clear hb hb2
    go_wp2_with (go_at_call 12; refine (num_calls _ _).mono ?_; rintro e w' ⟨rfl, rfl⟩)
    go_ret
    exact ⟨rfl, HB⟩

theorem one_any (s : ByteArray) (more seq : Int) (w : World) (hs2 : s.size ≤ 140737488351232) :
    Calls Try.prog 6 #[.string s, .int .i64 more, .int .i64 seq] w fun e w' => e = .returned (.bool true) ∧ Below w.heap.size w w' := by
  by_cases h : s.size + 1 ≤ 1500
  · exact one_small s more seq w h
  · exact one_large s more seq w (by omega) hs2

end Go.Proofs.Ytebeoihhegjpkaa.HandOne
