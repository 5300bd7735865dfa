/- Statement SplitNumbers, the walk: two packets cut one behind the other have numbers one behind the other. -/
import Derived.Test.YtebeoihhegjpkaaHandSplitOne
import Derived.Lib.Hide
import Derived.Deep.QuietTactic
import Derived.BigQuiet
namespace Go.Proofs.Ytebeoihhegjpkaa.HandNumbers
open Go.RowKit Go.Proofs.Ytebeoihhegjpkaa.PSplitForms Go.Proofs.YtebeoihhegjpkaaW.PrintWords Go.Proofs.YtebeoihhegjpkaaW.PrintLast Go.Proofs.YtebeoihhegjpkaaW.PrintMore Go.Proofs.Ytebeoihhegjpkaa.Plain Go.Proofs.Ytebeoihhegjpkaa.HandOne
attribute [local go_sem] max2_int min2_int max_two min_two

/-- How many fragments. -/
def many (t : ByteArray) (m : Int) : Nat := (((t.size : Int) + m - 1) / m).toNat

theorem many_in (t : ByteArray) (m : Int) (h0 : 1 ≤ t.size) (h1 : t.size ≤ 200) (h2 : 4 ≤ m) (h3 : m ≤ 35) : 1 ≤ many t m ∧ many t m ≤ 64 ∧ (many t m : Int) = ((t.size : Int) + m - 1) / m := by
  unfold many
  have a : 0 ≤ ((t.size : Int) + m - 1) / m := Int.ediv_nonneg (by omega) (by omega)
  have b : 1 * m ≤ (t.size : Int) + m - 1 := by omega
  have b' := (Int.le_ediv_iff_mul_le (show 0 < m by omega)).2 b
  have c : ((t.size : Int) + m - 1) / m < 65 := Int.ediv_lt_of_lt_mul (by omega) (by omega)
  omega

/-- split.Cut at a built slice of one size. -/
theorem cut_calls (t : ByteArray) (m q : Int) (short : Bool) (w : World) (h0 : 1 ≤ t.size) (h1 : t.size ≤ 200) (h2 : 4 ≤ m) (h2' : m ≤ 35) (h3 : 0 ≤ q) (h4 : q < ringOf short) :
    Calls Try.prog 9 #[.string t, .slice (some ⟨w.heap.size, 0, none⟩) 1 1, .int .i64 q, .bool short] (w.alloc (.cells #[.int .i64 m] 3)) fun e w' => ∃ (g : Nat) (c : Nat), e = .returned (.tuple #[.slice (some ⟨g, 0, none⟩) (many t m) c, .int .i64 0]) ∧
      (∀ i : Nat, i < many t m → w'.cell? ⟨g, i * 4 + 2, none⟩ = some (.int .i64 ((q + i) % ringOf short))) ∧ Below w.heap.size w w' := by
  have hrr : ∀ i : Int, 0 ≤ i → i < ([m] : List Int).length → rd [m] i = m := by
    intro i h0 h1
    have : i = 0 := by simp at h1; omega
    rw [this]; rfl
  have hC : (Kd.int .i64).C (w.alloc (.cells #[.int .i64 m] 3)) (some ⟨w.heap.size, 0, none⟩) ([m] : List Int).length [m] := by
    refine ⟨rfl, by simp, fun _ => ⟨_, rfl, fun j p hp => ?_⟩⟩
    cases j with
    | zero =>
      simp at hp
      subst hp
      refine ⟨[.int .i64 m], rfl, rfl, fun i u hu => ?_⟩
      cases i with
      | zero =>
        simp at hu
        subst hu
        simp [add_plain, Kd.int, Kd.scalar]
      | succ i => simp at hu
    | succ j => simp at hp
  obtain ⟨n1, n2, n3⟩ := many_in t m h0 h1 h2 h2'
  obtain ⟨r, hr, hl, hq⟩ : ∃ r : List S39, split_Cut.f 300 t [m] q short = some (r, 0) ∧ r.length = many t m ∧ ∀ j : Nat, j < r.length → (rd_T39 r j).f2 = (q + j) % ringOf short := by
    rcases cut_f t [m] q short 300 (by omega) with ⟨hno, _⟩ | ⟨_, F, h⟩
    · exact absurd ⟨h0, by omega, by simp, by simp, h3, h4, fun i a b => by rw [hrr i a b]; omega⟩ hno
    · obtain ⟨p1, _⟩ := pieces_one F 64 0 t
      obtain ⟨r, e, hl⟩ := p1 (by omega)
      obtain ⟨s1, s2, s3⟩ := pieces_say F 64 0 t r e
      refine ⟨r, by rw [h, e], by omega, fun j hj => ?_⟩
      have := (s3 j hj).2.2.1
      rw [this]
      simp
  refine (split_Cut.calls 300 t _ 1 [m] q short _ _ _ hC (by simp) hr).mono ?_
  rintro e w' ⟨v, rfl, hR, hb⟩
  obtain ⟨A, c, rfl, hlc, hCC⟩ := Kd.R_reads hR
  obtain ⟨ad, rfl, _⟩ := at_T39 hCC 0 (by omega) (by omega)
  obtain ⟨inner, ho⟩ := Kd.R_own hR
  obtain ⟨g, rfl⟩ : ∃ g, ad = ⟨g, 0, none⟩ := by
    rcases ho.2 with ⟨h, _⟩ | ⟨g, cap, cur, h, _⟩
    · simp at h
    · simp at h
      exact ⟨g, h.1⟩
  rw [hl]
  refine ⟨g, c, rfl, fun i hi => ?_, (((Below.refl _ _).alloc (Nat.le_refl _) _).trans (hb.mono (by simp)))⟩
  obtain ⟨ad, e, c0, c1, c2, c3⟩ := at_T39 hCC (i : Int) (by omega) (by omega)
  obtain rfl : (⟨g, 0, none⟩ : Addr) = ad := Option.some.inj e
  rw [hq i (by omega)] at c2
  simp only [Int.toNat_natCast, add_plain] at c2
  exact c2

theorem ring_calls (b : Bool) (w : World) : Calls Try.prog 16 #[.bool b] w fun e w' => e = .returned (.int .i64 (ringOf b)) ∧ w = w' := by
  cases b
  · go_enter Try.func16, Try.ntmps16
    go_wp2
    go_ret
    exact ⟨rfl, rfl⟩
  · go_enter Try.func16, Try.ntmps16
    go_wp2
    go_ret
    exact ⟨rfl, rfl⟩

theorem num_quiet (x : Int) (w : World) : Calls Try.prog 12 #[.int .i64 x] w fun e w' => e = .returned (.int .i64 x) ∧ w' = w :=
  (num_calls x w).mono fun _ _ ⟨h1, h2⟩ => ⟨h1, h2.symm⟩

set_option maxHeartbeats 2000000 in
set_option maxRecDepth 100000 in
theorem numbers_go (a b : ByteArray) (size seq : Int) (short : Bool) (w : World) (ha : a.size + 1 ≤ 200) (hbs : b.size + 1 ≤ 200) :
    Calls Try.prog 7 #[.string a, .string b, .int .i64 size, .int .i64 seq, .bool short] w fun e w' => e = .returned (.bool true) ∧ Below w.heap.size w w' := by
  have hsa : (a ++ (⟨#[97]⟩ : ByteArray)).size = a.size + 1 := by rw [ByteArray.size_append]; rfl
  have hsb : (b ++ (⟨#[98]⟩ : ByteArray)).size = b.size + 1 := by rw [ByteArray.size_append]; rfl
  have hm := and31 size
  have m0 : 0 ≤ size % 32 := Int.emod_nonneg _ (by omega)
  have m1 : size % 32 < 32 := Int.emod_lt_of_pos _ (by omega)
  generalize size % 32 = mm at *
  have hr := ringOf_eq short
  obtain ⟨hr0, hr1⟩ : 4096 ≤ ringOf short ∧ ringOf short ≤ 16777216 := by omega
  obtain ⟨q, hw, q0, q1⟩ : ∃ q : Int, wrap64 ((IntKind.u64.wrap seq).tmod (ringOf short)) = q ∧ 0 ≤ q ∧ q < ringOf short := by
    refine ⟨IntKind.u64.wrap seq % ringOf short, ?_, Int.emod_nonneg _ (by omega), Int.emod_lt_of_pos _ (by omega)⟩
    have h0 : 0 ≤ IntKind.u64.wrap seq := by rw [u64_wrap]; omega
    generalize IntKind.u64.wrap seq = U at *
    rw [Int.tmod_eq_emod_of_nonneg h0]
    have h1 : 0 ≤ U % ringOf short := Int.emod_nonneg _ (by omega)
    have h2 : U % ringOf short < ringOf short := Int.emod_lt_of_pos _ (by omega)
    exact wrap_i64 (by omega) (by omega)
  clear hr
  go_enter Try.func7, Try.ntmps7
  go_wp2_with (first | (go_at_call 15; refine (awake_calls _).mono ?_; rintro e w1 ⟨rfl, hb⟩) | (go_at_call 16; refine (ring_calls _ _).mono ?_; rintro e w' ⟨rfl, rfl⟩))
  obtain ⟨n1, n2, n3⟩ := many_in (a ++ (⟨#[97]⟩ : ByteArray)) (4 + mm) (by omega) (by omega) (by omega) (by omega)
  obtain ⟨k1, k2, k3⟩ := many_in (b ++ (⟨#[98]⟩ : ByteArray)) (4 + mm) (by omega) (by omega) (by omega) (by omega)
  refine (cut_calls _ (4 + mm) q short _ (by omega) (by omega) (by omega) (by omega) q0 q1).mono ?_
  rintro e w2 ⟨g, c, rfl, hc, hb2⟩
  have HB := (hb.trans (hb2.mono hb.size))
  clear hb hb2
  rw [hsa] at n3
  rw [hsb] at k3
  have N3 := Lib.hid n3
  have K3 := Lib.hid k3
  clear n3 k3
  generalize many (a ++ (⟨#[97]⟩ : ByteArray)) (4 + mm) = n at *
  generalize hk : many (b ++ (⟨#[98]⟩ : ByteArray)) (4 + mm) = k at *
  have HK := Lib.hid hk
  have HC := Lib.hid hc
  obtain ⟨L, hlast, L0, L1, hL⟩ : ∃ L : Int, w2.cell? ⟨g, (n - 1) * 4 + 2, none⟩ = some (.int .i64 L) ∧ 0 ≤ L ∧ L < ringOf short ∧ Hid (L = (q + ((n - 1 : Nat) : Int)) % ringOf short) :=
    ⟨_, hc (n - 1) (by omega), Int.emod_nonneg _ (by omega), Int.emod_lt_of_pos _ (by omega), Lib.hid rfl⟩
  obtain ⟨nx, X1, X2, X0, X3, hX⟩ : ∃ nx : Int, (L + 1).tmod (ringOf short) = nx ∧ (L + 1) % ringOf short = nx ∧ 0 ≤ nx ∧ nx < ringOf short ∧ Hid (nx = (q + (n : Int)) % ringOf short) := by
    refine ⟨(L + 1) % ringOf short, Int.tmod_eq_emod_of_nonneg (by omega), rfl, Int.emod_nonneg _ (by omega), Int.emod_lt_of_pos _ (by omega), Lib.hid ?_⟩
    rw [hL.out, Int.emod_add_emod]
    congr 1
    omega
  clear hc hk
  go_wp2_with (first | (go_at_call 12; refine (num_calls _ _).mono ?_; rintro e w' ⟨rfl, rfl⟩))
  clear X1 X2 hlast
  refine (cut_calls _ (4 + mm) nx short _ (by omega) (by omega) (by omega) (by omega) X0 X3).mono ?_
  rintro e w3 ⟨g', c', rfl, hc', hb3⟩
  rw [HK.out] at hc' ⊢
  have HC1 : Hid (∀ i : Nat, i < n → w3.cell? ⟨g, i * 4 + 2, none⟩ = some (.int .i64 ((q + i) % ringOf short))) := Lib.hid fun i hi => by
    have h := HC.out i hi
    exact (hb3.cell (World.block_lt_of_cell? w2 _ h)).trans h
  have HC2 := Lib.hid hc'
  have HB3 := HB.trans (hb3.mono HB.size)
  clear HB HC hc' hb3 HK
  go_wp2_with fail
  go_loopw [21] (fun i wr => ∃ j nq : Nat, j ≤ n ∧ i = .int .i64 j ∧ wr = w3.drewN nq) (fun i _ => n - (intOf i).toNat)
  case atStart => exact ⟨0, 0, by omega, rfl, rfl⟩
  case round =>
    obtain ⟨j, nq, hj, rfl, rfl⟩ := hrel
    by_cases hlt : j < n
    · obtain ⟨S, hS1, hS2, hS3⟩ : ∃ S : Int, w3.cell? ⟨g, j * 4 + 2, none⟩ = some (.int .i64 S) ∧ (q + (j : Int)).tmod (ringOf short) = S ∧ (q + (j : Int)) % ringOf short = S :=
        ⟨_, HC1.out j hlt, Int.tmod_eq_emod_of_nonneg (by omega), rfl⟩
      go_wp2
      go_quiet (fail)
      go_wp2
      go_roundw
      case rel => exact ⟨j + 1, _, by omega, by go_num, rfl⟩
      case measure => simp [intOf]; omega
    · go_wp2_with fail
      go_loopw [22] (fun i wr => ∃ j nq : Nat, j ≤ k ∧ i = .int .i64 j ∧ wr = w3.drewN nq) (fun i _ => k - (intOf i).toNat)
      case atStart => exact ⟨0, _, by omega, rfl, rfl⟩
      case round =>
        obtain ⟨j', nq', hj', rfl, rfl⟩ := hrel
        by_cases hlt' : j' < k
        · obtain ⟨S, hS1, hS2, hS3⟩ : ∃ S : Int, w3.cell? ⟨g', j' * 4 + 2, none⟩ = some (.int .i64 S) ∧ (q + (n : Int) + (j' : Int)).tmod (ringOf short) = S ∧ (q + (n : Int) + (j' : Int)) % ringOf short = S :=
            ⟨_, HC2.out j' hlt', by rw [Int.tmod_eq_emod_of_nonneg (by omega), hX.out, Int.emod_add_emod], by rw [hX.out, Int.emod_add_emod]⟩
          go_wp2
          go_quiet (fail)
          go_wp2
          go_roundw
          case rel => exact ⟨j' + 1, _, by omega, by go_num, rfl⟩
          case measure => simp [intOf]; omega
        · go_wp2_with fail
          have d1 : (↑a.size + 1 + (4 + mm) - 1 : Int) / (4 + mm) = (n : Int) := by rw [N3.out]; simp
          have d2 : (↑b.size + 1 + (4 + mm) - 1 : Int) / (4 + mm) = (k : Int) := by rw [K3.out]; simp
          have d3 : (↑a.size + 1 + (4 + mm) - 1 : Int).tdiv (4 + mm) = (n : Int) := by rw [Int.tdiv_eq_ediv_of_nonneg (by omega)]; exact d1
          have d4 : (↑b.size + 1 + (4 + mm) - 1 : Int).tdiv (4 + mm) = (k : Int) := by rw [Int.tdiv_eq_ediv_of_nonneg (by omega)]; exact d2
          have HW : Below w.heap.size w (w3.drewN nq') := pw_below_drewN HB3 _
          clear HB3 HC1 HC2
          generalize w3.drewN nq' = W at *
          go_quiet ((go_at_call 12; exact Calls.quiet_of_same (num_quiet _ _)))
          go_wp2
          go_ret
          exact ⟨rfl, pw_below_drewN HW _⟩

set_option maxRecDepth 100000 in
theorem numbers_skip (a b : ByteArray) (size seq : Int) (short : Bool) (w : World) (ha : a.size ≤ 140737488351232) (hb : b.size ≤ 140737488351232) (h : ¬ (a.size + 1 ≤ 200 ∧ b.size + 1 ≤ 200)) :
    Calls Try.prog 7 #[.string a, .string b, .int .i64 size, .int .i64 seq, .bool short] w fun e w' => e = .returned (.bool true) ∧ Below w.heap.size w w' := by
  have hsa : (a ++ (⟨#[97]⟩ : ByteArray)).size = a.size + 1 := by rw [ByteArray.size_append]; rfl
  have hsb : (b ++ (⟨#[98]⟩ : ByteArray)).size = b.size + 1 := by rw [ByteArray.size_append]; rfl
  by_cases h1 : a.size + 1 ≤ 200
  · have h2 : 200 < b.size + 1 := by omega
    go_enter Try.func7, Try.ntmps7
    go_wp2_with (first | (go_at_call 15; refine (awake_calls _).mono ?_; rintro e w1 ⟨rfl, hb⟩))
    go_ret
    exact ⟨rfl, by assumption⟩
  · go_enter Try.func7, Try.ntmps7
    go_wp2_with (first | (go_at_call 15; refine (awake_calls _).mono ?_; rintro e w1 ⟨rfl, hb⟩))
    go_ret
    exact ⟨rfl, by assumption⟩

theorem numbers_any (a b : ByteArray) (size seq : Int) (short : Bool) (w : World) (ha : a.size ≤ 140737488351232) (hb : b.size ≤ 140737488351232) :
    Calls Try.prog 7 #[.string a, .string b, .int .i64 size, .int .i64 seq, .bool short] w fun e w' => e = .returned (.bool true) ∧ Below w.heap.size w w' := by
  by_cases h : a.size + 1 ≤ 200 ∧ b.size + 1 ≤ 200
  · exact numbers_go a b size seq short w h.1 h.2
  · exact numbers_skip a b size seq short w ha hb h

end Go.Proofs.Ytebeoihhegjpkaa.HandNumbers
