/- slices.Sort, of a slice of a few ints: what it leaves is sorted, and has the same numbers. -/
import Derived.Test.YtcahedlgmljhkaaRowAt
import Derived.Test.YtcahedlgmljhkaaPlain
import Derived.Test.YtcahedlgmljhkaaProg
import Derived.Lib.Hide
import Derived.Deep.QuietTactic
import Derived.BigQuiet
namespace Go.Proofs.Ytcahedlgmljhkaa.QSort
open Go Go.RowKit Go.Proofs.Ytcahedlgmljhkaa.Mem Go.Proofs.Ytcahedlgmljhkaa.Plain Go.Proofs.Ytcahedlgmljhkaa.RowAt

theorem isNaN_calls (x : Int) (w : World) : Calls Try.prog 44 #[.int .i64 x] w fun e w' => e = .returned (.bool false) ∧ w' = w := by
  go_enter Try.func44, Try.ntmps44
  go_wp2
  go_ret
  exact ⟨rfl, rfl⟩

theorem less_calls (x y : Int) (w : World) : Calls Try.prog 34 #[.int .i64 x, .int .i64 y] w fun e w' => e = .returned (.bool (decide (x < y))) ∧ w' = w := by
  go_enter Try.func34, Try.ntmps34
  go_wp2_with (first | (go_at_call 44; refine (isNaN_calls _ _).mono ?_; rintro e w' ⟨rfl, rfl⟩))
  go_ret
  exact ⟨rfl, rfl⟩

set_option linter.unusedSimpArgs false in
set_option maxRecDepth 100000 in
set_option maxHeartbeats 1000000 in
theorem len64_calls (n : Nat) (hn : n ≤ 12) (w : World) : Calls Try.prog 38 #[.int .u64 n] w fun e w' => (∃ m : Int, e = .returned (.int .i64 m)) ∧ w' = w := by
  have h : n = 0 ∨ n = 1 ∨ n = 2 ∨ n = 3 ∨ n = 4 ∨ n = 5 ∨ n = 6 ∨ n = 7 ∨ n = 8 ∨ n = 9 ∨ n = 10 ∨ n = 11 ∨ n = 12 := by omega
  rcases h with rfl | rfl | rfl | rfl | rfl | rfl | rfl | rfl | rfl | rfl | rfl | rfl | rfl
  all_goals
    simp only [Int.natCast_zero, Int.natCast_one, Int.cast_ofNat_Int]
    go_enter Try.func38, Try.ntmps38
    go_wp2
    go_ret
    exact ⟨⟨_, rfl⟩, rfl⟩

theorem len_calls (n : Nat) (hn : n ≤ 12) (w : World) : Calls Try.prog 27 #[.int .u64 n] w fun e w' => (∃ m : Int, e = .returned (.int .i64 m)) ∧ w' = w := by
  go_enter Try.func27, Try.ntmps27
  go_wp2_with (first | (go_at_call 38; refine (len64_calls n hn _).mono ?_; rintro e w' ⟨⟨m, rfl⟩, rfl⟩))
  go_ret
  exact ⟨⟨_, rfl⟩, rfl⟩

def num (x : Int) : Value := .int .i64 x

variable {w : World} {B n : Nat} {v : Value} {xs : List Int}

/-- A place of the row is written. -/
theorem row_set {g off cap : Nat} {e : TypeId} {us : List Value} (h : RowAt w B e 1 (.slice (some ⟨g, off, none⟩) n cap) n us) {j : Nat} (u : Value) :
    RowAt (w.setCell ⟨g, off + j, none⟩ u) B e 1 (.slice (some ⟨g, off, none⟩) n cap) n (us.set j u) := by
  have h1 := h.1
  refine ⟨by simpa using h1, ?_⟩
  rcases h.2 with ⟨h0, _⟩ | ⟨g', off', cap', cur, h0, hb, hg, hnc, hcm, hcs, ht⟩
  · cases h0
  · simp only [Value.slice.injEq, Option.some.injEq, Addr.mk.injEq] at h0
    obtain ⟨⟨rfl, rfl, _⟩, _, rfl⟩ := h0
    refine .inr ⟨g, off, cap, cur.setIfInBounds (off + j) u, rfl, hb, ?_, hnc, hcm, by simpa using hcs, ?_⟩
    · have := Blk.set (w := w) (g := g) (cs := cur) (t := e) hg (off + j) u
      exact this
    · rw [← ht, Array.toList_setIfInBounds, List.drop_set]
      rw [if_neg (by omega), show off + j - off = j from by omega, List.take_set]

/-- The place of the loop within: A before, x there, C behind it, R not yet looked at. -/
structure In (xs : List Int) (i : Nat) (A : List Int) (x : Int) (C R ys : List Int) : Prop where
  eq : ys = A ++ x :: (C ++ R)
  len : A.length + C.length = i
  perm : ys.Perm xs
  sorted : (A ++ C).Pairwise (· ≤ ·)
  behind : ∀ c ∈ C, x < c

theorem In.start {xs ys : List Int} {i : Nat} (hi : i < ys.length) (hp : ys.Perm xs) (hs : (ys.take i).Pairwise (· ≤ ·)) : ∃ x R, In xs i (ys.take i) x [] R ys := by
  refine ⟨ys[i], ys.drop (i + 1), ⟨?_, ?_, hp, by simpa using hs, by simp⟩⟩
  · rw [List.nil_append, List.getElem_cons_drop, List.take_append_drop]
  · simp; omega

theorem In.down {xs ys : List Int} {i : Nat} {A : List Int} {y x : Int} {C R : List Int} (h : In xs i (A ++ [y]) x C R ys) (hlt : x < y) :
    In xs i A x (y :: C) R (A ++ x :: y :: (C ++ R)) := by
  refine ⟨by simp, by have := h.len; simp at this ⊢; omega, ?_, by simpa using h.sorted, ?_⟩
  · refine List.Perm.trans ?_ h.perm
    rw [h.eq]
    simp only [List.append_assoc, List.singleton_append]
    exact List.Perm.append_left A (List.Perm.swap _ _ _)
  · intro c hc
    rcases List.mem_cons.1 hc with rfl | hc
    · exact hlt
    · exact h.behind c hc

theorem In.stop {xs ys : List Int} {i : Nat} {A : List Int} {x : Int} {C R : List Int} (h : In xs i A x C R ys) (hA : ∀ y A', A = A' ++ [y] → ¬ x < y) :
    (ys.take (i + 1)).Pairwise (· ≤ ·) := by
  have e : ys.take (i + 1) = A ++ x :: C := by
    have hl := h.len
    rw [h.eq, show A ++ x :: (C ++ R) = (A ++ x :: C) ++ R from by simp, List.take_append_of_le_length (by simp; omega), List.take_of_length_le (by simp; omega)]
  rw [e]
  have hs := List.pairwise_append.1 h.sorted
  refine List.pairwise_append.2 ⟨hs.1, List.pairwise_cons.2 ⟨fun c hc => by have := h.behind c hc; omega, hs.2.1⟩, fun a ha b hb => ?_⟩
  rcases List.mem_cons.1 hb with rfl | hb
  · rcases List.eq_nil_or_concat A with rfl | ⟨A', y, rfl⟩
    · cases ha
    · have hy := hA y A' (by simp)
      simp only [List.concat_eq_append] at ha hs
      rcases List.mem_append.1 ha with h1 | h1
      · have := (List.pairwise_append.1 hs.1).2.2 a h1 y (by simp)
        omega
      · simp at h1
        omega
  · exact hs.2.2 a ha b hb

theorem num_get {ys : List Int} {j : Nat} {x : Int} (h : ys[j]? = some x) : (ys.map num)[j]? = some (.int .i64 x) := by
  rw [List.getElem?_map, h]
  rfl

theorem In.at_x {xs ys : List Int} {i : Nat} {A : List Int} {x : Int} {C R : List Int} (h : In xs i A x C R ys) : ys[A.length]? = some x := by
  rw [h.eq]; simp
theorem In.at_y {xs ys : List Int} {i m : Nat} {A : List Int} {y x : Int} {C R : List Int} (h : In xs i (A ++ [y]) x C R ys) (hm : A.length = m) : ys[m]? = some y := by
  rw [h.eq, ← hm]; simp
theorem In.swap {xs ys : List Int} {i m : Nat} {A : List Int} {y x : Int} {C R : List Int} (h : In xs i (A ++ [y]) x C R ys) (hm : A.length = m) : ((ys.map num).set (m + 1) (num y)).set m (num x) = (A ++ x :: y :: (C ++ R)).map num := by
  rw [h.eq, ← hm]
  simp

set_option maxHeartbeats 1000000 in
set_option maxRecDepth 100000 in
theorem ins_calls (g off cap n : Nat) (xs : List Int) (hn : n ≤ 12) (w : World) (h : RowAt w B 3 1 (.slice (some ⟨g, off, none⟩) n cap) n (xs.map num)) :
    Calls Try.prog 28 #[.slice (some ⟨g, off, none⟩) n cap, .int .i64 0, .int .i64 n] w fun e w' => ∃ ys : List Int, e = .returned (.tuple #[]) ∧ ys.Perm xs ∧ ys.Pairwise (· ≤ ·) ∧ RowAt w' B 3 1 (.slice (some ⟨g, off, none⟩) n cap) n (ys.map num) ∧ w.grownBy w' (some g) := by
  have H := Lib.hid h
  have hlen : xs.length = n := by have := h.1; simpa using this
  have HL := Lib.hid hlen
  clear h hlen
  go_enter Try.func28, Try.ntmps28
  go_wp2
  go_loopw [6] (fun i wr => ∃ (k : Nat) (ys : List Int), i = .int .i64 k ∧ 1 ≤ k ∧ (k ≤ n ∨ k = 1) ∧ ys.Perm xs ∧ (ys.take k).Pairwise (· ≤ ·) ∧ RowAt wr B 3 1 (.slice (some ⟨g, off, none⟩) n cap) n (ys.map num) ∧ w.grownBy wr (some g)) (fun i _ => n - (intOf i).toNat)
  case atStart => exact ⟨1, xs, rfl, Nat.le_refl _, .inr rfl, List.Perm.refl _, by cases xs <;> simp, H.out, grown_refl _ _⟩
  case round =>
    obtain ⟨k, ys, rfl, hk1, hk, hp, hs, hr, hg⟩ := hrel
    have HP := Lib.hid hp
    have HS := Lib.hid hs
    have HR := Lib.hid hr
    have HG := Lib.hid hg
    have hyl : ys.length = n := hp.length_eq.trans HL.out
    clear hp hs hr hg
    by_cases hlt : k < n
    · have hltI : (k : Int) < (n : Int) := by omega
      obtain ⟨x0, R0, hin0⟩ := In.start (by omega) HP.out HS.out
      have HIN0 := Lib.hid hin0
      have HYL := Lib.hid hyl
      clear hin0 hyl
      obtain ⟨wo, rfl⟩ : ∃ wo : World, wo = wr := ⟨_, rfl⟩
      go_wp2
      go_loopw [7] (fun j wi => ∃ (A : List Int) (C R zs : List Int), j = .int .i64 A.length ∧ In xs k A x0 C R zs ∧ RowAt wi B 3 1 (.slice (some ⟨g, off, none⟩) n cap) n (zs.map num) ∧ w.grownBy wi (some g)) (fun j _ => (intOf j).toNat)
      case atStart => exact ⟨ys.take k, [], R0, ys, by rw [List.length_take, HYL.out, Nat.min_eq_left (by omega)], HIN0.out, HR.out, HG.out⟩
      case round =>
        obtain ⟨A, C, R, zs, rfl, hin, hri, hgi⟩ := hrel
        have HI := Lib.hid hin
        have HRI := Lib.hid hri
        have HGI := Lib.hid hgi
        clear hin hri hgi
        rcases List.eq_nil_or_concat A with rfl | ⟨A', y, rfl⟩
        · have hst := HI.out.stop (fun y A' e => by simp at e)
          have HST := Lib.hid hst
          clear hst
          go_wp2
          go_quiet ((go_at_call 34; exact Calls.quiet_of_same (less_calls _ _ _)))
          go_wp2
          refine ⟨⟨k + 1, zs, by go_num, by omega, .inl (by omega), HI.out.perm, HST.out, HRI.out.drewN _, grown_drewN HGI.out _⟩, ?_⟩
          simp [intOf]
          omega
        · obtain ⟨m, hm⟩ : ∃ m, A'.length = m := ⟨_, rfl⟩
          simp only [List.concat_eq_append] at HI ⊢
          have hlm : (A' ++ [y]).length = m + 1 := by simp [hm]
          have hx := HI.out.at_x
          rw [hlm] at hx
          have hy := HI.out.at_y hm
          have hzl : zs.length = n := HI.out.perm.length_eq.trans HL.out
          have hmn : m + 1 < n := by have := (List.getElem?_eq_some_iff.1 hx).1; omega
          have c1 : wr.cell? ⟨g, off + (m + 1), none⟩ = some (.int .i64 x0) := (HRI.out.cell (m + 1) (by omega)).trans (num_get hx)
          have c0 : wr.cell? ⟨g, off + m, none⟩ = some (.int .i64 y) := (HRI.out.cell m (by omega)).trans (num_get hy)
          have f1 := HRI.out.free (off + (m + 1))
          have f0 := HRI.out.free (off + m)
          have b0 : (0 : Int) ≤ (m : Int) := by omega
          have b1 : (m : Int) + 1 < (n : Int) := by omega
          have b2 : (m : Int) < (n : Int) := by omega
          have b3 : (0 : Int) ≤ (m : Int) + 1 := by omega
          have b4 : ((m : Int) + 1).toNat = m + 1 := by omega
          have b5 : (0 : Int) < (m : Int) + 1 := by omega
          rw [hlm, show ((m + 1 : Nat) : Int) = (m : Int) + 1 from by omega]
          have HM := Lib.hid hm
          clear hm hlm hx hy hzl hmn
          by_cases hxy : x0 < y
          · have hd : decide (x0 < y) = true := decide_eq_true hxy
            go_wp2
            go_quiet ((go_at_call 34; exact Calls.quiet_of_same (less_calls _ _ _)))
            go_wp2
            go_region
            go_wp2
            refine ⟨⟨A', y :: C, R, _, by rw [HM.out], HI.out.down hxy, ?_, ?_⟩, ?_⟩
            · rw [← HI.out.swap HM.out]
              exact row_set (row_set (HRI.out.drewN _) _) _
            · exact grown_set (grown_set (grown_drewN HGI.out _) _ _) _ _
            · simp [intOf]
          · have hd : decide (x0 < y) = false := decide_eq_false hxy
            have hst := HI.out.stop (fun y' A2 e => by
              have := (List.append_inj' e rfl).2
              simp at this
              omega)
            have HST := Lib.hid hst
            clear hst
            go_wp2
            go_quiet ((go_at_call 34; exact Calls.quiet_of_same (less_calls _ _ _)))
            go_wp2
            refine ⟨⟨k + 1, zs, by go_num, by omega, .inl (by omega), HI.out.perm, HST.out, HRI.out.drewN _, grown_drewN HGI.out _⟩, ?_⟩
            simp [intOf]
            omega
    · have HSO : Hid (ys.Pairwise (· ≤ ·)) := Lib.hid (by
        have := HS.out
        rwa [List.take_of_length_le] at this
        rcases hk with h | h
        · omega
        · subst h
          omega)
      go_wp2
      go_end0
      exact ⟨ys, rfl, HP.out, HSO.out, HR.out, HG.out⟩

set_option maxHeartbeats 1000000 in
set_option maxRecDepth 100000 in
/-- A slice that is nil has nothing to be sorted. -/
theorem ins_none (w : World) : Calls Try.prog 28 #[.slice none 0 0, .int .i64 0, .int .i64 0] w fun e w' => e = .returned (.tuple #[]) ∧ w' = w := by
  go_enter Try.func28, Try.ntmps28
  go_wp2
  go_loopw [6] (fun i wr => i = .int .i64 1 ∧ wr = w) (fun _ _ => 0)
  case atStart => exact ⟨rfl, rfl⟩
  case round =>
    obtain ⟨rfl, rfl⟩ := hrel
    go_wp2
    go_end0
    exact ⟨rfl, rfl⟩

set_option maxHeartbeats 1000000 in
set_option maxRecDepth 100000 in
theorem pdq_calls (g off cap n : Nat) (xs : List Int) (hn : n ≤ 12) (m : Int) (w : World) (h : RowAt w B 3 1 (.slice (some ⟨g, off, none⟩) n cap) n (xs.map num)) :
    Calls Try.prog 26 #[.slice (some ⟨g, off, none⟩) n cap, .int .i64 0, .int .i64 n, .int .i64 m] w fun e w' => ∃ ys : List Int, e = .returned (.tuple #[]) ∧ ys.Perm xs ∧ ys.Pairwise (· ≤ ·) ∧ RowAt w' B 3 1 (.slice (some ⟨g, off, none⟩) n cap) n (ys.map num) ∧ w.grownBy w' (some g) := by
  have hnI : (n : Int) ≤ 12 := by omega
  go_enter Try.func26, Try.ntmps26
  go_wp2
  go_loopw [1, 2, 3, 8, 9] (fun a b c d e wr => a = .int .i64 0 ∧ b = .int .i64 n ∧ c = .int .i64 m ∧ d = .bool true ∧ e = .bool true ∧ wr = w) (fun _ _ _ _ _ _ => 0)
  case atStart => exact ⟨rfl, rfl, rfl, rfl, rfl, rfl⟩
  case round =>
    obtain ⟨rfl, rfl, rfl, rfl, rfl, rfl⟩ := hrel
    go_wp2_with (first | (go_at_call 28; refine (ins_calls g off cap n xs hn _ h).mono ?_; rintro e w' ⟨ys, rfl, hp, hs, hr, hg⟩))
    refine bodyPost_ret (results_none rfl _ _ _) rfl ?_
    exact ⟨ys, rfl, hp, hs, hr, hg⟩

theorem pdq_none (m : Int) (w : World) : Calls Try.prog 26 #[.slice none 0 0, .int .i64 0, .int .i64 0, .int .i64 m] w fun e w' => e = .returned (.tuple #[]) ∧ w' = w := by
  go_enter Try.func26, Try.ntmps26
  go_wp2
  go_loopw [1, 2, 3, 8, 9] (fun a b c d e wr => a = .int .i64 0 ∧ b = .int .i64 0 ∧ c = .int .i64 m ∧ d = .bool true ∧ e = .bool true ∧ wr = w) (fun _ _ _ _ _ _ => 0)
  case atStart => exact ⟨rfl, rfl, rfl, rfl, rfl, rfl⟩
  case round =>
    obtain ⟨rfl, rfl, rfl, rfl, rfl, rfl⟩ := hrel
    go_wp2_with (first | (go_at_call 28; refine (ins_none _).mono ?_; rintro e w' ⟨rfl, rfl⟩))
    refine bodyPost_ret (results_none rfl _ _ _) rfl ?_
    exact ⟨rfl, rfl⟩

set_option maxHeartbeats 1000000 in
set_option maxRecDepth 100000 in
theorem sort_calls (n : Nat) (v : Value) (xs : List Int) (hn : n ≤ 12) (w : World) (h : RowAt w B 3 1 v n (xs.map num)) :
    Calls Try.prog 24 #[v] w fun e w' => ∃ ys : List Int, e = .returned (.tuple #[]) ∧ ys.Perm xs ∧ ys.Pairwise (· ≤ ·) ∧ RowAt w' B 3 1 v n (ys.map num) ∧ w.grownBy w' v.ownBlock := by
  rcases h.2 with ⟨rfl, rfl⟩ | ⟨g, off, cap, cur, rfl, _⟩
  · have hx : xs = [] := by have := h.1; simpa using this
    subst hx
    go_enter Try.func24, Try.ntmps24
    go_wp2_with (first | (go_at_call 27; refine (len_calls 0 (by omega) _).mono ?_; rintro e w' ⟨⟨m, rfl⟩, rfl⟩) | (go_at_call 26; refine (pdq_none _ _).mono ?_; rintro e w' ⟨rfl, rfl⟩))
    go_end0
    exact ⟨[], rfl, List.Perm.refl _, List.Pairwise.nil, h, grown_refl _ _⟩
  · have H := Lib.hid h
    clear h
    go_enter Try.func24, Try.ntmps24
    go_wp2_with (first | (go_at_call 27; refine (len_calls n hn _).mono ?_; rintro e w' ⟨⟨m, rfl⟩, rfl⟩) | (go_at_call 26; refine (pdq_calls g off cap n xs hn _ _ H.out).mono ?_; rintro e w' ⟨ys, rfl, hp, hs, hr, hg⟩))
    go_end0
    exact ⟨ys, rfl, hp, hs, hr, hg⟩

end Go.Proofs.Ytcahedlgmljhkaa.QSort
