/- JoinTwice: what Cut answers, as plain data. -/
import Derived.Test.YtcpehjdnmhkcpaaLTwiceP
import Derived.Test.YtcpehjdnmhkcpaaPJoinTwicex2
namespace Go.Proofs.Ytcpehjdnmhkcpaa.LTwiceQ
open Go Go.RowKit Go.Maps Go.Proofs.Ytcpehjdnmhkcpaa.Plain Go.Proofs.Ytcpehjdnmhkcpaa.PJoinTwice Go.Proofs.YtcpehjdnmhkcpaaW.PrintWords Go.Proofs.YtcpehjdnmhkcpaaW.PrintLast Go.Proofs.YtcpehjdnmhkcpaaW.PrintMore Go.Proofs.Ytcpehjdnmhkcpaa.LTwiceP

variable {t : ByteArray} {c n : Nat}

/-- Where the i-th piece begins. -/
def at_ (t : ByteArray) (c i : Nat) : Nat := min t.size (i * c)
def D (t : ByteArray) (c i : Nat) : ByteArray := t.extract (at_ t c i) (at_ t c (i + 1))
def G (t : ByteArray) (c i : Nat) : S33 := ⟨((at_ t c i : Nat) : Int) == 0, ((at_ t c (i + 1) : Nat) : Int) == (t.size : Int), (i : Int), D t c i⟩

/-- It takes n pieces. -/
structure Cuts (t : ByteArray) (c n : Nat) : Prop where
  c1 : 1 ≤ c
  c2 : c ≤ 1000
  t1 : 1 ≤ t.size
  t2 : t.size ≤ 1000
  n1 : n ≤ 64
  last : t.size ≤ n * c
  more : ∀ i, i < n → i * c < t.size

theorem at_lt (C : Cuts t c n) {i : Nat} (hi : i < n) : at_ t c i = i * c := by have := C.more i hi; unfold at_; omega
theorem at_end (C : Cuts t c n) : at_ t c n = t.size := by have := C.last; unfold at_; omega
theorem at_next (C : Cuts t c n) {i : Nat} (hi : i < n) : mn (t.size : Int) (wrap64 (((at_ t c i : Nat) : Int) + (c : Int))) = ((at_ t c (i + 1) : Nat) : Int) := by
  have h := C.more i hi
  have h2 := C.t2
  have h3 := C.c2
  rw [at_lt C hi]
  have e : at_ t c (i + 1) = min t.size (i * c + c) := by unfold at_; rw [Nat.succ_mul]
  rw [e]
  generalize i * c = x at *
  rw [wrap_i64 (by omega) (by omega)]
  unfold mn
  split <;> omega

theorem wr1 {i : Nat} (h : i ≤ 64) : wrap64 ((i : Int) + 1) = ((i + 1 : Nat) : Int) := by rw [wrap_i64 (by omega) (by omega)]; omega
theorem wr0 {i : Nat} (h : i ≤ 64) : Int.tmod (wrap64 (0 + (i : Int))) 4096 = (i : Int) := by
  rw [wrap_i64 (by omega) (by omega), Int.tmod_eq_emod_of_nonneg (by omega)]
  omega

theorem l1_end (C : Cuts t c n) (k : Nat) (acc : List S33) (hacc : acc.length = n) : withyref17_Cut.l1 (k + 1) t [(c : Int)] 0 true acc ((at_ t c n : Nat) : Int) (n : Int) = some (acc, 0) := by
  have hn := C.n1
  rw [withyref17_Cut.l1, at_end C, if_neg (by omega), if_neg (by omega)]

theorem l1_step (C : Cuts t c n) (k : Nat) (acc : List S33) {i : Nat} (hi : i < n) (hacc : acc.length = i) : withyref17_Cut.l1 (k + 1) t [(c : Int)] 0 true acc ((at_ t c i : Nat) : Int) (i : Int) = withyref17_Cut.l1 k t [(c : Int)] 0 true (acc ++ [G t c i]) ((at_ t c (i + 1) : Nat) : Int) ((i + 1 : Nat) : Int) := by
  have hm := C.more i hi
  have hn := C.n1
  have hlt := at_lt C hi
  have hr : withyref1_Ring.f true = some 4096 := rfl
  have h1 : Int.tmod (i : Int) (([(c : Int)] : List Int).length : Int) = 0 := by
    show Int.tmod (i : Int) 1 = 0
    exact Int.tmod_one _
  have h2 : rd [(c : Int)] 0 = (c : Int) := rfl
  have hle : at_ t c (i + 1) ≤ t.size := by unfold at_; omega
  have hge : at_ t c i ≤ at_ t c (i + 1) := by
    unfold at_
    rw [Nat.succ_mul]
    omega
  have p1 : ((at_ t c i : Nat) : Int) < (t.size : Int) := by omega
  have p2 : (0 : Int) ≤ ((at_ t c i : Nat) : Int) := by omega
  have p3 : ((at_ t c i : Nat) : Int) ≤ ((at_ t c (i + 1) : Nat) : Int) := by omega
  have p4 : ((at_ t c (i + 1) : Nat) : Int) ≤ (t.size : Int) := by omega
  have p5 : acc.length < 4398046511104 := by omega
  have p6 : ¬ (([(c : Int)] : List Int).length : Int) = 0 := by simp
  have p7 : (0 : Int) < (([(c : Int)] : List Int).length : Int) := by simp
  have p8 : ¬ (4096 : Int) = 0 := by omega
  have hq := wr0 (i := i) (by omega)
  have hi1 := wr1 (i := i) (by have := C.n1; clear hq; omega)
  have hnx := at_next C hi
  rw [withyref17_Cut.l1, if_pos p1, if_neg p6, h1, if_pos (show (0 : Int) ≤ 0 from Int.le_refl 0), if_pos p7, hr, Option.bind_some, if_neg p8, if_pos p2, h2, hnx, if_pos p3, if_pos p4, if_pos p5, hq, hi1]
  rfl

theorem l1_run (C : Cuts t c n) (k : Nat) : ∀ (j i : Nat), i + j = n → withyref17_Cut.l1 (k + j + 1) t [(c : Int)] 0 true ((List.range i).map (G t c)) ((at_ t c i : Nat) : Int) (i : Int) = some ((List.range n).map (G t c), 0)
  | 0, i, h => by
    obtain rfl : i = n := by omega
    exact l1_end C k _ (by simp)
  | j + 1, i, h => by
    rw [show k + (j + 1) + 1 = (k + j + 1) + 1 from by omega, l1_step C _ _ (by omega) (by simp)]
    have := l1_run C k j (i + 1) (by omega)
    rw [List.range_succ, List.map_append] at this
    exact this

theorem cut_f (C : Cuts t c n) : withyref17_Cut.f (n + 4) t [(c : Int)] 0 true = some ((List.range n).map (G t c), 0) := by
  have a1 := C.t1
  have a2 := C.t2
  have a3 := C.c1
  have a4 := C.c2
  have hr : withyref1_Ring.f true = some 4096 := rfl
  have h := l1_run C 0 n 0 (by omega)
  have h0 : ((at_ t c 0 : Nat) : Int) = 0 := by unfold at_; simp
  rw [h0] at h
  have e : n + 4 = (((0 + n + 1) + 1) + 1) + 1 := by omega
  have h2 : rd [(c : Int)] 0 = (c : Int) := rfl
  have hw : wrap64 (0 + 1) = 1 := wrap_i64 (by omega) (by omega)
  unfold withyref17_Cut.f
  rw [if_neg (by omega), if_neg (by omega), if_neg (by simp), if_neg (by simp), if_neg (by omega), hr, Option.bind_some, e, withyref17_Cut.j0, if_neg (by simp), withyref17_Cut.l0, if_pos (by simp), if_pos (show (0 : Int) ≤ 0 from Int.le_refl 0), h2, if_neg (by omega), if_neg (by omega), hw, withyref17_Cut.l0, if_neg (by simp)]
  exact h

theorem pre_at (C : Cuts t c n) : ∀ i, i ≤ n → pre (D t c) i = t.extract 0 (at_ t c i)
  | 0, _ => by
    have : at_ t c 0 = 0 := by unfold at_; simp
    rw [this]
    unfold pre
    exact (ByteArray.ext (by simp)).symm
  | i + 1, h => by
    unfold pre
    rw [pre_at C i (by omega)]
    unfold D
    refine ByteArray.ext ?_
    simp only [ByteArray.data_append, ByteArray.data_extract]
    have h1 : at_ t c i ≤ at_ t c (i + 1) := by unfold at_; rw [Nat.succ_mul]; omega
    rw [Array.extract_append_extract]
    simp [Nat.max_eq_right h1]

theorem pre_all (C : Cuts t c n) : pre (D t c) n = t := by
  rw [pre_at C n (Nat.le_refl _), at_end C]
  exact ByteArray.ext (by simp)

theorem D_size (C : Cuts t c n) (i : Nat) : (D t c i).size ≤ 2048 := by
  have := C.t2
  unfold D
  rw [ByteArray.size_extract]
  omega

/-- The pieces as fragments. -/
theorem G_val (C : Cuts t c n) {i : Nat} (hi : i < n) : (G t c i).f0 = decide (i = 0) ∧ (G t c i).f1 = decide (i + 1 = n) ∧ (G t c i).f2 = (i : Int) ∧ (G t c i).f3 = D t c i := by
  have a1 := C.c1
  have a2 := C.t1
  refine ⟨?_, ?_, rfl, rfl⟩
  · show (((at_ t c i : Nat) : Int) == 0) = _
    rw [at_lt C hi]
    by_cases h : i = 0
    · subst h; simp
    · have : 0 < i * c := Nat.mul_pos (by omega) (by omega)
      rw [decide_eq_false h]
      simp
      omega
  · show (((at_ t c (i + 1) : Nat) : Int) == (t.size : Int)) = _
    by_cases h : i + 1 = n
    · rw [decide_eq_true h, h, at_end C]; simp
    · have hm := C.more (i + 1) (by omega)
      rw [decide_eq_false h, at_lt C (by omega)]
      rw [beq_eq_false_iff_ne]
      omega

theorem cuts_of (h1 : 1 ≤ t.size) (h2 : t.size ≤ 100) (h3 : 2 ≤ c) (h4 : c ≤ 17) : Cuts t c ((t.size + c - 1) / c) ∧ (t.size + c - 1) / c ≤ 58 ∧ 0 < (t.size + c - 1) / c := by
  have hdm := Nat.div_add_mod (t.size + c - 1) c
  have hml := Nat.mod_lt (t.size + c - 1) (show 0 < c by omega)
  have hcomm : c * ((t.size + c - 1) / c) = ((t.size + c - 1) / c) * c := Nat.mul_comm _ _
  rw [hcomm] at hdm
  generalize (t.size + c - 1) / c = n at *
  have hn : n * 2 ≤ n * c := Nat.mul_le_mul_left _ h3
  refine ⟨⟨by omega, by omega, h1, by omega, by omega, by omega, fun i hi => ?_⟩, by omega, ?_⟩
  · have : (i + 1) * c ≤ n * c := Nat.mul_le_mul_right _ hi
    rw [Nat.succ_mul] at this
    omega
  · rcases Nat.eq_zero_or_pos n with h | h
    · subst h; simp at hdm; omega
    · exact h

end Go.Proofs.Ytcpehjdnmhkcpaa.LTwiceQ
