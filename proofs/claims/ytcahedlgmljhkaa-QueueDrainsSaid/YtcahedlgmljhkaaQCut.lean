/- split.Cut, with one size: what it answers; its contract. -/
import Derived.Test.YtcahedlgmljhkaaQP
import Derived.Test.YtcahedlgmljhkaaPQueueDrainsx8
namespace Go.Proofs.Ytcahedlgmljhkaa.QCut
open Go Go.RowKit Go.Proofs.Ytcahedlgmljhkaa.Plain Go.Proofs.Ytcahedlgmljhkaa.PQueueDrains Go.Proofs.YtcahedlgmljhkaaW.PrintWords Go.Proofs.YtcahedlgmljhkaaW.PrintLast Go.Proofs.YtcahedlgmljhkaaW.PrintMore Go.Proofs.Ytcahedlgmljhkaa.QP

variable {t : ByteArray} {z n : Nat} {q : Int} {b : Bool}

def rest (t : ByteArray) (z i : Nat) : ByteArray := t.extract (min (i * z) t.size) t.size
def fr (t : ByteArray) (z n : Nat) (q : Int) (b : Bool) (i : Nat) : S32 := ⟨(frag t z n q (ringOf b) i).b, (frag t z n q (ringOf b) i).e, (frag t z n q (ringOf b) i).q, (frag t z n q (ringOf b) i).d⟩

structure Cuts (t : ByteArray) (z n : Nat) (q : Int) (b : Bool) : Prop where
  c1 : 1 ≤ z
  c2 : z ≤ 1500
  t1 : 1 ≤ t.size
  t2 : t.size ≤ 1500
  n1 : n ≤ 64
  n0 : 0 < n
  last : t.size ≤ n * z
  more : ∀ i, i < n → i * z < t.size
  q0 : 0 ≤ q
  q1 : q < ringOf b

theorem rest_size (t : ByteArray) (z i : Nat) : (rest t z i).size = t.size - i * z := by unfold rest; rw [ByteArray.size_extract]; omega
theorem rest_zero (t : ByteArray) (z : Nat) : rest t z 0 = t := by
  unfold rest
  refine ByteArray.ext ?_
  simp

theorem toList_nil (s : ByteArray) : s.toList = [] ↔ s.size = 0 := by
  rw [ByteArray.toList_eq, Array.toList_eq_nil_iff, ← Array.size_eq_zero_iff]
  rfl

theorem rest_next {i : Nat} (h : i * z < t.size) : (rest t z i).extract (min z (rest t z i).size) (rest t z i).size = rest t z (i + 1) := by
  have hs := rest_size t z i
  rw [hs]
  unfold rest
  refine ByteArray.ext ?_
  simp only [ByteArray.data_extract, Array.extract_extract]
  have : t.data.size = t.size := rfl
  rw [Nat.succ_mul]
  congr 1
  · omega
  · omega

theorem rest_piece {i : Nat} (h : i * z < t.size) : (rest t z i).extract 0 (min z (rest t z i).size) = t.extract (i * z) (min ((i + 1) * z) t.size) := by
  have hs := rest_size t z i
  rw [hs]
  unfold rest
  refine ByteArray.ext ?_
  simp only [ByteArray.data_extract, Array.extract_extract]
  rw [Nat.succ_mul]
  congr 1
  · omega
  · omega

theorem wr_seq {i : Nat} (hi : i ≤ 64) (q0 : 0 ≤ q) (q1 : q < ringOf b) : Int.tmod (wrap64 (q + (i : Int))) (ringOf b) = (q + (i : Int)) % ringOf b := by
  have hrg := ringOf_size b
  rw [wrap_i64 (by omega) (by omega), Int.tmod_eq_emod_of_nonneg (by omega)]
theorem wr_one {i : Nat} (hi : i ≤ 64) : wrap64 ((i : Int) + 1) = ((i + 1 : Nat) : Int) := by rw [wrap_i64 (by omega) (by omega)]; omega

theorem l1_end (C : Cuts t z n q b) (k : Nat) (acc : List S32) : split_Cut.l1 (k + 1) (rest t z n) [(z : Int)] q (ringOf b) acc (n : Int) = some (acc, 0) := by
  have hl := C.last
  have hr := rest_size t z n
  rw [split_Cut.l1, if_pos ((toList_nil _).2 (by omega))]

theorem l1_step (C : Cuts t z n q b) (k : Nat) (acc : List S32) {i : Nat} (hi : i < n) (hacc : acc.length = i) : split_Cut.l1 (k + 1) (rest t z i) [(z : Int)] q (ringOf b) acc (i : Int) = split_Cut.l1 k (rest t z (i + 1)) [(z : Int)] q (ringOf b) (acc ++ [fr t z n q b i]) ((i + 1 : Nat) : Int) := by
  have hm := C.more i hi
  have hn := C.n1
  have a2 := C.c2
  have a1 := C.c1
  have b2 := C.t2
  have q0 := C.q0
  have q1 := C.q1
  have hrg := ringOf_size b
  have hr := rest_size t z i
  have hne : ¬ (rest t z i).toList = [] := fun e => by have := (toList_nil _).1 e; omega
  have h1 : Int.tmod (i : Int) (([(z : Int)] : List Int).length : Int) = 0 := by
    show Int.tmod (i : Int) 1 = 0
    exact Int.tmod_one _
  have h2 : rd [(z : Int)] 0 = (z : Int) := rfl
  have hmn : mn (z : Int) ((rest t z i).size : Int) = ((min z (rest t z i).size : Nat) : Int) := by
    unfold mn
    split <;> omega
  have hnext := rest_next (i := i) hm
  have hpiece := rest_piece (i := i) hm
  have hend : ((((min z (rest t z i).size : Nat) : Int) == ((rest t z i).size : Int)) : Bool) = (i + 1 == n) := by
    rw [Bool.eq_iff_iff, beq_iff_eq, beq_iff_eq]
    have hl := C.last
    by_cases e : i + 1 = n
    · subst e
      rw [Nat.succ_mul] at hl
      constructor
      · intro _; rfl
      · intro _; omega
    · have hm2 := C.more (i + 1) (by omega)
      rw [Nat.succ_mul] at hm2
      constructor
      · intro h; omega
      · intro h; exact absurd h e
  have hfst : ((i : Int) == 0) = (i == 0) := by rw [Bool.eq_iff_iff, beq_iff_eq, beq_iff_eq]; omega
  have p1 : ¬ ((i : Int) = 64) := by omega
  have p6 : ¬ (([(z : Int)] : List Int).length : Int) = 0 := by simp
  have p7 : (0 : Int) < (([(z : Int)] : List Int).length : Int) := by simp
  have p8 : ¬ ringOf b = 0 := by omega
  have p9 : (0 : Int) ≤ ((min z (rest t z i).size : Nat) : Int) := by omega
  have p10 : ((min z (rest t z i).size : Nat) : Int) ≤ ((rest t z i).size : Int) := by omega
  have p11 : acc.length < 4398046511104 := by omega
  have hi64 : i ≤ 64 := by omega
  have hmod := wr_seq (b := b) hi64 q0 q1
  have hi1 := wr_one hi64
  rw [split_Cut.l1, if_neg hne, if_neg p1, if_neg p6, h1, if_pos (Int.le_refl 0), if_pos p7, if_neg p8, h2, hmn, if_pos p9, if_pos p10, if_pos p11, hi1, hmod, hend, hfst, Int.toNat_natCast, hnext, hpiece]
  rfl

theorem l1_run (C : Cuts t z n q b) (k : Nat) : ∀ (j i : Nat), i + j = n → split_Cut.l1 (k + j + 1) (rest t z i) [(z : Int)] q (ringOf b) ((List.range i).map (fr t z n q b)) (i : Int) = some ((List.range n).map (fr t z n q b), 0)
  | 0, i, h => by
    obtain rfl : i = n := by omega
    exact l1_end C k _
  | j + 1, i, h => by
    rw [show k + (j + 1) + 1 = (k + j + 1) + 1 from by omega, l1_step C _ _ (by omega) (by simp)]
    have := l1_run C k j (i + 1) (by omega)
    rw [List.range_succ, List.map_append] at this
    exact this

theorem cut_f (C : Cuts t z n q b) : split_Cut.f (n + 4) t [(z : Int)] q b = some ((List.range n).map (fr t z n q b), 0) := by
  have a1 := C.t1
  have a2 := C.t2
  have a3 := C.c1
  have a4 := C.c2
  have q0 := C.q0
  have q1 := C.q1
  have hr : mphead_Ring.f b = some (ringOf b) := by unfold mphead_Ring.f ringOf; split <;> rfl
  have h := l1_run C 0 n 0 (by omega)
  rw [rest_zero] at h
  have e : n + 4 = (((0 + n + 1) + 1) + 1) + 1 := by omega
  have h2 : rd [(z : Int)] 0 = (z : Int) := rfl
  have hw : wrap64 (0 + 1) = 1 := wrap_i64 (by omega) (by omega)
  have hm1 : split_may.f (t.size : Int) = some true := by unfold split_may.f; rw [if_pos (by omega), decide_eq_true (by omega)]
  have hm2 : split_may.f (z : Int) = some true := by unfold split_may.f; rw [if_pos (by omega), decide_eq_true (by omega)]
  have hd : decide (q ≥ ringOf b) = false := decide_eq_false (by omega)
  unfold split_Cut.f
  rw [hr, Option.bind_some, hm1, Option.bind_some, if_pos rfl, if_neg (by simp), if_neg (by simp), if_neg (by omega), hd, e, split_Cut.j0, if_neg (by simp), split_Cut.l0, if_pos (by simp), if_pos (Int.le_refl 0), if_pos (by simp), h2, hm2, Option.bind_some, if_pos rfl, hw, split_Cut.l0, if_neg (by simp)]
  exact h

theorem cuts_of (hz : 1 ≤ z) (hz1 : z ≤ 1500) (ho : okPk z t = true) (q0 : 0 ≤ q) (q1 : q < ringOf b) : Cuts t z (pieces z t) q b := by
  obtain ⟨h1, h2, h3⟩ := okPk_spec.1 ho
  unfold pieces at h3 ⊢
  have hdm := Nat.div_add_mod (t.size + z - 1) z
  have hml := Nat.mod_lt (t.size + z - 1) (show 0 < z by omega)
  have hcomm : z * ((t.size + z - 1) / z) = ((t.size + z - 1) / z) * z := Nat.mul_comm _ _
  have hpos : 0 < (t.size + z - 1) / z := Nat.div_pos (by omega) (by omega)
  rw [hcomm] at hdm
  generalize (t.size + z - 1) / z = n at *
  refine ⟨hz, hz1, h1, h2, h3, hpos, by omega, fun i hi => ?_, q0, q1⟩
  have : (i + 1) * z ≤ n * z := Nat.mul_le_mul_right _ hi
  rw [Nat.succ_mul] at this
  omega

end Go.Proofs.Ytcahedlgmljhkaa.QCut
