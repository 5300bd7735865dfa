/- JoinTwice, as plain data: each fragment of one packet comes twice, once on each of two links. -/
import Derived.Test.YtcpehjdnmhkcpaaLLinksP
namespace Go.Proofs.Ytcpehjdnmhkcpaa.LTwiceP
open Go Go.RowKit Go.Maps Go.Proofs.Ytcpehjdnmhkcpaa.Plain Go.Proofs.Ytcpehjdnmhkcpaa.Ring Go.Proofs.Ytcpehjdnmhkcpaa.JoinP Go.Proofs.Ytcpehjdnmhkcpaa.JoinA Go.Proofs.Ytcpehjdnmhkcpaa.JoinR Go.Proofs.Ytcpehjdnmhkcpaa.JoinG Go.Proofs.Ytcpehjdnmhkcpaa.JoinH Go.Proofs.Ytcpehjdnmhkcpaa.JoinI Go.Proofs.Ytcpehjdnmhkcpaa.JoinK

def F (D : Nat → ByteArray) (n i : Nat) : Fr := ⟨decide (i = 0), decide (i + 1 = n), (i : Int), D i⟩
def pre (D : Nat → ByteArray) : Nat → ByteArray
  | 0 => ⟨#[]⟩
  | i + 1 => pre D i ++ D i

/-- next, what the links had last, how many fragments are held, how many are lost. -/
def S (D : Nat → ByteArray) (n : Nat) (nx : Nat) (l : List (Int × Int)) (h : Nat) (lo : Int) : JS :=
  { short := true, most := 128, next := (nx : Int), links := l, held := (List.range h).map (F D n), lost := lo }

variable {D : Nat → ByteArray} {n nx h : Nat} {l : List (Int × Int)} {lo : Int}

theorem S_size : (S D n nx l h lo).size = 4096 := rfl
theorem S_num {i : Nat} (hi : i ≤ 64) : (S D n 0 l h lo).num (i : Int) = (i : Int) := by
  show ((0 : Nat) + (i : Int)) % 4096 = _
  omega
theorem S_off {i : Nat} (hi : i ≤ 64) : (S D n 0 l h lo).off (i : Int) = (i : Int) := by
  show ((i : Int) - (0 : Nat)) % 4096 = _
  omega
theorem S_get {i : Nat} (hi : i < h) : (S D n nx l h lo).get (i : Int) = some (F D n i) := by
  unfold JS.get
  cases hf : (S D n nx l h lo).held.find? (fun f => f.q == (i : Int)) with
  | none =>
    have := List.find?_eq_none.1 hf (F D n i) (List.mem_map.2 ⟨i, List.mem_range.2 hi, rfl⟩)
    simp [F] at this
  | some f =>
    obtain ⟨j, _, rfl⟩ := List.mem_map.1 (List.mem_of_find?_eq_some hf)
    have := List.find?_some hf
    simp [F] at this
    obtain rfl : j = i := by omega
    rfl
theorem S_none {x : Int} (hx : (h : Int) ≤ x) : (S D n nx l h lo).get x = none := by
  unfold JS.get
  rw [List.find?_eq_none]
  intro f hf e
  obtain ⟨j, hj, rfl⟩ := List.mem_map.1 hf
  have := List.mem_range.1 hj
  simp [F] at e
  omega

theorem S_held : (S D n nx l h lo).held.length = h := by simp [S]

/-- The packet that begins at 0. -/
theorem S_pack (hn : n ≤ 64) (hh : h ≤ n) : ∀ (k i : Nat), i ≤ h → h - i < k → (S D n 0 l h lo).pack k i (pre D i) = if h = n ∧ i < n then (pre D n, n, true) else (⟨#[]⟩, h, false)
  | 0, i, _, hk => by omega
  | k + 1, i, hi, hk => by
    by_cases hlt : i < h
    · have hg : (S D n 0 l h lo).get ((S D n 0 l h lo).num (i : Int)) = some (F D n i) := by rw [S_num (by omega)]; exact S_get hlt
      simp only [JS.pack, hg]
      have hb : ¬ (i ≠ 0 ∧ (F D n i).b = true) := by rintro ⟨a, b⟩; simp [F] at b; exact a b
      rw [if_neg hb]
      by_cases he : i + 1 = n
      · have he2 : (F D n i).e = true := by simp [F, he]
        rw [if_pos he2, if_pos ⟨by omega, by omega⟩]
        subst he
        rfl
      · have he2 : ¬ (F D n i).e = true := by simp [F, he]
        rw [if_neg he2]
        have := S_pack hn hh k (i + 1) (by omega) (by omega)
        rw [show pre D i ++ (F D n i).d = pre D (i + 1) from rfl, this]
        by_cases hc : h = n
        · rw [if_pos ⟨hc, by omega⟩, if_pos ⟨hc, by omega⟩]
        · rw [if_neg (fun x => hc x.1), if_neg (fun x => hc x.1)]
    · have hih : i = h := by omega
      have hg : (S D n 0 l h lo).get ((S D n 0 l h lo).num (i : Int)) = none := by rw [S_num (by omega)]; exact S_none (by omega)
      simp only [JS.pack, hg]
      rw [if_neg (by omega), hih]

/-- It waits for more. -/
theorem S_wait (hn : n ≤ 64) (hh : h < n) (hu : (S D n 0 l h lo).upto < (h : Int)) (h0 : 0 < h) : (S D n 0 l h lo).step = none := by
  have hg : (S D n 0 l h lo).get (S D n 0 l h lo).next = some (F D n 0) := S_get h0
  have hp : (S D n 0 l h lo).packet = (⟨#[]⟩, h, false) := by
    unfold JS.packet
    have := S_pack (D := D) (l := l) (lo := lo) hn (Nat.le_of_lt hh) ((S D n 0 l h lo).held.length + 1) 0 (Nat.zero_le _) (by rw [S_held]; omega)
    rw [if_neg (by omega)] at this
    exact this
  have hf : (S D n 0 l h lo).first (F D n 0) (S D n 0 l h lo).upto = none := by
    unfold JS.first
    rw [if_neg (by simp [F]), hp]
    simp only
    rw [S_num (by omega), S_none (Int.le_refl _), if_neg (by simp), if_neg (by omega)]
  unfold JS.step
  simp only [hg, hf]
  rw [if_pos (by rw [S_held]; show (h : Int) ≤ 128; omega)]

/-- It is told. -/
theorem S_tell (hn : n ≤ 64) (h0 : 0 < n) : (S D n 0 l n lo).step = some ([pre D n], S D n n l 0 lo) := by
  have hg : (S D n 0 l n lo).get (S D n 0 l n lo).next = some (F D n 0) := S_get h0
  have hp : (S D n 0 l n lo).packet = (pre D n, n, true) := by
    unfold JS.packet
    have := S_pack (D := D) (l := l) (lo := lo) hn (Nat.le_refl _) ((S D n 0 l n lo).held.length + 1) 0 (Nat.zero_le _) (by rw [S_held]; omega)
    rw [if_pos ⟨rfl, h0⟩] at this
    exact this
  have hf : (S D n 0 l n lo).first (F D n 0) (S D n 0 l n lo).upto = some ([pre D n], (S D n 0 l n lo).take n) := by
    unfold JS.first
    rw [if_neg (by simp [F]), hp]
  unfold JS.step
  simp only [hg, hf]
  have ht : (S D n 0 l n lo).take n = S D n n l 0 lo := by
    unfold JS.take
    rw [S_num hn]
    have : (S D n 0 l n lo).held.filter (fun f => !decide ((S D n 0 l n lo).off f.q < (n : Int))) = [] := by
      rw [List.filter_eq_nil_iff]
      intro f hf
      obtain ⟨j, hj, rfl⟩ := List.mem_map.1 hf
      have := List.mem_range.1 hj
      have ho := S_off (D := D) (n := n) (l := l) (h := n) (lo := lo) (i := j) (by omega)
      simp only [F, ho]
      simp
      omega
    rw [this]
    rfl
  rw [ht]

/-- Nothing is there, nothing is to be skipped. -/
theorem S_idle (hu : (S D n nx l 0 lo).upto < 0) : (S D n nx l 0 lo).step = none := by
  have hg : (S D n nx l 0 lo).get (S D n nx l 0 lo).next = none := S_none (by show ((0 : Nat) : Int) ≤ ((nx : Nat) : Int); omega)
  unfold JS.step
  simp only [hg]
  rw [if_neg (by omega), if_pos (by rw [S_held]; show ((0 : Nat) : Int) ≤ 128; omega)]

theorem upto_lt {s : JS} {x : Int} {p : Int × Int} (hp : p ∈ s.links) (h : p.2 < 0 ∨ s.sig p.2 < x) (hx : 0 ≤ x) : s.upto < x := by
  by_cases hu : 0 ≤ s.upto
  · obtain ⟨h1, h2⟩ := (upto_spec hu).1 p hp
    omega
  · omega

def st (D : Nat → ByteArray) (n i : Nat) : JS := if i = n then S D n n [(0, (i : Int) - 1), (1, (i : Int) - 1)] 0 i else S D n 0 [(0, (i : Int) - 1), (1, (i : Int) - 1)] i i
def mid (D : Nat → ByteArray) (n i : Nat) : JS := if i + 1 = n then S D n n [(1, (i : Int) - 1), (0, (i : Int))] 0 i else S D n 0 [(1, (i : Int) - 1), (0, (i : Int))] (i + 1) i
def told (D : Nat → ByteArray) (n i : Nat) : List ByteArray := if i = n then [pre D n] else []

theorem st_zero (h : 0 < n) : JS.add (JS.add (JS.new true 128) 0) 1 = st D n 0 := by
  unfold st
  rw [if_neg (by omega)]
  rfl

theorem ok_f {D : Nat → ByteArray} (hD : ∀ i, (D i).size ≤ 2048) {n i : Nat} (hi : i < 64) : okFr true (F D n i) = true :=
  okFr_spec.2 ⟨by show (0 : Int) ≤ (i : Int); omega, by show (i : Int) < 4096; omega, hD i⟩

theorem sig_at {i : Nat} (hi : i < 64) : (S D n 0 l h lo).sig (i : Int) = (i : Int) := by
  show (if (4096 : Int) / 2 ≤ ((i : Int) - (0 : Nat)) % 4096 then ((i : Int) - (0 : Nat)) % 4096 - 4096 else ((i : Int) - (0 : Nat)) % 4096) = _
  split <;> omega
theorem sig_end {i : Nat} (_hn : n ≤ 64) (hi : i + 1 = n) : (S D n n l h lo).sig (i : Int) < 0 := by
  show (if (4096 : Int) / 2 ≤ ((i : Int) - (n : Nat)) % 4096 then ((i : Int) - (n : Nat)) % 4096 - 4096 else ((i : Int) - (n : Nat)) % 4096) < 0
  split <;> omega
theorem off_end {i : Nat} (_hn : n ≤ 64) (hi : i + 1 = n) : (S D n n l h lo).off (i : Int) = 4095 := by
  show ((i : Int) - (n : Nat)) % 4096 = _
  omega

theorem idle_end {i : Nat} (hn : n ≤ 64) (hi : i + 1 = n) (hl : ((0 : Int), (i : Int)) ∈ l) : (S D n n l 0 lo).step = none :=
  S_idle (upto_lt (p := (0, (i : Int))) hl (.inr (sig_end hn hi)) (Int.le_refl _))
theorem wait_at {i : Nat} (hn : n ≤ 64) (hi : i + 1 < n) (hl : ((0 : Int), (i : Int)) ∈ l) : (S D n 0 l (i + 1) lo).step = none :=
  S_wait hn hi (upto_lt (p := (0, (i : Int))) hl (.inr (by simp only; rw [sig_at (by omega)]; omega)) (by omega)) (by omega)

/-- On the first link. -/
theorem put_a (hD : ∀ i, (D i).size ≤ 2048) (hn : n ≤ 64) {i m : Nat} (hi : i < n) (G : JoinH.Good (st D n i) m) (hm : m ≤ 1000) :
    JS.putNum (st D n i) 0 (F D n i) = 0 ∧ JS.put (st D n i) 0 (F D n i) = (told D n (i + 1), mid D n i) := by
  have hs : st D n i = S D n 0 [(0, (i : Int) - 1), (1, (i : Int) - 1)] i i := by unfold st; rw [if_neg (by omega)]
  rw [hs] at G ⊢
  have hb : JS.has (S D n 0 [(0, (i : Int) - 1), (1, (i : Int) - 1)] i i) 0 = true := rfl
  have hok : okFr (S D n 0 [(0, (i : Int) - 1), (1, (i : Int) - 1)] i i).short (F D n i) = true := ok_f hD (by omega)
  have e : JS.putNum (S D n 0 [(0, (i : Int) - 1), (1, (i : Int) - 1)] i i) 0 (F D n i) = 0 := by unfold JS.putNum; rw [if_pos hb, if_pos hok]
  refine ⟨e, ?_⟩
  obtain ⟨Ft, L, _⟩ := take_in G (by omega) hb (by omega) hok
  have ht : JS.take1 (JS.setLink (S D n 0 [(0, (i : Int) - 1), (1, (i : Int) - 1)] i i) 0 (F D n i).q) (F D n i) = S D n 0 [(1, (i : Int) - 1), (0, (i : Int))] (i + 1) i := by
    have h1 : (JS.setLink (S D n 0 [(0, (i : Int) - 1), (1, (i : Int) - 1)] i i) 0 (F D n i).q) = S D n 0 [(1, (i : Int) - 1), (0, (i : Int))] i i := rfl
    rw [h1]
    unfold JS.take1
    have h2 : (S D n 0 [(1, (i : Int) - 1), (0, (i : Int))] i i).get (F D n i).q = none := S_none (Int.le_refl _)
    have h3 : (S D n 0 [(1, (i : Int) - 1), (0, (i : Int))] i i).off (F D n i).q = (i : Int) := S_off (by omega)
    rw [if_neg]
    · unfold S
      simp only [List.range_succ, List.map_append, List.map_cons, List.map_nil]
    · rw [h2, h3, S_size]
      simp
      omega
  rw [ht] at Ft L
  unfold JS.put
  rw [if_pos e, ht]
  unfold told mid
  by_cases he : i + 1 = n
  · rw [if_pos he, if_pos he]
    subst he
    rw [all_some Ft L (S_tell hn (by omega)), all_none (idle_end (i := i) hn rfl (by simp))]
    rfl
  · rw [if_neg he, if_neg he, all_none (wait_at hn (by omega) (by simp))]

/-- On the second. -/
theorem put_b (hD : ∀ i, (D i).size ≤ 2048) (hn : n ≤ 64) {i : Nat} (hi : i < n) :
    JS.putNum (mid D n i) 1 (F D n i) = 0 ∧ JS.put (mid D n i) 1 (F D n i) = ([], st D n (i + 1)) := by
  unfold mid st
  by_cases he : i + 1 = n
  · rw [if_pos he, if_pos he]
    have hb : JS.has (S D n n [(1, (i : Int) - 1), (0, (i : Int))] 0 i) 1 = true := rfl
    have hok : okFr (S D n n [(1, (i : Int) - 1), (0, (i : Int))] 0 i).short (F D n i) = true := ok_f hD (by omega)
    have e : JS.putNum (S D n n [(1, (i : Int) - 1), (0, (i : Int))] 0 i) 1 (F D n i) = 0 := by unfold JS.putNum; rw [if_pos hb, if_pos hok]
    refine ⟨e, ?_⟩
    have ht : JS.take1 (JS.setLink (S D n n [(1, (i : Int) - 1), (0, (i : Int))] 0 i) 1 (F D n i).q) (F D n i) = S D n n [(0, (i : Int)), (1, (i : Int))] 0 ((i : Int) + 1) := by
      have h1 : (JS.setLink (S D n n [(1, (i : Int) - 1), (0, (i : Int))] 0 i) 1 (F D n i).q) = S D n n [(0, (i : Int)), (1, (i : Int))] 0 i := rfl
      rw [h1]
      unfold JS.take1
      have h3 : (S D n n [(0, (i : Int)), (1, (i : Int))] 0 i).off (F D n i).q = 4095 := off_end hn he
      rw [if_pos (.inr (by rw [h3, S_size]; decide))]
      rfl
    unfold JS.put
    rw [if_pos e, ht, all_none (idle_end hn he (by simp))]
    rw [show (((i + 1 : Nat) : Int) - 1) = (i : Int) from by omega, show ((i + 1 : Nat) : Int) = (i : Int) + 1 from by omega]
  · rw [if_neg he, if_neg he]
    have hb : JS.has (S D n 0 [(1, (i : Int) - 1), (0, (i : Int))] (i + 1) i) 1 = true := rfl
    have hok : okFr (S D n 0 [(1, (i : Int) - 1), (0, (i : Int))] (i + 1) i).short (F D n i) = true := ok_f hD (by omega)
    have e : JS.putNum (S D n 0 [(1, (i : Int) - 1), (0, (i : Int))] (i + 1) i) 1 (F D n i) = 0 := by unfold JS.putNum; rw [if_pos hb, if_pos hok]
    refine ⟨e, ?_⟩
    have ht : JS.take1 (JS.setLink (S D n 0 [(1, (i : Int) - 1), (0, (i : Int))] (i + 1) i) 1 (F D n i).q) (F D n i) = S D n 0 [(0, (i : Int)), (1, (i : Int))] (i + 1) ((i : Int) + 1) := by
      have h1 : (JS.setLink (S D n 0 [(1, (i : Int) - 1), (0, (i : Int))] (i + 1) i) 1 (F D n i).q) = S D n 0 [(0, (i : Int)), (1, (i : Int))] (i + 1) i := rfl
      rw [h1]
      unfold JS.take1
      have h2 : (S D n 0 [(0, (i : Int)), (1, (i : Int))] (i + 1) i).get (F D n i).q = some (F D n i) := S_get (Nat.lt_succ_self i)
      rw [if_pos (.inl (by rw [h2]; rfl))]
      rfl
    unfold JS.put
    rw [if_pos e, ht, all_none (wait_at hn (by omega) (by simp))]
    rw [show (((i + 1 : Nat) : Int) - 1) = (i : Int) from by omega, show ((i + 1 : Nat) : Int) = (i : Int) + 1 from by omega]

end Go.Proofs.Ytcpehjdnmhkcpaa.LTwiceP
