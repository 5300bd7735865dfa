/- JoinOrder, as plain data: one packet a link, in whatever order; they are told in the order of their numbers. -/
import Derived.Test.YtcpehjdnmhkcpaaLLinksP
import Derived.Test.YtcpehjdnmhkcpaaLGapP
namespace Go.Proofs.Ytcpehjdnmhkcpaa.LOrderP
open Go Go.RowKit Go.Maps Go.Proofs.Ytcpehjdnmhkcpaa.Plain Go.Proofs.Ytcpehjdnmhkcpaa.Ring Go.Proofs.Ytcpehjdnmhkcpaa.JoinP Go.Proofs.Ytcpehjdnmhkcpaa.JoinA Go.Proofs.Ytcpehjdnmhkcpaa.JoinR Go.Proofs.Ytcpehjdnmhkcpaa.JoinG Go.Proofs.Ytcpehjdnmhkcpaa.JoinH Go.Proofs.Ytcpehjdnmhkcpaa.JoinI Go.Proofs.Ytcpehjdnmhkcpaa.JoinK
open Go.Proofs.Ytcpehjdnmhkcpaa.LGapP (dec)
open Go.Proofs.Ytcpehjdnmhkcpaa.LLinksP (put_links has_put run_keep)

def pt (j : Nat) : ByteArray := (⟨#[112]⟩ : ByteArray) ++ dec j
def fro (j : Nat) : Fr := ⟨true, true, (j : Int), pt j⟩
theorem pt_size : ∀ j, j < 8 → (pt j).size ≤ 2048 := by decide

/-- Of k packets those of left are to come; what is below m is told. -/
structure Line (k m : Nat) (left : List Nat) (s : JS) : Prop where
  short : s.short = true
  most : s.most = 64
  lost : s.lost = 0
  next : s.next = (m : Int)
  top : m ≤ k
  low : ∀ j, j < m → j ∉ left
  held : ∀ f ∈ s.held, ∃ j : Nat, m ≤ j ∧ j < k ∧ j ∉ left ∧ f = fro j
  all : ∀ j, m ≤ j → j < k → j ∉ left → fro j ∈ s.held
  links : ∀ j : Nat, j < k → j ∈ left → ((j : Int), (-1 : Int)) ∈ s.links
  puts : ∀ j : Nat, j < k → j ∉ left → ((j : Int), (j : Int)) ∈ s.links
  few : s.held.length ≤ 8

variable {k m : Nat} {left : List Nat} {s : JS}

theorem Line.size (O : Line k m left s) : s.size = 4096 := by unfold JS.size; rw [O.short]; rfl

theorem Line.off (O : Line k m left s) (hk : k ≤ 8) {j : Nat} (h1 : m ≤ j) (h2 : j < k) : s.off (j : Int) = (j : Int) - (m : Int) := by
  unfold JS.off offset
  rw [O.size, O.next]
  omega

theorem Line.num (O : Line k m left s) (hk : k ≤ 8) {i : Nat} (hi : i ≤ 8) : s.num (i : Int) = ((m + i : Nat) : Int) := by
  have := O.top
  unfold JS.num at_
  rw [O.size, O.next]
  omega

theorem Line.get_some (O : Line k m left s) {j : Nat} (h1 : m ≤ j) (h2 : j < k) (h3 : j ∉ left) : s.get (j : Int) = some (fro j) := by
  unfold JS.get
  cases h : s.held.find? (fun f => f.q == (j : Int)) with
  | none =>
    have := List.find?_eq_none.1 h _ (O.all j h1 h2 h3)
    simp [fro] at this
  | some f =>
    obtain ⟨j', _, _, _, rfl⟩ := O.held f (List.mem_of_find?_eq_some h)
    have := List.find?_some h
    simp [fro] at this
    obtain rfl : j' = j := by omega
    rfl

theorem Line.get_none (O : Line k m left s) {j : Nat} (h : j < m ∨ k ≤ j ∨ j ∈ left) : s.get (j : Int) = none := by
  unfold JS.get
  rw [List.find?_eq_none]
  intro f hf e
  obtain ⟨j', a, b, c, rfl⟩ := O.held f hf
  simp [fro] at e
  obtain rfl : j' = j := by omega
  rcases h with h | h | h
  · omega
  · omega
  · exact c h

/-- The packet that is next is told. -/
theorem Line.go (O : Line k m left s) (hk : k ≤ 8) (h1 : m < k) (h2 : m ∉ left) : ∃ s', s.step = some ([pt m], s') ∧ Line k (m + 1) left s' := by
  have hg : s.get s.next = some (fro m) := by rw [O.next]; exact O.get_some (Nat.le_refl _) h1 h2
  have hg0 : s.get (s.num ((0 : Nat) : Int)) = some (fro m) := by rw [O.num hk (by omega)]; exact O.get_some (Nat.le_refl _) h1 h2
  have hp : s.packet = (pt m, 1, true) := by
    unfold JS.packet
    simp only [JS.pack, hg0]
    have e : (fro m).e = true := rfl
    rw [if_neg (by simp), if_pos e]
    have : (⟨#[]⟩ : ByteArray) ++ (fro m).d = pt m := by
      show (⟨#[]⟩ : ByteArray) ++ pt m = pt m
      exact ByteArray.empty_append
    rw [this]
  refine ⟨s.take 1, ?_, ?_⟩
  · unfold JS.step
    simp only [hg]
    unfold JS.first
    rw [if_neg (by simp [fro]), hp]
  · have hn : (s.take 1).next = ((m + 1 : Nat) : Int) := O.num hk (i := 1) (by omega)
    refine ⟨O.short, O.most, O.lost, hn, h1, fun j hj => ?_, fun f hf => ?_, fun j a b c => ?_, O.links, O.puts, ?_⟩
    · by_cases e : j = m
      · rw [e]; exact h2
      · exact O.low j (by omega)
    · unfold JS.take at hf
      simp only [List.mem_filter] at hf
      obtain ⟨j, a, b, c, rfl⟩ := O.held f hf.1
      refine ⟨j, ?_, b, c, rfl⟩
      have ho := O.off hk a b
      have h := hf.2
      simp only [fro, ho] at h
      simp at h
      omega
    · unfold JS.take
      simp only [List.mem_filter]
      refine ⟨O.all j (by omega) b c, ?_⟩
      have ho := O.off hk (j := j) (by omega) b
      simp only [fro, ho]
      simp
      omega
    · unfold JS.take
      exact Nat.le_trans (List.length_filter_le _ _) O.few

theorem Line.upto (O : Line k m left s) (hk : k ≤ 8) (h : m = k ∨ m ∈ left) (h0 : 0 < k) (hm : m < k ∨ m = k) : ¬ 0 ≤ s.upto := by
  intro hu
  have hs := (upto_spec hu).1
  rcases h with rfl | h
  · have hl : (((0 : Nat) : Int), ((0 : Nat) : Int)) ∈ s.links := O.puts 0 h0 (O.low 0 h0)
    have := upto_neg_of (s := s) hl (by
      unfold JS.sig signed offset
      rw [O.size, O.next]
      split <;> omega)
    omega
  · have hlt : m < k := by
      rcases hm with hm | rfl
      · exact hm
      · exact absurd hu (by
          intro hu
          have hl : (((0 : Nat) : Int), ((0 : Nat) : Int)) ∈ s.links := O.puts 0 h0 (O.low 0 h0)
          have := upto_neg_of (s := s) hl (by
            unfold JS.sig signed offset
            rw [O.size, O.next]
            split <;> omega)
          omega)
    have := hs _ (O.links m hlt h)
    simp at this

theorem Line.stop (O : Line k m left s) (hk : k ≤ 8) (h : m = k ∨ m ∈ left) (h0 : 0 < k) : s.step = none := by
  have hmk := O.top
  have hg : s.get s.next = none := by
    rw [O.next]
    rcases h with rfl | h
    · exact O.get_none (.inr (.inl (Nat.le_refl _)))
    · exact O.get_none (.inr (.inr h))
  have hu := O.upto hk h h0 (by omega)
  have hf := O.few
  unfold JS.step
  simp only [hg]
  rw [if_neg hu, if_pos (by rw [O.most]; omega)]

theorem Line.run (hk : k ≤ 8) (h0 : 0 < k) : ∀ (n m : Nat) (s : JS), k - m ≤ n → Fit s → Low s → Line k m left s → ∃ m', (m' = k ∨ m' ∈ left) ∧ Line k m' left (JS.all s).2 ∧ (List.range m).map pt ++ (JS.all s).1 = (List.range m').map pt := by
  intro n
  induction n with
  | zero =>
    intro m s hn F L O
    have hmk := O.top
    have hm : m = k := by omega
    rw [all_none (O.stop hk (.inl hm) h0)]
    exact ⟨m, .inl hm, O, by simp⟩
  | succ n ih =>
    intro m s hn F L O
    have hmk := O.top
    by_cases h : m = k ∨ m ∈ left
    · rw [all_none (O.stop hk h h0)]
      exact ⟨m, h, O, by simp⟩
    · obtain ⟨s', hs, O'⟩ := O.go hk (by omega) (fun e => h (.inr e))
      obtain ⟨_, F', L', _⟩ := step_spec F L hs
      obtain ⟨m', a, b, c⟩ := ih (m + 1) s' (by omega) F' L' O'
      rw [all_some F L hs]
      refine ⟨m', a, b, ?_⟩
      rw [← c, List.range_succ, List.map_append]
      simp

theorem Line.has (O : Line k m left s) {j : Nat} (hj : j < k) : JS.has s (j : Int) = true := by
  unfold JS.has
  rw [List.any_eq_true]
  by_cases h : j ∈ left
  · exact ⟨_, O.links j hj h, by simp⟩
  · exact ⟨_, O.puts j hj h, by simp⟩

/-- One more packet comes. -/
theorem Line.put (O : Line k m left s) (hk : k ≤ 8) {n : Nat} (G : JoinH.Good s n) (hn : n ≤ 7) {j : Nat} (hj : j < k) (hl : j ∈ left) {left' : List Nat} (he : ∀ x, x ∈ left' ↔ x ∈ left ∧ x ≠ j) :
    JS.putNum s (j : Int) (fro j) = 0 ∧ ∃ m', (m' = k ∨ m' ∈ left') ∧ Line k m' left' (JS.put s (j : Int) (fro j)).2 ∧ (List.range m).map pt ++ (JS.put s (j : Int) (fro j)).1 = (List.range m').map pt := by
  have hb := O.has hj
  have hok : okFr s.short (fro j) = true := by
    rw [O.short]
    exact okFr_spec.2 ⟨by show (0 : Int) ≤ (j : Int); omega, by show (j : Int) < 4096; omega, pt_size j (by omega)⟩
  have e : JS.putNum s (j : Int) (fro j) = 0 := by unfold JS.putNum; rw [if_pos hb, if_pos hok]
  refine ⟨e, ?_⟩
  have hmj : m ≤ j := by
    by_cases h : j < m
    · exact absurd hl (O.low j h)
    · omega
  obtain ⟨F, L, _⟩ := take_in G (by omega) hb (by omega) hok
  have ht : JS.take1 (JS.setLink s (j : Int) (fro j).q) (fro j) = { JS.setLink s (j : Int) (fro j).q with held := s.held ++ [fro j] } := by
    unfold JS.take1
    rw [if_neg]
    · rfl
    · have h1 : (JS.setLink s (j : Int) (fro j).q).get (fro j).q = none := O.get_none (.inr (.inr hl))
      have h2 : (JS.setLink s (j : Int) (fro j).q).off (fro j).q = (j : Int) - m := O.off hk hmj hj
      have h3 : (JS.setLink s (j : Int) (fro j).q).size = 4096 := O.size
      rw [h1, h2, h3]
      simp
      omega
  have hlow := G.low
  have hlost := O.lost
  have O' : Line k m left' (JS.take1 (JS.setLink s (j : Int) (fro j).q) (fro j)) := by
    rw [ht]
    refine ⟨O.short, O.most, O.lost, O.next, O.top, fun x hx h => O.low x hx ((he x).1 h).1, fun f hf => ?_, fun x a b c => ?_, fun x hx h => ?_, fun x hx h => ?_, ?_⟩
    · rcases List.mem_append.1 hf with hf | hf
      · obtain ⟨x, a, b, c, rfl⟩ := O.held f hf
        exact ⟨x, a, b, fun h => c ((he x).1 h).1, rfl⟩
      · simp at hf
        subst hf
        exact ⟨j, hmj, hj, fun h => ((he j).1 h).2 rfl, rfl⟩
    · show fro x ∈ s.held ++ [fro j]
      by_cases e : x = j
      · subst e; simp
      · exact List.mem_append_left _ (O.all x a b (fun h => c ((he x).2 ⟨h, e⟩)))
    · have := (he x).1 h
      show ((x : Int), (-1 : Int)) ∈ s.links.filter (fun p => p.1 != (j : Int)) ++ [((j : Int), (j : Int))]
      refine List.mem_append_left _ (List.mem_filter.2 ⟨O.links x hx this.1, ?_⟩)
      have := this.2
      simp
      omega
    · show ((x : Int), (x : Int)) ∈ s.links.filter (fun p => p.1 != (j : Int)) ++ [((j : Int), (j : Int))]
      by_cases e : x = j
      · subst e; simp
      · refine List.mem_append_left _ (List.mem_filter.2 ⟨O.puts x hx (fun h' => h ((he x).2 ⟨h', e⟩)), ?_⟩)
        simp
        omega
    · show (s.held ++ [fro j]).length ≤ 8
      simp
      omega
  obtain ⟨m', a, b, c⟩ := Line.run hk (by omega) (k - m) m _ (Nat.le_refl _) F L O'
  unfold JS.put
  rw [if_pos e]
  exact ⟨m', a, b, c⟩

theorem Line.done (O : Line k m [] s) (h : m = k ∨ m ∈ ([] : List Nat)) : s.held = [] ∧ m = k := by
  have hm : m = k := by simpa using h
  refine ⟨?_, hm⟩
  cases hh : s.held with
  | nil => rfl
  | cons f l =>
    obtain ⟨j, a, b, _⟩ := O.held f (by rw [hh]; simp)
    omega

end Go.Proofs.Ytcpehjdnmhkcpaa.LOrderP
