/- Plain facts on the reassembly's rounds: they end; what always holds stays so. -/
import Derived.Test.YtcpehjdnmhkcpaaJoinQ
namespace Go.Proofs.Ytcpehjdnmhkcpaa.JoinR
open Go Go.RowKit Go.Maps Go.Proofs.Ytcpehjdnmhkcpaa.Mem Go.Proofs.Ytcpehjdnmhkcpaa.Plain Go.Proofs.Ytcpehjdnmhkcpaa.Ring Go.Proofs.Ytcpehjdnmhkcpaa.IMap Go.Proofs.Ytcpehjdnmhkcpaa.JoinP Go.Proofs.Ytcpehjdnmhkcpaa.JoinA Go.Proofs.Ytcpehjdnmhkcpaa.JoinB Go.Proofs.Ytcpehjdnmhkcpaa.JoinC Go.Proofs.Ytcpehjdnmhkcpaa.Mv Go.Proofs.Ytcpehjdnmhkcpaa.RowAt Go.Proofs.Ytcpehjdnmhkcpaa.JoinQ

variable {s : JS}

/-- What was let go and what is held: no more than so many. -/
def Low (s : JS) : Prop := s.lost + (s.held.length : Int) ≤ 4611686018427387000

theorem pack_spec (s : JS) : ∀ (k i : Nat) (acc : ByteArray), i ≤ (s.pack k i acc).2.1 ∧ (s.pack k i acc).2.1 ≤ i + k ∧ (∀ j : Nat, i ≤ j → j < (s.pack k i acc).2.1 → (s.get (s.num j)).isSome = true) ∧ ((s.pack k i acc).2.2 = true → i < (s.pack k i acc).2.1)
  | 0, i, acc => ⟨Nat.le_refl _, Nat.le_refl _, fun j h1 h2 => by simp only [JS.pack] at h2; omega, fun h => by simp [JS.pack] at h⟩
  | k + 1, i, acc => by
    cases hg : s.get (s.num i) with
    | none =>
      simp only [JS.pack, hg]
      exact ⟨Nat.le_refl _, Nat.le_add_right _ _, fun j h1 h2 => absurd h2 (Nat.not_lt.2 h1), fun h => by cases h⟩
    | some f =>
      simp only [JS.pack, hg]
      split
      · exact ⟨Nat.le_refl _, Nat.le_add_right _ _, fun j h1 h2 => absurd h2 (Nat.not_lt.2 h1), fun h => by cases h⟩
      · split
        · refine ⟨Nat.le_succ _, by show i + 1 ≤ _; omega, fun j h1 h2 => ?_, fun _ => Nat.lt_succ_self _⟩
          have : j = i := by have h3 : j < i + 1 := h2; omega
          rw [this, hg]; rfl
        · obtain ⟨a, b, c, d⟩ := pack_spec s k (i + 1) (acc ++ f.d)
          refine ⟨by omega, by omega, fun j h1 h2 => ?_, fun h => by have := d h; omega⟩
          by_cases e : j = i
          · rw [e, hg]; rfl
          · exact c j (by omega) h2

theorem num_zero (F : Fit s) : s.num 0 = s.next := by
  have h1 := F.next0
  have h2 := F.next1
  unfold JS.num at_
  rw [Int.add_zero]
  exact Int.emod_eq_of_lt h1 h2

theorem packet_le (F : Fit s) : s.packet.2.1 ≤ s.held.length := by
  have := F.many
  obtain ⟨_, b, c, _⟩ := pack_spec s (s.held.length + 1) 0 ⟨#[]⟩
  exact all_le ⟨F.next0, F.next1⟩ (by unfold JS.packet; omega) (fun i hi => c i (Nat.zero_le _) hi)

theorem packet_pos (F : Fit s) {f : Fr} (hg : s.get s.next = some f) : 1 ≤ s.packet.2.1 := by
  have hg' : s.get (s.num ((0 : Nat) : Int)) = some f := by rw [show ((0 : Nat) : Int) = 0 from rfl, num_zero F]; exact hg
  unfold JS.packet
  simp only [JS.pack, hg']
  rw [if_neg (by simp)]
  split
  · simp
  · obtain ⟨a, _⟩ := pack_spec s s.held.length (0 + 1) (⟨#[]⟩ ++ f.d)
    omega

theorem off_next (s : JS) : s.off s.next = 0 := by
  unfold JS.off offset
  simp

theorem filter_lt {α : Type} (l : List α) (p : α → Bool) {x : α} (hx : x ∈ l) (hp : p x = false) : (l.filter p).length < l.length := by
  have h1 := List.length_filter_lt_length_iff_exists (l := l) (p := p)
  exact h1.2 ⟨x, hx, by simp [hp]⟩

theorem filter_both {α : Type} (l : List α) (p : α → Bool) : (l.filter p).length + (l.filter (fun x => !p x)).length = l.length := by
  induction l with
  | nil => rfl
  | cons x l ih =>
    rw [List.filter_cons, List.filter_cons]
    cases p x <;> simp <;> omega

theorem letGo_low (h : Low s) (o : Int) : Low (s.letGo o) := by
  have := filter_both s.held (fun f => decide (s.off f.q < o))
  unfold Low JS.letGo at *
  simp only
  omega

theorem letGo_less {o : Int} {f : Fr} (hf : f ∈ s.held) (ho : s.off f.q < o) : (s.letGo o).held.length < s.held.length :=
  filter_lt _ _ hf (by simp [ho])

theorem letGo_le (s : JS) (o : Int) : (s.letGo o).held.length ≤ s.held.length := List.length_filter_le _ _

theorem fit_sub (F : Fit s) {s' : JS} (h1 : s'.short = s.short) (h2 : s'.most = s.most) (h3 : s'.links = s.links) (h4 : ∀ f ∈ s'.held, f ∈ s.held) (h5 : s'.held.length ≤ s.held.length) (h6 : 0 ≤ s'.next ∧ s'.next < s'.size) (h7 : 0 ≤ s'.lost) (h8 : Low s') : Fit s' := by
  have hs : s'.size = s.size := by unfold JS.size; rw [h1]
  refine ⟨h6.1, h6.2, by rw [h2]; exact F.most0, by rw [h2]; exact F.most1, fun p hp => ?_, fun f hf => ?_, by rw [h3]; exact F.few, by have := F.many; omega, h7, by unfold Low at h8; omega⟩
  · rw [h3] at hp; rw [hs]; exact F.last p hp
  · rw [hs]; exact F.seqs f (h4 f hf)

theorem letGo_fit (F : Fit s) (L : Low s) (o : Int) : Fit (s.letGo o) :=
  fit_sub F rfl rfl rfl (fun _ hf => (List.mem_filter.1 hf).1) (letGo_le s o) (num_in s o) (by have := F.lost0; unfold JS.letGo; simp only; omega) (letGo_low L o)

theorem take_low (h : Low s) (n : Nat) : Low (s.take n) := by
  have := List.length_filter_le (fun f => !decide (s.off f.q < n)) s.held
  unfold Low JS.take at *
  simp only
  omega

theorem take_fit (F : Fit s) (L : Low s) (n : Nat) : Fit (s.take n) :=
  fit_sub F rfl rfl rfl (fun _ hf => (List.mem_filter.1 hf).1) (List.length_filter_le _ _) (num_in s n) F.lost0 (take_low L n)

theorem move_fit (F : Fit s) (L : Low s) (o : Int) : Fit { s with next := s.num o } :=
  fit_sub F rfl rfl rfl (fun _ hf => hf) (Nat.le_refl _) (num_in s o) F.lost0 L

/-- A fragment that is next, behind first: less is held. -/
theorem first_less (F : Fit s) (L : Low s) {f : Fr} (hg : s.get s.next = some f) {m : Int} {o : List ByteArray} {s' : JS} (h : s.first f m = some (o, s')) : s'.held.length < s.held.length ∧ Fit s' ∧ Low s' ∧ o.length ≤ 1 := by
  obtain ⟨hf, hq⟩ := get_some hg
  have h0 : s.off f.q = 0 := by rw [hq]; exact off_next s
  have hp := packet_pos F hg
  unfold JS.first at h
  split at h
  · cases h
    exact ⟨letGo_less hf (by omega), letGo_fit F L _, letGo_low L _, by simp⟩
  · split at h
    · rename_i t n hpk
      rw [hpk] at hp
      cases h
      exact ⟨filter_lt _ _ hf (by rw [h0]; simp only at hp; simp; omega), take_fit F L n, take_low L n, by simp⟩
    · rename_i t n hpk
      rw [hpk] at hp
      simp only at hp
      split at h
      · cases h
        exact ⟨letGo_less hf (by omega), letGo_fit F L _, letGo_low L _, by simp⟩
      · split at h
        · cases h
          exact ⟨letGo_less hf (by omega), letGo_fit F L _, letGo_low L _, by simp⟩
        · cases h

theorem least_in (s : JS) : 0 ≤ s.least ∧ s.least ≤ s.size := by
  unfold JS.least
  have hsz := size_in s
  obtain ⟨a, _⟩ := minL_le s.size (s.held.map fun f => s.off f.q)
  refine ⟨?_, a⟩
  rcases minL_mem s.size (s.held.map fun f => s.off f.q) with h | h
  · omega
  · obtain ⟨f, _, e⟩ := List.mem_map.1 h
    have := (off_in s f.q).1
    omega

theorem least_of (hne : s.held ≠ []) : ∃ f ∈ s.held, s.off f.q = s.least := by
  unfold JS.least
  rcases minL_mem s.size (s.held.map fun f => s.off f.q) with h | h
  · obtain ⟨f, hf⟩ := List.exists_mem_of_ne_nil _ hne
    have h1 := (minL_le s.size (s.held.map fun f => s.off f.q)).2 (s.off f.q) (List.mem_map.2 ⟨f, hf, rfl⟩)
    have h2 := (off_in s f.q).2
    omega
  · obtain ⟨f, hf, e⟩ := List.mem_map.1 h
    exact ⟨f, hf, e⟩

theorem sig_in (s : JS) (x : Int) : -s.size ≤ s.sig x ∧ 2 * s.sig x < s.size := by
  have hsz := size_in s
  obtain ⟨a, b⟩ := off_in s x
  unfold JS.off at a b
  unfold JS.sig signed
  split <;> omega

/-- Where something may be skipped. -/
theorem upto_spec (h : 0 ≤ s.upto) : (∀ p ∈ s.links, 0 ≤ p.2 ∧ s.upto ≤ s.sig p.2) ∧ ∃ p ∈ s.links, s.sig p.2 = s.upto := by
  unfold JS.upto at h ⊢
  split at h
  · omega
  · rename_i hno
    rw [if_neg hno]
    split at h
    · omega
    · rename_i hne
      rw [if_neg hne]
      obtain ⟨_, b⟩ := minL_le s.size (s.links.map fun p => s.sig p.2)
      refine ⟨fun p hp => ⟨?_, b _ (List.mem_map.2 ⟨p, hp, rfl⟩)⟩, ?_⟩
      · rcases (show p.2 < 0 ∨ 0 ≤ p.2 from by omega) with c | c
        · exact absurd (List.any_eq_true.2 ⟨p, hp, decide_eq_true c⟩) hno
        · exact c
      · rcases minL_mem s.size (s.links.map fun p => s.sig p.2) with c | c
        · exact absurd c hne
        · obtain ⟨p, hp, e⟩ := List.mem_map.1 c
          exact ⟨p, hp, e⟩

theorem upto_ge (s : JS) : -s.size ≤ s.upto ∧ 2 * s.upto < s.size := by
  have hsz := size_in s
  unfold JS.upto
  split
  · omega
  · split
    · omega
    · rename_i hne
      rcases minL_mem s.size (s.links.map fun p => s.sig p.2) with c | c
      · exact absurd c hne
      · obtain ⟨p, hp, e⟩ := List.mem_map.1 c
        rw [← e]
        exact sig_in s p.2

theorem upto_neg_of {p : Int × Int} (hp : p ∈ s.links) (h : s.sig p.2 < 0) : s.upto < 0 := by
  have hsz := size_in s
  unfold JS.upto
  split
  · omega
  · obtain ⟨_, b⟩ := minL_le s.size (s.links.map fun p => s.sig p.2)
    have := b _ (List.mem_map.2 ⟨p, hp, rfl⟩)
    split <;> omega

/-- How many rounds there may be yet, and one. -/
def mu (s : JS) : Nat := 2 * s.held.length + (if s.get s.next = none ∧ 0 ≤ s.upto then 1 else 0)

theorem skip_mu (F : Fit s) (hg : s.get s.next = none) (hu : 0 ≤ s.upto) : mu { s with next := s.num (min (s.upto + 1) s.least) } < mu s := by
  have hsz := size_in s
  have hu2 := (upto_ge s).2
  obtain ⟨l0, l1⟩ := least_in s
  have hnot : ¬ (JS.get { s with next := s.num (min (s.upto + 1) s.least) } (s.num (min (s.upto + 1) s.least)) = none ∧ 0 ≤ JS.upto { s with next := s.num (min (s.upto + 1) s.least) }) := by
    rintro ⟨h1, h2⟩
    by_cases hle : s.least ≤ s.upto + 1
    · rw [Int.min_eq_right hle] at h1
      have hne : s.held ≠ [] := by
        intro e
        have : s.least = s.size := by unfold JS.least; rw [e]; rfl
        omega
      obtain ⟨f, hf, e⟩ := least_of hne
      have hq := F.seqs f hf
      rw [← e, num_off ⟨hq.1, hq.2.1⟩ ⟨F.next0, F.next1⟩] at h1
      have := List.find?_eq_none.1 h1 f hf
      simp at this
    · rw [Int.min_eq_left (by omega)] at h2
      obtain ⟨_, p, hp, hsig⟩ := upto_spec hu
      have hl := F.last p hp
      have hneg := (upto_spec hu).1 p hp
      have h3 := upto_neg_of (s := { s with next := s.num (s.upto + 1) }) (p := p) hp (by
        have hs := ringOf_size s.short
        have hn0 := F.next0
        have hn1 := F.next1
        generalize s.upto = M at *
        unfold JS.sig signed offset JS.num at_ at *
        unfold JS.size at *
        simp only at *
        unfold Size at hs
        generalize ringOf s.short = r at *
        obtain ⟨x, l⟩ := p
        simp only at *
        rcases hs with rfl | rfl
        · split at hsig <;> split <;> omega
        · split at hsig <;> split <;> omega)
      omega
  unfold mu
  rw [if_neg hnot, if_pos ⟨hg, hu⟩]
  simp

/-- One round: less is to come; what always holds stays so. -/
theorem step_spec (F : Fit s) (L : Low s) {o : List ByteArray} {s' : JS} (h : s.step = some (o, s')) : mu s' < mu s ∧ Fit s' ∧ Low s' ∧ o.length + s'.held.length ≤ s.held.length := by
  have hover : ∀ {o : List ByteArray} {s' : JS}, (if (s.held.length : Int) ≤ s.most then none else some (([] : List ByteArray), s.letGo (s.least + 1))) = some (o, s') → mu s' < mu s ∧ Fit s' ∧ Low s' ∧ o.length + s'.held.length ≤ s.held.length := by
    intro o s' h
    split at h
    · cases h
    · cases h
      have hm := F.most0
      have hne : s.held ≠ [] := by intro e; rename_i hlt; apply hlt; rw [e]; simp; omega
      obtain ⟨f, hf, e⟩ := least_of hne
      have hl := letGo_less (s := s) (o := s.least + 1) hf (by omega)
      refine ⟨?_, letGo_fit F L _, letGo_low L _, by simp; omega⟩
      unfold mu
      split <;> split <;> omega
  unfold JS.step at h
  simp only at h
  split at h
  · rename_i f hg
    split at h
    · rename_i r hf
      cases h
      obtain ⟨h1, h2, h3, h4⟩ := first_less F L hg hf
      refine ⟨?_, h2, h3, by omega⟩
      unfold mu
      split <;> split <;> omega
    · exact hover h
  · rename_i hg
    split at h
    · rename_i hu
      cases h
      exact ⟨skip_mu F hg hu, move_fit F L _, L, by simp⟩
    · exact hover h

theorem run_none (h : s.step = none) (k : Nat) : JS.run k s = ([], s) := by
  cases k with
  | zero => rfl
  | succ k => simp only [JS.run, h]

theorem run_some {o : List ByteArray} {s' : JS} (h : s.step = some (o, s')) (k : Nat) : JS.run (k + 1) s = (o ++ (JS.run k s').1, (JS.run k s').2) := by
  simp only [JS.run, h]

/-- Enough rounds are enough. -/
theorem run_enough : ∀ (k k' : Nat) (s : JS), Fit s → Low s → mu s ≤ k → mu s ≤ k' → JS.run k s = JS.run k' s := by
  intro k
  induction k with
  | zero =>
    intro k' s F L h h'
    cases hs : s.step with
    | none => rw [run_none hs, run_none hs]
    | some r => obtain ⟨o, s'⟩ := r; have := (step_spec F L hs).1; omega
  | succ k ih =>
    intro k' s F L h h'
    cases hs : s.step with
    | none => rw [run_none hs, run_none hs]
    | some r =>
      obtain ⟨o, s'⟩ := r
      obtain ⟨h1, F', L', _⟩ := step_spec F L hs
      obtain ⟨k'', rfl⟩ : ∃ j, k' = j + 1 := ⟨k' - 1, by omega⟩
      rw [run_some hs, run_some hs, ih k'' s' F' L' (by omega) (by omega)]

theorem mu_le (s : JS) : mu s ≤ s.fuel := by
  unfold mu JS.fuel
  split <;> omega

/-- All rounds. -/
def JS.all (s : JS) : List ByteArray × JS := JS.run s.fuel s

theorem all_none (h : s.step = none) : JS.all s = ([], s) := run_none h _
theorem all_some (F : Fit s) (L : Low s) {o : List ByteArray} {s' : JS} (h : s.step = some (o, s')) : JS.all s = (o ++ (JS.all s').1, (JS.all s').2) := by
  obtain ⟨h1, F', L', _⟩ := step_spec F L h
  have e : s.fuel = (s.fuel - 1) + 1 := by unfold JS.fuel; omega
  have hm := mu_le s
  unfold JS.all
  rw [e, run_some h, run_enough (s.fuel - 1) s'.fuel s' F' L' (by omega) (mu_le s')]

end Go.Proofs.Ytcpehjdnmhkcpaa.JoinR
