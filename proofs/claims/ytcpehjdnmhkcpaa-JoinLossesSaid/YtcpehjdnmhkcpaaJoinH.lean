/- Put: what it does, as plain data; what mphead.Put answers. -/
import Derived.Test.YtcpehjdnmhkcpaaJoinG
import Derived.Test.YtcpehjdnmhkcpaaPJoinOrderx1
namespace Go.Proofs.Ytcpehjdnmhkcpaa.JoinH
open Go Go.RowKit Go.Maps Go.Proofs.Ytcpehjdnmhkcpaa.Mem Go.Proofs.Ytcpehjdnmhkcpaa.Plain Go.Proofs.Ytcpehjdnmhkcpaa.Ring Go.Proofs.Ytcpehjdnmhkcpaa.IMap Go.Proofs.Ytcpehjdnmhkcpaa.JoinP Go.Proofs.Ytcpehjdnmhkcpaa.JoinA Go.Proofs.Ytcpehjdnmhkcpaa.JoinB Go.Proofs.Ytcpehjdnmhkcpaa.JoinC Go.Proofs.Ytcpehjdnmhkcpaa.Mv Go.Proofs.Ytcpehjdnmhkcpaa.RowAt Go.Proofs.Ytcpehjdnmhkcpaa.JoinQ Go.Proofs.Ytcpehjdnmhkcpaa.JoinD Go.Proofs.Ytcpehjdnmhkcpaa.JoinE Go.Proofs.Ytcpehjdnmhkcpaa.JoinR Go.Proofs.Ytcpehjdnmhkcpaa.JoinF Go.Proofs.Ytcpehjdnmhkcpaa.JoinG

/-- May a fragment be put? -/
def okFr (short : Bool) (f : Fr) : Bool := decide (0 ≤ f.q) && (decide (f.q < ringOf short) && decide (f.d.size ≤ 2048))
/-- A fragment is taken in, or let go. -/
def JS.take1 (s : JS) (f : Fr) : JS := if (s.get f.q).isSome = true ∨ s.size / 2 ≤ s.off f.q then { s with lost := s.lost + 1 } else { s with held := s.held ++ [f] }
def JS.putNum (s : JS) (x : Int) (f : Fr) : Int := if JS.has s x = true then (if okFr s.short f = true then 0 else 1900) else 1902
def JS.put (s : JS) (x : Int) (f : Fr) : List ByteArray × JS := if JS.putNum s x f = 0 then JS.all (JS.take1 (JS.setLink s x f.q) f) else ([], s)

/-- What holds between the calls; no more than n have come. -/
structure Good (s : JS) (n : Nat) : Prop where
  fit : Fit s
  few : (s.held.length : Int) ≤ s.most
  low : s.lost + (s.held.length : Int) ≤ n

theorem Good.mono {s : JS} {n m : Nat} (h : Good s n) (hm : n ≤ m) : Good s m := ⟨h.fit, h.few, by have := h.low; omega⟩

theorem letGo_tot (s : JS) (o : Int) : (s.letGo o).lost + ((s.letGo o).held.length : Int) = s.lost + (s.held.length : Int) := by
  have := filter_both s.held (fun f => decide (s.off f.q < o))
  unfold JS.letGo
  simp only
  omega

theorem take_tot (s : JS) (n : Nat) : (s.take n).lost + ((s.take n).held.length : Int) ≤ s.lost + (s.held.length : Int) := by
  have := List.length_filter_le (fun f => !decide (s.off f.q < n)) s.held
  unfold JS.take
  simp only
  omega

theorem step_tot {s s' : JS} {o : List ByteArray} (h : s.step = some (o, s')) : s'.lost + (s'.held.length : Int) ≤ s.lost + (s.held.length : Int) ∧ s'.most = s.most := by
  have hover : ∀ {o : List ByteArray} {s' : JS}, (if (s.held.length : Int) ≤ s.most then none else some (([] : List ByteArray), s.letGo (s.least + 1))) = some (o, s') → s'.lost + (s'.held.length : Int) ≤ s.lost + (s.held.length : Int) ∧ s'.most = s.most := by
    intro o s' h
    split at h
    · cases h
    · cases h
      exact ⟨Int.le_of_eq (letGo_tot s _), rfl⟩
  unfold JS.step at h
  simp only at h
  split at h
  · split at h
    · rename_i r hf
      cases h
      unfold JS.first at hf
      split at hf
      · cases hf; exact ⟨Int.le_of_eq (letGo_tot s _), rfl⟩
      · split at hf
        · cases hf; exact ⟨take_tot s _, rfl⟩
        · split at hf
          · cases hf; exact ⟨Int.le_of_eq (letGo_tot s _), rfl⟩
          · split at hf
            · cases hf; exact ⟨Int.le_of_eq (letGo_tot s _), rfl⟩
            · cases hf
    · exact hover h
  · split at h
    · cases h; exact ⟨Int.le_refl _, rfl⟩
    · exact hover h

theorem step_none_few {s : JS} (h : s.step = none) : (s.held.length : Int) ≤ s.most := by
  have hover : (if (s.held.length : Int) ≤ s.most then none else some (([] : List ByteArray), s.letGo (s.least + 1))) = none → (s.held.length : Int) ≤ s.most := by
    intro h
    split at h
    · assumption
    · cases h
  unfold JS.step at h
  simp only at h
  split at h
  · split at h
    · cases h
    · exact hover h
  · split at h
    · cases h
    · exact hover h

theorem run_good : ∀ (k : Nat) (s : JS), Fit s → Low s → mu s ≤ k → (JS.run k s).2.step = none ∧ Fit (JS.run k s).2 ∧ (JS.run k s).2.lost + ((JS.run k s).2.held.length : Int) ≤ s.lost + (s.held.length : Int) := by
  intro k
  induction k with
  | zero =>
    intro s F L h
    cases hs : s.step with
    | none => rw [run_none hs]; exact ⟨hs, F, Int.le_refl _⟩
    | some r => obtain ⟨o, s'⟩ := r; have := (step_spec F L hs).1; omega
  | succ k ih =>
    intro s F L h
    cases hs : s.step with
    | none => rw [run_none hs]; exact ⟨hs, F, Int.le_refl _⟩
    | some r =>
      obtain ⟨o, s'⟩ := r
      obtain ⟨h1, F', L', _⟩ := step_spec F L hs
      obtain ⟨a, b, c⟩ := ih s' F' L' (by omega)
      have := (step_tot hs).1
      rw [run_some hs]
      exact ⟨a, b, by simp only; omega⟩

theorem all_good {s : JS} (F : Fit s) (L : Low s) : (JS.all s).2.step = none ∧ Fit (JS.all s).2 ∧ (JS.all s).2.lost + ((JS.all s).2.held.length : Int) ≤ s.lost + (s.held.length : Int) := run_good _ s F L (mu_le s)

theorem okFr_spec {short : Bool} {f : Fr} : okFr short f = true ↔ 0 ≤ f.q ∧ f.q < ringOf short ∧ f.d.size ≤ 2048 := by
  unfold okFr
  simp

/-- Behind a fragment that is taken in. -/
theorem take_in {s : JS} {n : Nat} (G : Good s n) (hn : n ≤ 4611686018427386000) {x : Int} (hx : JS.has s x = true) (hx0 : 0 ≤ x ∧ x ≤ 9223372036854775807) {f : Fr} (hf : okFr s.short f = true) :
    Fit (JS.take1 (JS.setLink s x f.q) f) ∧ Low (JS.take1 (JS.setLink s x f.q) f) ∧ (JS.take1 (JS.setLink s x f.q) f).lost + ((JS.take1 (JS.setLink s x f.q) f).held.length : Int) ≤ n + 1 := by
  obtain ⟨q0, q1, q2⟩ := okFr_spec.1 hf
  have F := G.fit
  have hlow := G.low
  have hl0 := F.lost0
  have hmost := F.most1
  have hfew := G.few
  have hlinks : (JS.setLink s x f.q).links.length ≤ 8 := by
    unfold JS.has at hx
    obtain ⟨p, hp, he⟩ := List.any_eq_true.1 hx
    have := JoinR.filter_lt s.links (fun p => p.1 != x) hp (by simpa using he)
    have := F.few
    unfold JS.setLink
    simp
    omega
  have hlast : ∀ p ∈ (JS.setLink s x f.q).links, -1 ≤ p.2 ∧ p.2 < s.size ∧ 0 ≤ p.1 ∧ p.1 ≤ 9223372036854775807 := by
    intro p hp
    unfold JS.setLink at hp
    rcases List.mem_append.1 hp with h | h
    · exact F.last p (List.mem_filter.1 h).1
    · simp at h
      subst h
      exact ⟨by simp only; omega, q1, hx0.1, hx0.2⟩
  unfold JS.take1
  split
  · refine ⟨⟨F.next0, F.next1, F.most0, F.most1, hlast, F.seqs, hlinks, ?_, ?_, ?_⟩, ?_, ?_⟩
    · have : (JS.setLink s x f.q).held = s.held := rfl
      have := F.many
      exact this
    · show 0 ≤ s.lost + 1; omega
    · show s.lost + 1 ≤ _; omega
    · show s.lost + 1 + (s.held.length : Int) ≤ _; omega
    · show s.lost + 1 + (s.held.length : Int) ≤ _; omega
  · refine ⟨⟨F.next0, F.next1, F.most0, F.most1, hlast, ?_, hlinks, ?_, ?_, ?_⟩, ?_, ?_⟩
    · intro g hg
      have hg' : g ∈ s.held ++ [f] := hg
      rcases List.mem_append.1 hg' with h | h
      · exact F.seqs g h
      · simp at h
        subst h
        exact ⟨q0, q1, q2⟩
    · show (s.held ++ [f]).length ≤ 129
      simp
      omega
    · exact F.lost0
    · exact F.lost1
    · show s.lost + ((s.held ++ [f]).length : Int) ≤ _
      simp
      omega
    · show s.lost + ((s.held ++ [f]).length : Int) ≤ _
      simp
      omega

theorem run_most : ∀ (k : Nat) (s : JS), (JS.run k s).2.most = s.most
  | 0, _ => rfl
  | k + 1, s => by
    cases hs : s.step with
    | none => rw [run_none hs]
    | some r =>
      obtain ⟨o, s'⟩ := r
      rw [run_some hs]
      exact (run_most k s').trans (step_tot hs).2

theorem put_good {s : JS} {n : Nat} (G : Good s n) (hn : n ≤ 4611686018427386000) {x : Int} (hx0 : 0 ≤ x ∧ x ≤ 9223372036854775807) (f : Fr) : Good (JS.put s x f).2 (n + 1) := by
  by_cases h : JS.has s x = true ∧ okFr s.short f = true
  · obtain ⟨hx, hf⟩ := h
    have e : JS.putNum s x f = 0 := by unfold JS.putNum; rw [if_pos hx, if_pos hf]
    obtain ⟨F, L, T⟩ := take_in G hn hx hx0 hf
    obtain ⟨a, b, c⟩ := all_good F L
    unfold JS.put
    rw [if_pos e]
    exact ⟨b, step_none_few a, by omega⟩
  · have e : ¬ JS.putNum s x f = 0 := by
      unfold JS.putNum
      split
      · rename_i hx
        rw [if_neg (fun hf => h ⟨hx, hf⟩)]
        omega
      · omega
    unfold JS.put
    rw [if_neg e]
    exact G.mono (by omega)

open Go.Proofs.Ytcpehjdnmhkcpaa.PJoinOrder in
theorem mp_good (b e : Bool) (q : Int) (d : ByteArray) (short : Bool) (h0 : 0 ≤ q) (h1 : q < ringOf short) (h2 : d.size ≤ 2048) : ∃ t, mphead_Put.f 3 b e q d short = some (t, 0) := by
  have hr : mphead_Ring.f short = some (ringOf short) := by unfold mphead_Ring.f ringOf; split <;> rfl
  have hd : decide ((d.size : Int) > 2048) = false := decide_eq_false (by omega)
  have hs2 : ∀ a b : Int, (strOfNums [a, b]).size + d.size ≤ 9223372036854775807 := fun a b => by rw [size_strOfNums]; simp; omega
  have hs4 : ∀ a b c d' : Int, (strOfNums [a, b, c, d']).size + d.size ≤ 9223372036854775807 := fun a b c d' => by rw [size_strOfNums]; simp; omega
  unfold mphead_Put.f
  rw [if_neg (by omega), hr, Option.bind_some, if_neg (by omega), hd]
  cases b <;> cases e <;> cases short <;> simp [mphead_Put.j0, mphead_Put.j1, hs2, hs4]

open Go.Proofs.Ytcpehjdnmhkcpaa.PJoinOrder in
theorem mp_bad (b e : Bool) (q : Int) (d : ByteArray) (short : Bool) (h : ¬ (0 ≤ q ∧ q < ringOf short ∧ d.size ≤ 2048)) : mphead_Put.f 3 b e q d short = some (⟨#[]⟩, 801) := by
  have hr : mphead_Ring.f short = some (ringOf short) := by unfold mphead_Ring.f ringOf; split <;> rfl
  unfold mphead_Put.f
  by_cases h0 : q < 0
  · rw [if_pos h0]; simp [mphead_Put.j0]
  · rw [if_neg h0, hr, Option.bind_some]
    by_cases h1 : q ≥ ringOf short
    · rw [if_pos h1]; simp [mphead_Put.j0]
    · rw [if_neg h1, decide_eq_true (by omega)]; simp [mphead_Put.j0]

/-- What Put asks of mphead.Put. -/
theorem mp_calls (f : Fr) (short : Bool) (w : World) : Calls Try.prog 32 #[f.val, .bool short] w fun e w' => (∃ t, e = .returned (.tuple #[.string t, .int .i64 (if okFr short f = true then 0 else 801)])) ∧ Below w.heap.size w w' := by
  obtain ⟨b, e, q, d⟩ := f
  by_cases h : okFr short ⟨b, e, q, d⟩ = true
  · obtain ⟨a1, a2, a3⟩ := okFr_spec.1 h
    obtain ⟨t, ht⟩ := mp_good b e q d short a1 a2 a3
    rw [if_pos h]
    exact (PJoinOrder.mphead_Put.calls 3 b e q d short t 0 w ht).mono fun _ _ ⟨x, y⟩ => ⟨⟨t, x⟩, y⟩
  · rw [if_neg h]
    exact (PJoinOrder.mphead_Put.calls 3 b e q d short _ 801 w (mp_bad b e q d short (fun hh => h (okFr_spec.2 hh)))).mono fun _ _ ⟨x, y⟩ => ⟨⟨_, x⟩, y⟩

end Go.Proofs.Ytcpehjdnmhkcpaa.JoinH
