/- JoinLinks, as plain data: which links are there, how many. -/
import Derived.Test.YtcpehjdnmhkcpaaJoinK
namespace Go.Proofs.Ytcpehjdnmhkcpaa.LLinksP
open Go Go.RowKit Go.Maps Go.Proofs.Ytcpehjdnmhkcpaa.Mem Go.Proofs.Ytcpehjdnmhkcpaa.Plain Go.Proofs.Ytcpehjdnmhkcpaa.IMap Go.Proofs.Ytcpehjdnmhkcpaa.JoinP Go.Proofs.Ytcpehjdnmhkcpaa.JoinA Go.Proofs.Ytcpehjdnmhkcpaa.JoinR Go.Proofs.Ytcpehjdnmhkcpaa.JoinG Go.Proofs.Ytcpehjdnmhkcpaa.JoinH Go.Proofs.Ytcpehjdnmhkcpaa.JoinI Go.Proofs.Ytcpehjdnmhkcpaa.JoinK

theorem has_set (s : JS) (x q y : Int) : JS.has (JS.setLink s x q) y = (decide (y = x) || JS.has s y) := by
  rw [← look_has, set_pairs]
  by_cases h : y = x
  · rw [h, look_put_same]; simp
  · rw [look_put_other _ h, look_has, decide_eq_false h]; rfl

theorem has_drop (s : JS) (x y : Int) : JS.has (JS.dropLink s x) y = (!decide (y = x) && JS.has s y) := by
  rw [← look_has, drop_pairs]
  by_cases h : y = x
  · rw [h, look_del_same]; simp
  · rw [look_del_other _ h, look_has, decide_eq_false h]; rfl

theorem first_keep {s s' : JS} {f : Fr} {m : Int} {o : List ByteArray} (h : s.first f m = some (o, s')) : s'.links = s.links ∧ s'.short = s.short := by
  unfold JS.first at h
  split at h
  · cases h; exact ⟨rfl, rfl⟩
  · split at h
    · cases h; exact ⟨rfl, rfl⟩
    · split at h
      · cases h; exact ⟨rfl, rfl⟩
      · split at h
        · cases h; exact ⟨rfl, rfl⟩
        · cases h

theorem step_keep {s s' : JS} {o : List ByteArray} (h : s.step = some (o, s')) : s'.links = s.links ∧ s'.short = s.short := by
  have hover : ∀ {o : List ByteArray} {s' : JS}, (if (s.held.length : Int) ≤ s.most then none else some (([] : List ByteArray), s.letGo (s.least + 1))) = some (o, s') → s'.links = s.links ∧ s'.short = s.short := by
    intro o s' h
    split at h
    · cases h
    · cases h; exact ⟨rfl, rfl⟩
  unfold JS.step at h
  simp only at h
  split at h
  · split at h
    · rename_i hf; cases h; exact first_keep hf
    · exact hover h
  · split at h
    · cases h; exact ⟨rfl, rfl⟩
    · exact hover h

theorem run_keep : ∀ (k : Nat) (s : JS), (JS.run k s).2.links = s.links ∧ (JS.run k s).2.short = s.short
  | 0, _ => ⟨rfl, rfl⟩
  | k + 1, s => by
    cases hs : s.step with
    | none => rw [run_none hs]; exact ⟨rfl, rfl⟩
    | some r =>
      obtain ⟨o, s'⟩ := r
      rw [run_some hs]
      have h1 := run_keep k s'
      have h2 := step_keep hs
      exact ⟨h1.1.trans h2.1, h1.2.trans h2.2⟩

theorem put_short (s : JS) (x : Int) (f : Fr) : (JS.put s x f).2.short = s.short := by
  unfold JS.put
  split
  · refine (run_keep _ _).2.trans ?_
    unfold JS.take1
    split <;> rfl
  · rfl

theorem put_links {s : JS} {x : Int} {f : Fr} (h : JS.putNum s x f = 0) : (JS.put s x f).2.links = (JS.setLink s x f.q).links := by
  unfold JS.put
  rw [if_pos h]
  refine (run_keep _ _).1.trans ?_
  unfold JS.take1
  split <;> rfl

theorem has_links {s s' : JS} (h : s.links = s'.links) (y : Int) : JS.has s y = JS.has s' y := by unfold JS.has; rw [h]

theorem has_put {s : JS} {x : Int} {f : Fr} (h : JS.putNum s x f = 0) (hx : JS.has s x = true) (y : Int) : JS.has (JS.put s x f).2 y = JS.has s y := by
  rw [has_links (put_links h) y, has_set]
  by_cases e : y = x
  · rw [e, hx]; simp
  · rw [decide_eq_false e]; rfl

theorem look_some {s : JS} {x : Int} (h : JS.has s x = true) : ∃ v, IMap.look (linkPairs s) x = some v := by
  rw [← look_has] at h
  exact Option.isSome_iff_exists.1 h
theorem look_not {s : JS} {x : Int} (h : JS.has s x = false) : IMap.look (linkPairs s) x = none := by
  rw [← look_has] at h
  simpa using h

theorem len_new {s : JS} {x q : Int} (h : JS.has s x = false) : (JS.setLink s x q).links.length = s.links.length + 1 := by
  rw [← len_pairs, set_pairs]
  unfold IMap.put
  rw [List.length_append, length_del_none (look_not h), len_pairs]
  rfl
theorem len_old {s : JS} {x q : Int} (hn : (linkPairs s).Pairwise (fun p q => p.1 ≠ q.1)) (h : JS.has s x = true) : (JS.setLink s x q).links.length = s.links.length := by
  obtain ⟨v, hv⟩ := look_some h
  rw [← len_pairs, set_pairs]
  unfold IMap.put
  have := length_del_some hn hv
  rw [List.length_append, ← len_pairs s]
  simpa using this
theorem len_drop {s : JS} {x : Int} (hn : (linkPairs s).Pairwise (fun p q => p.1 ≠ q.1)) (h : JS.has s x = true) : (JS.dropLink s x).links.length + 1 = s.links.length := by
  obtain ⟨v, hv⟩ := look_some h
  rw [← len_pairs, drop_pairs, ← len_pairs]
  exact length_del_some hn hv

def hasArr (s : JS) : Array Value := ((List.range 32).map fun (k : Nat) => Value.bool (JS.has s (k : Int))).toArray
theorem hasArr_at (s : JS) {k : Nat} (hk : k < 32) : (hasArr s)[k]? = some (.bool (JS.has s (k : Int))) := by
  unfold hasArr
  rw [List.getElem?_toArray, List.getElem?_map, List.getElem?_range hk]
  rfl
theorem hasArr_set {s s' : JS} {k : Nat} {v : Bool} (hk : k < 32) (h1 : JS.has s' (k : Int) = v) (h2 : ∀ y : Int, y ≠ k → JS.has s' y = JS.has s y) : (hasArr s).setIfInBounds k (.bool v) = hasArr s' := by
  refine Array.ext_getElem? fun i => ?_
  rw [Array.getElem?_setIfInBounds]
  by_cases e : k = i
  · subst e
    rw [if_pos rfl, hasArr_at s' hk, h1, if_pos (by simpa [hasArr] using hk)]
  · rw [if_neg e]
    by_cases hi : i < 32
    · rw [hasArr_at s hi, hasArr_at s' hi, h2 _ (by omega)]
    · rw [Array.getElem?_eq_none (by simp [hasArr]; omega), Array.getElem?_eq_none (by simp [hasArr]; omega)]
theorem hasArr_same {s s' : JS} (h : ∀ y : Int, JS.has s' y = JS.has s y) : hasArr s' = hasArr s := by
  unfold hasArr
  simp only [h]

end Go.Proofs.Ytcpehjdnmhkcpaa.LLinksP
