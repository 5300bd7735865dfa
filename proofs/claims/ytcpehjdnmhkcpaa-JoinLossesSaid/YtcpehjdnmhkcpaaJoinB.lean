/- The walk of least. -/
import Derived.Test.YtcpehjdnmhkcpaaJoinA
namespace Go.Proofs.Ytcpehjdnmhkcpaa.JoinB
open Go Go.RowKit Go.Maps Go.Proofs.Ytcpehjdnmhkcpaa.Mem Go.Proofs.Ytcpehjdnmhkcpaa.Plain Go.Proofs.Ytcpehjdnmhkcpaa.Ring Go.Proofs.Ytcpehjdnmhkcpaa.IMap Go.Proofs.Ytcpehjdnmhkcpaa.JoinP Go.Proofs.Ytcpehjdnmhkcpaa.JoinA

theorem look_held {s : JS} {x : Int} {v : Value} (h : IMap.look (heldPairs s) x = some v) : ∃ f, f ∈ s.held ∧ f.q = x ∧ v = f.val := by
  obtain ⟨f, hf, e⟩ := List.mem_map.1 (look_mem h)
  injection e with e1 e2
  exact ⟨f, hf, e1, e2.symm⟩

/-- What least's loop has found. -/
structure LInv (s : JS) (todo : List Int) (m : Int) : Prop where
  top : m ≤ s.size
  done : ∀ f ∈ s.held, f.q ∉ todo → m ≤ s.off f.q
  from_ : m = s.size ∨ ∃ f ∈ s.held, f.q ∉ todo ∧ m = s.off f.q

theorem LInv.next {s : JS} {todo : List Int} {m : Int} (U : LInv s todo m) {f : Fr} (hf : f ∈ s.held) : LInv s (todo.filter (· != f.q)) (min m (s.off f.q)) := by
  refine ⟨by have := U.top; omega, fun p hp hnot => ?_, ?_⟩
  · by_cases e : p.q = f.q
    · rw [e]; exact Int.min_le_right _ _
    · have := U.done p hp (fun h => hnot (by simp [h, e]))
      have := Int.min_le_left m (s.off f.q)
      omega
  · by_cases c : m ≤ s.off f.q
    · rw [Int.min_eq_left c]
      rcases U.from_ with h | ⟨p, hp, hnot, h⟩
      · exact .inl h
      · exact .inr ⟨p, hp, fun h' => hnot (List.mem_filter.1 h').1, h⟩
    · rw [Int.min_eq_right (by omega)]
      exact .inr ⟨f, hf, by simp, rfl⟩

theorem least_end {s : JS} {m : Int} (U : LInv s [] m) : m = s.least :=
  minL_unique U.top (fun x hx => by
    obtain ⟨p, hp, rfl⟩ := List.mem_map.1 hx
    exact U.done p hp (by simp)) (by
    rcases U.from_ with h | ⟨p, hp, _, h⟩
    · exact .inl h
    · exact .inr (List.mem_map.2 ⟨p, hp, h.symm⟩))

set_option maxHeartbeats 1000000 in
set_option maxRecDepth 100000 in
theorem least_calls (J bl bh : Nat) (s : JS) (w : World) (h : JRep w J bl bh s) (F : Fit s) :
    Calls Try.prog 45 #[.pointer (some ⟨J, 0, none⟩)] w fun e w' => e = .returned (.int .i64 s.least) ∧ Below w.heap.size w w' := by
  have c0 : w.cell? ⟨J, 0, none⟩ = some (.int .i64 s.size) := h.blk.cell 0
  have c5 : w.cell? ⟨J, 5, none⟩ = some (.map (some bh)) := h.blk.cell 5
  have hJ := h.blk.lt
  have hsz := size_in s
  go_enter Try.func45, Try.ntmps45
  go_wp2_with (first
    | (at_range; refine wpList_irange h.held rfl _ 70 33 rfl law3 Try.underlying70 rfl ?_; intro w0 hrg hg0 hs0)
    | go_in)
  go_frame
  go_loopw [3] (fun v wr => ∃ (todo : List Int) (m : Int), v = .int .i64 m ∧ IRange Try.prog 3 wr bh w.heap.size (heldPairs s) todo ∧ Below w.heap.size w wr ∧ LInv s todo m) (fun _ wr => wr.rangeLeft bh w.heap.size)
  case atStart =>
    refine ⟨_, s.size, rfl, hrg, (Below.refl _ _).grown hg0 (Nat.le_refl _) (fun k hk => by cases hk), ⟨Int.le_refl _, fun f hf hn => ?_, .inl rfl⟩⟩
    exact absurd (List.mem_map.2 ⟨(f.q, f.val), List.mem_map.2 ⟨f, hf, rfl⟩, rfl⟩) hn
  case round =>
    obtain ⟨todo, m, rfl, hrg, hB, U⟩ := hrel
    go_wp2_with (first
      | (at_next; refine wpList_inext hrg rfl _ rfl law3 Try.underlying3 rfl ?_ ?_)
      | go_in)
    · intro htodo
      subst htodo
      have HU := Lib.hid (least_end U)
      go_wp2_with fail
      go_ret
      exact ⟨by rw [← HU.out]; rfl, hB⟩
    · intro x v w1 hwx hmem hlook hrg1 hlt hg1 hs1 hen
      obtain ⟨f, hf, hq, hv⟩ := look_held hlook
      have hB1 : Below w.heap.size w w1 := hB.grown hg1 hB.size (fun k hk => by cases hk; exact Nat.le_refl _)
      have hw := F.seqs _ hf
      rw [hq] at hw
      have hsc := offset_calls J s.size s.next x w1 ⟨(hB1.cell hJ).trans c0, (hB1.cell hJ).trans (h.blk.cell 1)⟩ (ringOf_size s.short) ⟨F.next0, F.next1⟩ ⟨by omega, by omega⟩
      have HS := Lib.hid hsc
      have HQ := Lib.hid hq
      clear hsc hq hv hlook
      go_wp2_with (go_at_call 33; refine HS.out.mono ?_; rintro e w2 ⟨rfl, nq, rfl⟩)
      go_roundw
      case rel => exact ⟨_, _, congrArg (Value.int .i64) (min_as m (s.off x)), IRange_drewN hrg1 nq, below_drewN hB1 nq, by have := U.next hf; rw [HQ.out] at this; exact this⟩
      case measure => exact hlt

end Go.Proofs.Ytcpehjdnmhkcpaa.JoinB
