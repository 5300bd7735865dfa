/- The reassembly in memory; the walks of upto and least. -/
import Derived.Test.YtcpehjdnmhkcpaaJoinP
import Derived.Lib.Hide
import Derived.Laws.Entries
namespace Go.Proofs.Ytcpehjdnmhkcpaa.JoinA
open Go Go.RowKit Go.Maps Go.Proofs.Ytcpehjdnmhkcpaa.Mem Go.Proofs.Ytcpehjdnmhkcpaa.Plain Go.Proofs.Ytcpehjdnmhkcpaa.Ring Go.Proofs.Ytcpehjdnmhkcpaa.IMap Go.Proofs.Ytcpehjdnmhkcpaa.JoinP

theorem law3 : Keyed Try.prog 3 := int_keyed Try.underlying3
theorem zero3 (w : World) : (zeroValue 3).run Try.prog w = .ok (.int .i64 0) w := by kernel_rfl
theorem zero33 (w : World) : (zeroValue 33).run Try.prog w = .ok (.agg #[.bool false, .bool false, .int .i64 0, .string ⟨#[]⟩]) w := by kernel_rfl

/-- The struct's cells. -/
def cells (s : JS) (bl bh : Nat) : Array Value := #[.int .i64 s.size, .int .i64 s.next, .bool s.short, .int .i64 s.most, .map (some bl), .map (some bh), .int .i64 s.lost]

def linkPairs (s : JS) : List (Int × Value) := s.links.map fun p => (p.1, .int .i64 p.2)
def heldPairs (s : JS) : List (Int × Value) := s.held.map fun f => (f.q, f.val)

/-- A reassembly at block J, its maps at bl and bh. -/
structure JRep (w : World) (J bl bh : Nat) (s : JS) : Prop where
  blk : Blk w J (cells s bl bh) 72
  links : IMap Try.prog 3 w bl (linkPairs s)
  held : IMap Try.prog 3 w bh (heldPairs s)
  ne : bl ≠ bh
  jl : J ≠ bl
  jh : J ≠ bh

/-- What always holds of it. -/
structure Fit (s : JS) : Prop where
  next0 : 0 ≤ s.next
  next1 : s.next < s.size
  most0 : 1 ≤ s.most
  most1 : s.most ≤ 128
  last : ∀ p ∈ s.links, -1 ≤ p.2 ∧ p.2 < s.size ∧ 0 ≤ p.1 ∧ p.1 ≤ 9223372036854775807
  seqs : ∀ f ∈ s.held, 0 ≤ f.q ∧ f.q < s.size ∧ f.d.size ≤ 2048
  few : s.links.length ≤ 8
  many : s.held.length ≤ 129
  lost0 : 0 ≤ s.lost
  lost1 : s.lost ≤ 4611686018427387904

theorem JRep.ring {w : World} {J bl bh : Nat} {s : JS} (h : JRep w J bl bh s) : RingAt w J s.size s.next := ⟨h.blk.cell 0, h.blk.cell 1⟩

theorem size_in (s : JS) : 4096 ≤ s.size ∧ s.size ≤ 16777216 := by have := ringOf_size s.short; unfold Size at this; unfold JS.size; omega

theorem IRange_drewN {w : World} {b r : Nat} {m : List (Int × Value)} {todo : List Int} (h : IRange Try.prog 3 w b r m todo) (n : Nat) : IRange Try.prog 3 (w.drewN n) b r m todo :=
  h.kept (row := none) (grown_drewN (grown_refl _ _) n) (by simp) (by simp)

/-- What upto's loop has found. -/
structure UInv (s : JS) (todo : List Int) (m : Int) : Prop where
  top : m ≤ s.size
  done : ∀ p ∈ s.links, p.1 ∉ todo → 0 ≤ p.2 ∧ m ≤ s.sig p.2
  from_ : m = s.size ∨ ∃ p ∈ s.links, p.1 ∉ todo ∧ m = s.sig p.2

theorem min_as (a b : Int) : (if b < a then b else a) = min a b := by split <;> omega

theorem look_links {s : JS} {x : Int} {v : Value} (h : IMap.look (linkPairs s) x = some v) : ∃ l, v = .int .i64 l ∧ (x, l) ∈ s.links := by
  obtain ⟨p, hp, e⟩ := List.mem_map.1 (look_mem h)
  injection e with e1 e2
  exact ⟨p.2, e2.symm, by rw [← e1]; exact hp⟩

theorem links_nodup {s : JS} (h : (linkPairs s).Pairwise (fun p q => p.1 ≠ q.1)) {x l l' : Int} (h1 : (x, l) ∈ s.links) (h2 : (x, l') ∈ s.links) : l = l' := by
  have a := look_of_mem h (List.mem_map.2 ⟨(x, l), h1, rfl⟩)
  have b := look_of_mem h (List.mem_map.2 ⟨(x, l'), h2, rfl⟩)
  rw [a] at b
  injection b with b
  injection b

theorem upto_neg {s : JS} {x l : Int} (h : (x, l) ∈ s.links) (hl : l < 0) : s.upto = -1 := by
  unfold JS.upto
  rw [if_pos (List.any_eq_true.2 ⟨(x, l), h, decide_eq_true hl⟩)]

theorem upto_end {s : JS} {m : Int} (U : UInv s [] m) : s.upto = if m = s.size then -1 else m := by
  have hno : ¬ s.links.any (fun p => decide (p.2 < 0)) = true := by
    intro h
    obtain ⟨p, hp, hd⟩ := List.any_eq_true.1 h
    have := (U.done p hp (by simp)).1
    have := of_decide_eq_true hd
    omega
  have hm : m = minL s.size (s.links.map fun p => s.sig p.2) := minL_unique U.top (fun x hx => by
    obtain ⟨p, hp, rfl⟩ := List.mem_map.1 hx
    exact (U.done p hp (by simp)).2) (by
    rcases U.from_ with h | ⟨p, hp, _, h⟩
    · exact .inl h
    · exact .inr (List.mem_map.2 ⟨p, hp, h.symm⟩))
  unfold JS.upto
  rw [if_neg hno, ← hm]

theorem UInv.next {s : JS} {todo : List Int} {m x l : Int} (U : UInv s todo m) (hn : (linkPairs s).Pairwise (fun p q => p.1 ≠ q.1)) (hx : (x, l) ∈ s.links) (hl : 0 ≤ l) : UInv s (todo.filter (· != x)) (min m (s.sig l)) := by
  refine ⟨by have := U.top; omega, fun p hp hnot => ?_, ?_⟩
  · by_cases e : p.1 = x
    · have : p.2 = l := links_nodup hn (x := x) (by rw [← e]; exact hp) hx
      rw [this]
      exact ⟨hl, Int.min_le_right _ _⟩
    · obtain ⟨a, b⟩ := U.done p hp (fun h => hnot (by simp [h, e]))
      exact ⟨a, by have := Int.min_le_left m (s.sig l); omega⟩
  · by_cases c : m ≤ s.sig l
    · rw [Int.min_eq_left c]
      rcases U.from_ with h | ⟨p, hp, hnot, h⟩
      · exact .inl h
      · exact .inr ⟨p, hp, fun h' => hnot (List.mem_filter.1 h').1, h⟩
    · rw [Int.min_eq_right (by omega)]
      exact .inr ⟨(x, l), hx, by simp, rfl⟩

set_option maxHeartbeats 1000000 in
set_option maxRecDepth 100000 in
theorem upto_calls (J bl bh : Nat) (s : JS) (w : World) (h : JRep w J bl bh s) (F : Fit s) :
    Calls Try.prog 42 #[.pointer (some ⟨J, 0, none⟩)] w fun e w' => e = .returned (.int .i64 s.upto) ∧ Below w.heap.size w w' := by
  have c0 : w.cell? ⟨J, 0, none⟩ = some (.int .i64 s.size) := h.blk.cell 0
  have c4 : w.cell? ⟨J, 4, none⟩ = some (.map (some bl)) := h.blk.cell 4
  have hJ := h.blk.lt
  have hsz := size_in s
  go_enter Try.func42, Try.ntmps42
  go_wp2_with (first
    | (at_range; refine wpList_irange h.links rfl _ 69 3 rfl law3 Try.underlying69 rfl ?_; intro w0 hrg hg0 hs0)
    | go_in)
  go_frame
  go_loopw [3] (fun v wr => ∃ (todo : List Int) (m : Int), v = .int .i64 m ∧ IRange Try.prog 3 wr bl w.heap.size (linkPairs s) todo ∧ Below w.heap.size w wr ∧ UInv s todo m) (fun _ wr => wr.rangeLeft bl w.heap.size)
  case atStart =>
    refine ⟨_, s.size, rfl, hrg, (Below.refl _ _).grown hg0 (Nat.le_refl _) (fun k hk => by cases hk), ⟨Int.le_refl _, fun p hp hn => ?_, .inl rfl⟩⟩
    exact absurd (List.mem_map.2 ⟨(p.1, .int .i64 p.2), List.mem_map.2 ⟨p, hp, rfl⟩, rfl⟩) hn
  case round =>
    obtain ⟨todo, m, rfl, hrg, hB, U⟩ := hrel
    go_wp2_with (first
      | (at_next; refine wpList_inext hrg rfl _ rfl law3 Try.underlying3 rfl ?_ ?_)
      | go_in)
    · intro htodo
      subst htodo
      have d0 : wr.cell? ⟨J, 0, none⟩ = some (.int .i64 s.size) := (hB.cell hJ).trans c0
      have hup := upto_end U
      have HU := Lib.hid hup
      clear hup
      by_cases hm : m = s.size
      · have b1 : (m == s.size) = true := beq_iff_eq.2 hm
        have HM := Lib.hid hm
        clear hm
        go_wp2_with fail
        go_ret
        exact ⟨by have e := HU.out; rw [if_pos HM.out] at e; rw [e]; rfl, hB⟩
      · have b1 : (m == s.size) = false := beq_eq_false_iff_ne.2 hm
        go_wp2_with fail
        go_ret
        exact ⟨by have e := HU.out; rw [if_neg hm] at e; rw [e]; rfl, hB⟩
    · intro x v w1 hwx hmem hlook hrg1 hlt hg1 hs1 hen
      obtain ⟨l, rfl, hl⟩ := look_links hlook
      have hB1 : Below w.heap.size w w1 := hB.grown hg1 hB.size (fun k hk => by cases hk; exact Nat.le_refl _)
      have hw := F.last _ hl
      by_cases hneg : l < 0
      · have HU := Lib.hid (upto_neg hl hneg)
        go_wp2_with fail
        go_ret
        exact ⟨by rw [HU.out]; rfl, hB1⟩
      · have hsc := signed_calls J s.size s.next l w1 ⟨(hB1.cell hJ).trans c0, (hB1.cell hJ).trans (h.blk.cell 1)⟩ (ringOf_size s.short) ⟨F.next0, F.next1⟩ ⟨by omega, by omega⟩
        have HS := Lib.hid hsc
        clear hsc
        go_wp2_with (go_at_call 50; refine HS.out.mono ?_; rintro e w2 ⟨rfl, nq, rfl⟩)
        go_roundw
        case rel => exact ⟨_, _, congrArg (Value.int .i64) (min_as m (s.sig l)), IRange_drewN hrg1 nq, below_drewN hB1 nq, U.next h.links.nodup hl (by omega)⟩
        case measure => exact hlt

end Go.Proofs.Ytcpehjdnmhkcpaa.JoinA
