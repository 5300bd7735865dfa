/- The walk of let: the first fragments go, up to an offset. -/
import Derived.Test.YtcpehjdnmhkcpaaMv
namespace Go.Proofs.Ytcpehjdnmhkcpaa.JoinC
open Go Go.RowKit Go.Maps Go.Proofs.Ytcpehjdnmhkcpaa.Mem Go.Proofs.Ytcpehjdnmhkcpaa.Plain Go.Proofs.Ytcpehjdnmhkcpaa.Ring Go.Proofs.Ytcpehjdnmhkcpaa.IMap Go.Proofs.Ytcpehjdnmhkcpaa.JoinP Go.Proofs.Ytcpehjdnmhkcpaa.JoinA Go.Proofs.Ytcpehjdnmhkcpaa.JoinB Go.Proofs.Ytcpehjdnmhkcpaa.Mv

/-- Where let's loop stands: what has gone is below o and has come. -/
def gone (s : JS) (o : Int) (todo : List Int) (f : Fr) : Bool := decide (s.off f.q < o) && !decide (f.q ∈ todo)

/-- The pairs that are left. -/
def leftPairs (s : JS) (o : Int) (todo : List Int) : List (Int × Value) := (s.held.filter fun f => !gone s o todo f).map fun f => (f.q, f.val)

def lostBy (s : JS) (o : Int) (todo : List Int) : Nat := (s.held.filter (gone s o todo)).length

theorem left_start (s : JS) (o : Int) : leftPairs s o ((heldPairs s).map Prod.fst) = heldPairs s := by
  unfold leftPairs
  rw [List.filter_eq_self.2]
  · rfl
  · intro f hf
    have : f.q ∈ (heldPairs s).map Prod.fst := List.mem_map.2 ⟨(f.q, f.val), List.mem_map.2 ⟨f, hf, rfl⟩, rfl⟩
    unfold gone
    rw [decide_eq_true this]
    simp

theorem lost_start (s : JS) (o : Int) : lostBy s o ((heldPairs s).map Prod.fst) = 0 := by
  unfold lostBy
  rw [List.length_eq_zero_iff, List.filter_eq_nil_iff]
  intro f hf
  have : f.q ∈ (heldPairs s).map Prod.fst := List.mem_map.2 ⟨(f.q, f.val), List.mem_map.2 ⟨f, hf, rfl⟩, rfl⟩
  unfold gone
  rw [decide_eq_true this]
  simp

/-- One whose offset is not below o stays. -/
theorem left_stays {s : JS} {o x : Int} {todo : List Int} (hx : ¬ s.off x < o) : leftPairs s o (todo.filter (· != x)) = leftPairs s o todo ∧ lostBy s o (todo.filter (· != x)) = lostBy s o todo := by
  have hg : ∀ f : Fr, gone s o (todo.filter (· != x)) f = gone s o todo f := by
    intro f
    unfold gone
    by_cases e : f.q = x
    · rw [e, decide_eq_false hx]; rfl
    · congr 2
      exact decide_eq_decide.2 (by simp [e])
  unfold leftPairs lostBy
  exact ⟨by congr 1; exact List.filter_congr fun f _ => by rw [hg], by congr 1; exact List.filter_congr fun f _ => hg f⟩

theorem left_sum (s : JS) (o : Int) (todo : List Int) : lostBy s o todo + (leftPairs s o todo).length = s.held.length := by
  unfold lostBy leftPairs
  rw [List.length_map]
  induction s.held with
  | nil => rfl
  | cons f fs ih =>
    rw [List.filter_cons, List.filter_cons]
    cases gone s o todo f <;> simp <;> omega

theorem nodup_left {s : JS} (h : (heldPairs s).Pairwise (fun p q => p.1 ≠ q.1)) (o : Int) (todo : List Int) : (leftPairs s o todo).Pairwise (fun p q => p.1 ≠ q.1) := by
  unfold leftPairs
  unfold heldPairs at h
  rw [List.pairwise_map] at h ⊢
  exact h.filter _

/-- One whose offset is below o goes. -/
theorem left_goes {s : JS} {o x : Int} {todo : List Int} (hn : (heldPairs s).Pairwise (fun p q => p.1 ≠ q.1)) (hx : s.off x < o) (hm : x ∈ todo) {f : Fr} (hf : f ∈ s.held) (hq : f.q = x) :
    leftPairs s o (todo.filter (· != x)) = del (leftPairs s o todo) x ∧ lostBy s o (todo.filter (· != x)) = lostBy s o todo + 1 := by
  have hg : ∀ f : Fr, gone s o (todo.filter (· != x)) f = (gone s o todo f || f.q == x) := by
    intro f
    unfold gone
    by_cases e : f.q = x
    · rw [e, decide_eq_true hx]; simp
    · simp [e]
  have h1 : leftPairs s o (todo.filter (· != x)) = del (leftPairs s o todo) x := by
    unfold leftPairs del
    rw [List.filter_map, List.filter_filter]
    congr 1
    refine List.filter_congr fun f _ => ?_
    rw [hg]
    cases gone s o todo f <;> simp [bne]
  have hmem : (x, f.val) ∈ leftPairs s o todo := by
    unfold leftPairs
    refine List.mem_map.2 ⟨f, List.mem_filter.2 ⟨hf, ?_⟩, by rw [hq]⟩
    unfold gone
    rw [hq, decide_eq_true hm]
    simp
  have h2 := length_del_some (nodup_left hn o todo) (look_of_mem (nodup_left hn o todo) hmem)
  have h3 := left_sum s o todo
  have h4 := left_sum s o (todo.filter (· != x))
  rw [h1] at h4
  exact ⟨h1, by omega⟩

set_option maxHeartbeats 1000000 in
set_option maxRecDepth 100000 in
theorem let_calls (J bl bh : Nat) (s : JS) (o : Int) (w : World) (h : JRep w J bl bh s) (F : Fit s) (ho : 0 ≤ o ∧ o ≤ s.size + 1) (hl : s.lost ≤ 4611686018427387000) :
    Calls Try.prog 46 #[.pointer (some ⟨J, 0, none⟩), .int .i64 o] w fun e w' => e = .returned (.tuple #[]) ∧ JRep w' J bl bh (s.letGo o) ∧ Mv J bl bh w w' := by
  have c5 : w.cell? ⟨J, 5, none⟩ = some (.map (some bh)) := h.blk.cell 5
  have hJ := h.blk.lt
  have hsz := size_in s
  go_enter Try.func46, Try.ntmps46
  go_wp2_with (first
    | (at_range; refine wpList_irange h.held rfl _ 70 33 rfl law3 Try.underlying70 rfl ?_; intro w0 hrg hg0 hs0)
    | go_in)
  go_frame
  have hring := ringOf_size s.short
  go_loopw [4] (fun _ wr => ∃ todo : List Int, IRange Try.prog 3 wr bh w.heap.size (leftPairs s o todo) todo ∧ Mv J bl bh w wr ∧ IMap Try.prog 3 wr bl (linkPairs s) ∧ Hid (Blk wr J (cells { s with lost := s.lost + (lostBy s o todo : Int) } bl bh) 72)) (fun _ wr => wr.rangeLeft bh w.heap.size)
  case atStart =>
    refine ⟨(heldPairs s).map Prod.fst, by rw [left_start]; exact hrg, (Mv.refl J bl bh w).grown hg0 (fun k hk => by cases hk), h.links.kept hg0 (by simp), Lib.hid ?_⟩
    rw [lost_start]
    have := h.blk.grown hg0 (by simp)
    simpa using this
  case round =>
    obtain ⟨todo, hrg1, hM, hL, HB⟩ := hrel
    have d0 : wr.cell? ⟨J, 0, none⟩ = some (.int .i64 s.size) := HB.out.cell 0
    have d1 : wr.cell? ⟨J, 1, none⟩ = some (.int .i64 s.next) := HB.out.cell 1
    go_wp2_with (first
      | (at_next; refine wpList_inext hrg1 rfl _ rfl law3 Try.underlying3 rfl ?_ ?_)
      | go_in)
    · intro htodo
      subst htodo
      have hat := at_calls J s.size s.next o wr ⟨d0, d1⟩ hring ⟨F.next0, F.next1⟩ ⟨ho.1, by omega⟩
      have f1 : wr.frozen? ⟨J, 1, none⟩ = false := HB.out.free 1
      have HA := Lib.hid hat
      clear hat
      go_wp2_with (go_at_call 44; refine HA.out.mono ?_; rintro e w2 ⟨rfl, nq, rfl⟩)
      go_end0
      have hgn : ∀ f : Fr, gone s o [] f = decide (s.off f.q < o) := fun f => by unfold gone; simp
      have hlp : leftPairs s o [] = heldPairs (s.letGo o) := by
        unfold leftPairs heldPairs JS.letGo
        congr 1
        exact List.filter_congr fun f _ => by rw [hgn]
      have hlb : lostBy s o [] = (s.held.filter (fun f => decide (s.off f.q < o))).length := by
        unfold lostBy
        congr 1
        exact List.filter_congr fun f _ => hgn f
      refine ⟨rfl, ⟨?_, ?_, ?_, h.ne, h.jl, h.jh⟩, (hM.drewN nq).set 1 _⟩
      · have := (HB.out.drewN nq).set 1 (.int .i64 (at_ s.size s.next o))
        rw [hlb] at this
        simpa [cells, JS.letGo, JS.size, JS.num] using this
      · exact (hL.kept (grown_drewN (grown_refl _ none) nq) (by simp)).kept (grown_set (grown_refl _ (some J)) 1 _) (by intro e; exact h.jl (Option.some.inj e).symm)
      · rw [← hlp]
        exact (hrg1.map.kept (grown_drewN (grown_refl _ none) nq) (by simp)).kept (grown_set (grown_refl _ (some J)) 1 _) (by intro e; exact h.jh (Option.some.inj e).symm)
    · intro x v w1 hwx hmem hlook hrg2 hlt hg1 hs1 hen
      have hM1 : Mv J bl bh w w1 := hM.grown hg1 (fun k hk => by cases hk; exact .inr (.inr (.inr (Nat.le_refl _))))
      have hnr : w.heap.size ≠ J := by omega
      have HB1 := Lib.hid (HB.out.grown hg1 (fun e => hnr (Option.some.inj e).symm))
      have e0 : w1.cell? ⟨J, 0, none⟩ = some (.int .i64 s.size) := HB1.out.cell 0
      have e1 : w1.cell? ⟨J, 1, none⟩ = some (.int .i64 s.next) := HB1.out.cell 1
      have e5 : w1.cell? ⟨J, 5, none⟩ = some (.map (some bh)) := HB1.out.cell 5
      have e6 : w1.cell? ⟨J, 6, none⟩ = some (.int .i64 (s.lost + (lostBy s o todo : Int))) := HB1.out.cell 6
      have f6 : w1.frozen? ⟨J, 6, none⟩ = false := HB1.out.free 6
      obtain ⟨f, hf, hq, hv⟩ : ∃ f, f ∈ s.held ∧ f.q = x ∧ v = f.val := by
        obtain ⟨f, hf, e⟩ := List.mem_map.1 (look_mem hlook)
        injection e with e1 e2
        exact ⟨f, (List.mem_filter.1 hf).1, e1, e2.symm⟩
      have hw := F.seqs _ hf
      rw [hq] at hw
      have hoff := offset_calls J s.size s.next x w1 ⟨e0, e1⟩ hring ⟨F.next0, F.next1⟩ ⟨by omega, by omega⟩
      have HO := Lib.hid hoff
      have HQ := Lib.hid hq
      have hcount := left_sum s o todo
      have hmany := F.many
      have hlost := F.lost0
      clear hoff hq hv hlook
      by_cases hx : s.off x < o
      · have hx' : decide (offset s.size s.next x < o) = true := decide_eq_true hx
        have hx2 : offset s.size s.next x < o := hx
        go_wp2_with (first
          | (go_at_call 33; refine HO.out.mono ?_; rintro e w2 ⟨rfl, nq, rfl⟩)
          | (at_delete; refine wpList_idelete_range (IRange_drewN hrg2 _) rfl _ _ 70 33 rfl law3 Try.underlying3 Try.underlying70 rfl x rfl hwx (by simp) ?_; intro w3 hrg3 hle3 hg3; have HB3 := Lib.hid ((HB1.out.drewN _).grown hg3 (fun e => h.jh (Option.some.inj e))); have g6 : w3.cell? ⟨J, 6, none⟩ = some (.int .i64 (s.lost + (lostBy s o todo : Int))) := HB3.out.cell 6; have g7 : w3.frozen? ⟨J, 6, none⟩ = false := HB3.out.free 6))
        obtain ⟨l1, l2⟩ := left_goes h.held.nodup hx hmem hf HQ.out
        go_roundw
        case rel =>
          refine ⟨_, by rw [l1]; exact hrg3.kept (grown_set (grown_refl _ (some J)) 6 _) (by simp; exact fun e => h.jh e.symm) (by simp; omega), ((hM1.drewN _).grown hg3 (fun k hk => by cases hk; exact .inr (.inr (.inl rfl)))).set 6 _, ?_, Lib.hid ?_⟩
          · exact ((hL.kept (grown_drewN hg1 nq) (by intro e; have := h.links.lt; simp at e; omega)).kept hg3 (by intro e; exact h.ne (Option.some.inj e))).kept (grown_set (grown_refl _ (some J)) 6 _) (by intro e; exact h.jl (Option.some.inj e).symm)
          · rw [l2]
            have := HB3.out.set 6 (.int .i64 (s.lost + (lostBy s o todo : Int) + 1))
            simpa [cells, Int.add_assoc, JS.size] using this
        case measure =>
          have m1 : ∀ (W : World) (v : Value), (W.setCell ⟨J, 6, none⟩ v).rangeLeft bh w.heap.size = W.rangeLeft bh w.heap.size := fun W v => by
            unfold World.rangeLeft
            rw [Below.heap_setCell W _ v bh (fun e => h.jh e.symm), Below.heap_setCell W _ v w.heap.size (fun e => hnr e)]
          rw [m1]
          exact Nat.lt_of_le_of_lt hle3 hlt
      · have hx2 : ¬ offset s.size s.next x < o := hx
        go_wp2_with (first
          | (go_at_call 33; refine HO.out.mono ?_; rintro e w2 ⟨rfl, nq, rfl⟩))
        obtain ⟨l1, l2⟩ := left_stays (s := s) (o := o) (x := x) (todo := todo) (Int.not_lt.2 (by exact hx))
        go_roundw
        case rel => exact ⟨_, by rw [l1]; exact IRange_drewN hrg2 nq, hM1.drewN nq, hL.kept (grown_drewN hg1 nq) (by intro e; have := hL.lt; have := h.links.lt; simp at e; omega), by rw [l2]; exact Lib.hid (HB1.out.drewN nq)⟩
        case measure => exact hlt

end Go.Proofs.Ytcpehjdnmhkcpaa.JoinC
