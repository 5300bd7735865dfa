/- QueueDrains, as plain data. -/
import Derived.Test.YtcahedlgmljhkaaQK
namespace Go.Proofs.Ytcahedlgmljhkaa.LDrainsP
open Go Go.RowKit Go.Proofs.Ytcahedlgmljhkaa.Plain Go.Proofs.Ytcahedlgmljhkaa.QP Go.Proofs.Ytcahedlgmljhkaa.QG

variable {s : QS} {n c i left : Nat} {x d : Int}

theorem row_two (hk : s.keys = [0, 1]) (hd : ∀ k, s.drains k = false) (hx : x = 0 ∨ x = 1) : ∃ a b, s.row x = [a, b] ∧ a ≠ b ∧ (∀ k : Int, k = 0 ∨ k = 1 → k = a ∨ k = b) := by
  unfold QS.row
  rw [hk]
  rcases hx with rfl | rfl
  · exact ⟨0, 1, by simp [hd, isort, ins], by decide, fun k h => h⟩
  · exact ⟨1, 0, by simp [hd, isort, ins], by decide, fun k h => h.symm⟩
theorem row_one (hk : s.keys = [0, 1]) (hd : d = 0 ∨ d = 1) (h1 : s.drains d = true) (h2 : s.drains (1 - d) = false) : s.row (1 - d) = [1 - d] := by
  unfold QS.row
  rw [hk]
  rcases hd with rfl | rfl
  · have h2' : s.drains 1 = false := h2
    simp [h1, h2', isort, ins]
  · have h2' : s.drains 0 = false := h2
    simp [h1, h2', isort, ins]

theorem deals_half {a b : Int} (hab : a ≠ b) (fs : Nat → Fr) (p : Nat) (W : Int → List Wt) : ∀ i, (deals [a, b] fs p W i a).length = (W a).length + (i + 1) / 2 ∧ (deals [a, b] fs p W i b).length = (W b).length + i / 2
  | 0 => ⟨rfl, rfl⟩
  | i + 1 => by
    obtain ⟨h1, h2⟩ := deals_half hab fs p W i
    have hm : i % 2 = 0 ∨ i % 2 = 1 := by omega
    rcases hm with hm | hm
    · have hg : [a, b].getD (i % [a, b].length) 0 = a := by simp [hm]
      unfold deals
      rw [hg, upd_same, upd_other _ _ (Ne.symm hab)]
      simp
      omega
    · have hg : [a, b].getD (i % [a, b].length) 0 = b := by simp [hm]
      unfold deals
      rw [hg, upd_same, upd_other _ _ hab]
      simp
      omega
theorem deals_one {a : Int} (fs : Nat → Fr) (p : Nat) (W : Int → List Wt) : ∀ i, (deals [a] fs p W i a).length = (W a).length + i
  | 0 => rfl
  | i + 1 => by
    have h1 := deals_one fs p W i (a := a)
    have hg : [a].getD (i % [a].length) 0 = a := by simp [Nat.mod_one]
    unfold deals
    rw [hg, upd_same]
    simp
    omega

/-! ### Before the drain -/

structure P1 (s : QS) (c n : Nat) : Prop where
  g : QG.Good s n
  keys : s.keys = [0, 1]
  dr : ∀ k, s.drains k = false
  wl : ∀ k : Int, k = 0 ∨ k = 1 → (s.waits k).length ≤ 32 * s.cut
  few : s.cut + s.packets.length ≤ c

theorem add_eq {s : QS} {x : Int} (h : s.addNum x = 0) : s.add x = { s with keys := s.keys ++ [x], drains := upd s.drains x false, waits := upd s.waits x [] } := by
  unfold QS.add
  rw [if_pos h]
theorem p1_new {z : Nat} (h0 : 1 ≤ z) (h1 : z ≤ 1500) : P1 (((QS.new z false).add 0).add 1) 0 0 := by
  have e1 : (QS.new z false).addNum 0 = 0 := by unfold QS.addNum QS.has QS.new; simp
  have e2 : (QS.new z false).add 0 = { QS.new z false with keys := [0], drains := upd (fun _ => false) 0 false, waits := upd (fun _ => []) 0 [] } := by
    unfold QS.add
    rw [if_pos e1]
    rfl
  have e3 : ((QS.new z false).add 0).addNum 1 = 0 := by rw [e2]; unfold QS.addNum QS.has; simp
  have e4 : ((QS.new z false).add 0).add 1 = { QS.new z false with keys := [0, 1], drains := upd (upd (fun _ => false) 0 false) 1 false, waits := upd (upd (fun _ => []) 0 []) 1 [] } := by
    rw [add_eq e3, e2]
    rfl
  refine ⟨add_good (add_good (new_good z false h0 h1) (by decide)) (by decide), by rw [e4], fun k => ?_, fun k hk => ?_, by rw [e4]; exact Nat.le_refl _⟩
  · rw [e4]
    simp only [upd]
    split <;> (try split) <;> rfl
  · rw [e4]
    rcases hk with rfl | rfl <;> simp [upd]

theorem add0 {z : Nat} : (QS.new z false).addNum 0 = 0 := by unfold QS.addNum QS.has QS.new; simp
theorem p1_sub (h : P1 s c n) (t : ByteArray) : P1 (s.sub t) (c + 1) n := by
  have hg := sub_good h.g t
  unfold QS.sub at *
  split
  · rename_i e
    rw [if_pos e] at hg
    have := h.few
    exact ⟨hg, h.keys, h.dr, h.wl, by simp; omega⟩
  · have := h.few
    exact ⟨h.g, h.keys, h.dr, h.wl, by omega⟩

theorem p1_take (h : P1 s c n) (hx : x = 0 ∨ x = 1) : P1 (s.take x) c (n + 1) := by
  have hg := take_good (x := x) h.g
  by_cases e : s.takeNum x = 0
  · have ht : s.take x = (s.peek x).pop x := by unfold QS.take; rw [if_pos e]
    have hk : (s.peek x).keys = [0, 1] ∧ (∀ k, (s.peek x).drains k = false) ∧ (∀ k : Int, k = 0 ∨ k = 1 → ((s.peek x).waits k).length ≤ 32 * (s.peek x).cut) ∧ (s.peek x).cut + (s.peek x).packets.length ≤ c := by
      unfold QS.peek
      split
      · rename_i hw
        obtain ⟨_, hc | ⟨_, _, hp⟩⟩ := take_spec e
        · exact absurd hw hc
        · obtain ⟨t, ts, ht⟩ : ∃ t ts, s.packets = t :: ts := by cases hq : s.packets with | nil => exact absurd hq hp | cons t ts => exact ⟨t, ts, rfl⟩
          have hok := okPk_spec.1 (h.g.pk t (by rw [ht]; simp))
          obtain ⟨a, b, hr, hab, hall⟩ := row_two h.keys h.dr hx
          have hfew := h.few
          rw [ht] at hfew
          simp at hfew
          refine ⟨h.keys, h.dr, fun k hk => ?_, by unfold QS.deal; rw [ht]; simp; omega⟩
          have hwl := h.wl k hk
          unfold QS.deal
          simp only
          rw [hr, ht]
          simp only [List.headD_cons]
          have hd := deals_half hab (frag t s.size (pieces s.size t) s.seq (ringOf s.short)) s.cut s.waits (pieces s.size t)
          rcases hall k hk with rfl | rfl
          · rw [hd.1]; omega
          · rw [hd.2]; omega
      · exact ⟨h.keys, h.dr, h.wl, h.few⟩
    rw [ht] at hg ⊢
    refine ⟨hg, hk.1, hk.2.1, fun k hk2 => ?_, hk.2.2.2⟩
    have := hk.2.2.1 k hk2
    unfold QS.pop upd
    simp only
    split
    · rename_i e
      subst e
      simp
      omega
    · exact this
  · have ht : s.take x = s := by unfold QS.take; rw [if_neg e]
    rw [ht] at hg ⊢
    exact ⟨hg, h.keys, h.dr, h.wl, h.few⟩

/-! ### Behind it -/

def tot (s : QS) : Nat := (s.packets.map (pieces s.size)).sum
theorem tot_le (h : QG.Good s n) : tot s ≤ 64 * s.packets.length := by
  have h0 := h.pk
  unfold tot
  generalize s.packets = l at *
  induction l with
  | nil => exact Nat.le_refl _
  | cons t l ih =>
    have h1 := (okPk_spec.1 (h0 t (by simp))).2.2
    have h2 := ih (fun u hu => h0 u (List.mem_cons_of_mem _ hu))
    simp only [List.map_cons, List.sum_cons, List.length_cons]
    omega

structure P2 (s : QS) (d : Int) (left i n : Nat) : Prop where
  g : QG.Good s n
  keys : s.keys = [0, 1]
  dd : s.drains d = true
  dn : s.drains (1 - d) = false
  wd : (s.waits d).length = left
  few : left ≤ 256 - (i + 2) / 3
  rem : tot s + (s.waits (1 - d)).length ≤ 512 - i

theorem P2.mono {m : Nat} (h : P2 s d left i n) (hm : n ≤ m) : P2 s d left i m := ⟨h.g.mono hm, h.keys, h.dd, h.dn, h.wd, h.few, h.rem⟩
theorem P1.mono {m : Nat} (h : P1 s c n) (hm : c ≤ m) : P1 s m n := ⟨h.g, h.keys, h.dr, h.wl, Nat.le_trans h.few hm⟩

theorem has_of (hk : s.keys = [0, 1]) (hd : d = 0 ∨ d = 1) : s.has d = true := by
  rw [has_spec, hk]
  rcases hd with rfl | rfl <;> simp

theorem drain0 (h : P1 s 8 n) (hd : d = 0 ∨ d = 1) : s.drainNum d = 0 := by unfold QS.drainNum; rw [if_pos (has_of h.keys hd)]
theorem many0 (h : P1 s 8 n) (hd : d = 0 ∨ d = 1) : s.many d = (s.waits d).length := by unfold QS.many; rw [if_pos (has_of h.keys hd)]
theorem other_ne (d : Int) : (1 - d) ≠ d := by omega
theorem p2_drain (h : P1 s 8 n) (hd : d = 0 ∨ d = 1) : P2 (s.drain d) d (s.waits d).length 0 n := by
  have hg := drain_good (x := d) h.g
  unfold QS.drain at *
  rw [if_pos (has_of h.keys hd)] at *
  have h1 := h.wl d hd
  have h2 := h.wl (1 - d) (by omega)
  have h3 := h.few
  have h4 := tot_le h.g
  refine ⟨hg, h.keys, upd_same _ _ _, ?_, rfl, by omega, ?_⟩
  · show upd s.drains d true (1 - d) = false
    rw [upd_other _ _ (other_ne d)]
    exact h.dr _
  · show tot s + _ ≤ _
    simp only
    omega

theorem drop_yes (h : P2 s d 0 i n) (hd : d = 0 ∨ d = 1) : s.dropNum d = 0 ∧ (s.drop d).takeNum d = 2002 := by
  have hw : s.waits d = [] := List.length_eq_zero_iff.1 h.wd
  have e : s.dropNum d = 0 := by unfold QS.dropNum; rw [if_pos (has_of h.keys hd), if_pos hw]
  refine ⟨e, ?_⟩
  unfold QS.drop
  rw [if_pos e]
  unfold QS.takeNum
  rw [if_neg]
  rw [has_spec]
  simp
theorem drop_no (h : P2 s d left i n) (hd : d = 0 ∨ d = 1) (hl : 0 < left) : s.dropNum d = 2003 ∧ s.drop d = s := by
  have hw : s.waits d ≠ [] := fun e => by have := h.wd; rw [e] at this; simp at this; omega
  have e : s.dropNum d = 2003 := by unfold QS.dropNum; rw [if_pos (has_of h.keys hd), if_neg hw]
  refine ⟨e, ?_⟩
  unfold QS.drop
  rw [if_neg (by rw [e]; decide)]
theorem many_d (h : P2 s d left i n) (hd : d = 0 ∨ d = 1) : s.many d = left := by unfold QS.many; rw [if_pos (has_of h.keys hd)]; exact h.wd

/-- Behind one that is taken from the other link. -/
structure P3 (s : QS) (d : Int) (left i n : Nat) : Prop where
  g : QG.Good s n
  keys : s.keys = [0, 1]
  dd : s.drains d = true
  dn : s.drains (1 - d) = false
  wd : (s.waits d).length = left
  few : left ≤ 256 - (i + 2) / 3
  rem : tot s + (s.waits (1 - d)).length ≤ 512 - (i + 1)

theorem p3_take (h : P2 s d left i n) (hd : d = 0 ∨ d = 1) : P3 (s.take (1 - d)) d left i (n + 1) := by
  have hg := take_good (x := 1 - d) h.g
  have hrem := h.rem
  by_cases e : s.takeNum (1 - d) = 0
  · have ht : s.take (1 - d) = (s.peek (1 - d)).pop (1 - d) := by unfold QS.take; rw [if_pos e]
    have hk : (s.peek (1 - d)).keys = [0, 1] ∧ (s.peek (1 - d)).drains = s.drains ∧ (s.peek (1 - d)).waits d = s.waits d ∧ tot (s.peek (1 - d)) + ((s.peek (1 - d)).waits (1 - d)).length = tot s + (s.waits (1 - d)).length ∧ (s.peek (1 - d)).waits (1 - d) ≠ [] := by
      obtain ⟨hx, hc⟩ := take_spec e
      unfold QS.peek
      split
      · rename_i hw
        rcases hc with hc | ⟨_, hdr, hp⟩
        · exact absurd hw hc
        · have hfirst := deal_first h.g hx hdr hp
          obtain ⟨t, ts, ht⟩ : ∃ t ts, s.packets = t :: ts := by cases hq : s.packets with | nil => exact absurd hq hp | cons t ts => exact ⟨t, ts, rfl⟩
          have hr := row_one h.keys hd h.dd h.dn
          refine ⟨h.keys, rfl, ?_, ?_, hfirst⟩
          · unfold QS.deal
            simp only
            rw [hr]
            exact deals_off (by simp) _ (by simp; omega)
          · unfold tot QS.deal
            simp only
            rw [hr, ht]
            simp only [List.headD_cons, List.tail_cons]
            rw [deals_one]
            simp only [List.map_cons, List.sum_cons]
            omega
      · rename_i hw
        exact ⟨h.keys, rfl, rfl, rfl, hw⟩
    rw [ht] at hg ⊢
    obtain ⟨k1, k2, k3, k4, k5⟩ := hk
    refine ⟨hg, k1, by show (s.peek (1 - d)).drains d = true; rw [k2]; exact h.dd, by show (s.peek (1 - d)).drains (1 - d) = false; rw [k2]; exact h.dn, ?_, h.few, ?_⟩
    · show (upd (s.peek (1 - d)).waits (1 - d) _ d).length = left
      rw [upd_other _ _ (other_ne d).symm, k3]
      exact h.wd
    · show tot (s.peek (1 - d)) + (upd (s.peek (1 - d)).waits (1 - d) _ (1 - d)).length ≤ _
      rw [upd_same, List.length_tail]
      have := List.length_pos_iff.2 k5
      omega
  · have ht : s.take (1 - d) = s := by unfold QS.take; rw [if_neg e]
    rw [ht] at hg ⊢
    refine ⟨hg, h.keys, h.dd, h.dn, h.wd, h.few, ?_⟩
    have hz : s.waits (1 - d) = [] ∧ s.packets = [] := by
      unfold QS.takeNum at e
      rw [if_pos (has_of h.keys (by omega))] at e
      split at e
      · rename_i hc
        rw [h.dn] at hc
        exact ⟨hc.1, hc.2.resolve_left (by decide)⟩
      · exact absurd rfl e
    unfold tot
    rw [hz.1, hz.2]
    simp

theorem many_d3 (h : P3 s d left i n) (hd : d = 0 ∨ d = 1) : s.many d = left := by unfold QS.many; rw [if_pos (has_of h.keys hd)]; exact h.wd
/-- No turn for the link that drains. -/
theorem p2_skip (h : P3 s d left i n) (hi : ¬ (i % 3 = 0 ∧ 0 < left)) : P2 s d left (i + 1) (n + 1) :=
  ⟨h.g.mono (by omega), h.keys, h.dd, h.dn, h.wd, by have := h.few; omega, h.rem⟩
theorem p2_turn (h : P3 s d (left + 1) i n) (hd : d = 0 ∨ d = 1) (hi : i % 3 = 0) : s.takeNum d = 0 ∧ P2 (s.take d) d left (i + 1) (n + 1) := by
  have hg := take_good (x := d) h.g
  have hw : s.waits d ≠ [] := fun e => by have := h.wd; rw [e] at this; simp at this
  have e : s.takeNum d = 0 := by unfold QS.takeNum; rw [if_pos (has_of h.keys hd), if_neg (fun c => hw c.1)]
  have hp : s.peek d = s := by unfold QS.peek; rw [if_neg hw]
  have ht : s.take d = s.pop d := by unfold QS.take; rw [if_pos e, hp]
  refine ⟨e, ?_⟩
  rw [ht] at hg ⊢
  have hfew := h.few
  have hwd := h.wd
  refine ⟨hg, h.keys, h.dd, h.dn, ?_, by omega, ?_⟩
  · show (upd s.waits d _ d).length = left
    rw [upd_same, List.length_tail, hwd]
    omega
  · show tot s + (upd s.waits d _ (1 - d)).length ≤ _
    rw [upd_other _ _ (other_ne d)]
    exact h.rem

/-- In the end. -/
theorem p2_end (h : P2 s d left 1000 n) (hd : d = 0 ∨ d = 1) : s.takeNum d = 2003 ∧ s.take d = s ∧ s.dropNum d = 0 ∧ (s.drop d).len = 0 := by
  have h0 : left = 0 := by have := h.few; omega
  subst h0
  have hr := h.rem
  have hw : s.waits d = [] := List.length_eq_zero_iff.1 h.wd
  have hw2 : s.waits (1 - d) = [] := List.length_eq_zero_iff.1 (by omega)
  have hp : s.packets = [] := by
    cases hq : s.packets with
    | nil => rfl
    | cons t ts =>
      have hok := okPk_spec.1 (h.g.pk t (by rw [hq]; simp))
      have := pieces_pos h.g.z0 hok.1
      unfold tot at hr
      rw [hq] at hr
      simp at hr
      omega
  have ho : s.opens = [] := by
    cases hq : s.opens with
    | nil => rfl
    | cons p ps =>
      obtain ⟨q, _, _, _, h1⟩ := h.g.op p (by rw [hq]; simp)
      unfold cnt at h1
      rw [h.keys] at h1
      rcases hd with rfl | rfl
      · have hw2' : s.waits 1 = [] := hw2
        simp [cntL, hw, hw2'] at h1
      · have hw2' : s.waits 0 = [] := hw2
        simp [cntL, hw, hw2'] at h1
  have e : s.takeNum d = 2003 := by unfold QS.takeNum; rw [if_pos (has_of h.keys hd), if_pos ⟨hw, .inl h.dd⟩]
  have e2 : s.dropNum d = 0 := by unfold QS.dropNum; rw [if_pos (has_of h.keys hd), if_pos hw]
  refine ⟨e, by unfold QS.take; rw [if_neg (by rw [e]; decide)], e2, ?_⟩
  unfold QS.drop
  rw [if_pos e2]
  unfold QS.len
  simp [hp, ho]

end Go.Proofs.Ytcahedlgmljhkaa.LDrainsP
