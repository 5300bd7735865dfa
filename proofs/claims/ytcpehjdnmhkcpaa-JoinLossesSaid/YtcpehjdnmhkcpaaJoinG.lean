/- The walks of Add, Drop, Held, Lost, New. -/
import Derived.Test.YtcpehjdnmhkcpaaJoinF
namespace Go.Proofs.Ytcpehjdnmhkcpaa.JoinG
open Go Go.RowKit Go.Maps Go.Proofs.Ytcpehjdnmhkcpaa.Mem Go.Proofs.Ytcpehjdnmhkcpaa.Plain Go.Proofs.Ytcpehjdnmhkcpaa.Ring Go.Proofs.Ytcpehjdnmhkcpaa.IMap Go.Proofs.Ytcpehjdnmhkcpaa.JoinP Go.Proofs.Ytcpehjdnmhkcpaa.JoinA Go.Proofs.Ytcpehjdnmhkcpaa.JoinB Go.Proofs.Ytcpehjdnmhkcpaa.JoinC Go.Proofs.Ytcpehjdnmhkcpaa.Mv Go.Proofs.Ytcpehjdnmhkcpaa.RowAt Go.Proofs.Ytcpehjdnmhkcpaa.JoinQ Go.Proofs.Ytcpehjdnmhkcpaa.JoinD Go.Proofs.Ytcpehjdnmhkcpaa.JoinE Go.Proofs.Ytcpehjdnmhkcpaa.JoinR Go.Proofs.Ytcpehjdnmhkcpaa.JoinF

/-- Is there a link? -/
def JS.has (s : JS) (x : Int) : Bool := s.links.any (fun p => p.1 == x)
/-- A link's last number is set. -/
def JS.setLink (s : JS) (x q : Int) : JS := { s with links := s.links.filter (fun p => p.1 != x) ++ [(x, q)] }
def JS.dropLink (s : JS) (x : Int) : JS := { s with links := s.links.filter (fun p => p.1 != x) }
/-- What Add answers. -/
def JS.addNum (s : JS) (x : Int) : Int := if x < 0 ∨ JS.has s x = true then 1900 else if 8 ≤ s.links.length then 1901 else 0
def JS.add (s : JS) (x : Int) : JS := if JS.addNum s x = 0 then JS.setLink s x (-1) else s
def JS.dropNum (s : JS) (x : Int) : Int := if JS.has s x = true then 0 else 1902
def JS.drop (s : JS) (x : Int) : JS := if JS.has s x = true then JS.dropLink s x else s

variable {J bl bh : Nat} {s : JS} {w w' : World}

theorem look_has (s : JS) (x : Int) : (IMap.look (linkPairs s) x).isSome = JS.has s x := by
  unfold IMap.look linkPairs JS.has
  rw [List.find?_map, Option.map_map, Option.isSome_map]
  induction s.links with
  | nil => rfl
  | cons p l ih =>
    simp only [List.find?_cons, List.any_cons, Function.comp]
    cases h : p.1 == x
    · simpa [h] using ih
    · simp

theorem set_pairs (s : JS) (x q : Int) : linkPairs (JS.setLink s x q) = put (linkPairs s) x (.int .i64 q) := by
  unfold linkPairs JS.setLink put del
  rw [List.map_append, List.filter_map]
  rfl

theorem drop_pairs (s : JS) (x : Int) : linkPairs (JS.dropLink s x) = del (linkPairs s) x := by
  unfold linkPairs JS.dropLink del
  rw [List.filter_map]
  rfl

theorem len_pairs (s : JS) : (linkPairs s).length = s.links.length := by unfold linkPairs; simp

/-- The links are other. -/
theorem rep_links (h : JRep w J bl bh s) (hg : w.grownBy w' (some bl)) (l : List (Int × Int)) (hm : IMap Try.prog 3 w' bl (linkPairs { s with links := l })) : JRep w' J bl bh { s with links := l } :=
  ⟨h.blk.grown hg (fun e => h.jl (Option.some.inj e)), hm, h.held.kept hg (fun e => h.ne (Option.some.inj e).symm), h.ne, h.jl, h.jh⟩

theorem held_calls (J bl bh : Nat) (s : JS) (w : World) (h : JRep w J bl bh s) :
    Calls Try.prog 23 #[.pointer (some ⟨J, 0, none⟩)] w fun e w' => e = .returned (.int .i64 s.held.length) ∧ w = w' := by
  have c5 : w.cell? ⟨J, 5, none⟩ = some (.map (some bh)) := h.blk.cell 5
  have hl : (heldPairs s).length = s.held.length := by unfold heldPairs; simp
  have HL := Lib.hid hl
  clear hl
  go_enter Try.func23, Try.ntmps23
  go_wp2_with (first | (at_len; refine wpList_ilen h.held rfl _ 70 33 rfl Try.underlying70 rfl ?_; rw [HL.out]))
  go_ret
  exact ⟨rfl, rfl⟩

theorem lost_calls (J bl bh : Nat) (s : JS) (w : World) (h : JRep w J bl bh s) :
    Calls Try.prog 25 #[.pointer (some ⟨J, 0, none⟩)] w fun e w' => e = .returned (.int .i64 s.lost) ∧ w = w' := by
  have c6 : w.cell? ⟨J, 6, none⟩ = some (.int .i64 s.lost) := h.blk.cell 6
  go_enter Try.func25, Try.ntmps25
  go_wp2
  go_ret
  exact ⟨rfl, rfl⟩

set_option maxRecDepth 100000 in
theorem drop_calls (J bl bh : Nat) (s : JS) (x : Int) (w : World) (h : JRep w J bl bh s) (hx : (Lit.int .i64 x).wf = true) :
    Calls Try.prog 18 #[.pointer (some ⟨J, 0, none⟩), .int .i64 x] w fun e w' => e = .returned (.int .i64 (JS.dropNum s x)) ∧ JRep w' J bl bh (JS.drop s x) ∧ Mv J bl bh w w' := by
  have c4 : w.cell? ⟨J, 4, none⟩ = some (.map (some bl)) := h.blk.cell 4
  have hh := look_has s x
  cases hb : JS.has s x with
  | false =>
    rw [hb] at hh
    have hn : IMap.look (linkPairs s) x = none := by simpa using hh
    have HN := Lib.hid hn
    have e1 : JS.dropNum s x = 1902 := by unfold JS.dropNum; rw [hb]; rfl
    have e2 : JS.drop s x = s := by unfold JS.drop; rw [hb]; rfl
    rw [e1, e2]
    clear hh hn hb e1 e2
    go_enter Try.func18, Try.ntmps18
    go_wp2_with (first | (at_lookup; refine wpList_ilook_ok h.links rfl _ _ 69 3 rfl law3 Try.underlying3 Try.underlying69 _ (zero3 _) rfl x rfl hx ?_; rw [HN.out]))
    go_ret
    exact ⟨rfl, h, Mv.refl _ _ _ _⟩
  | true =>
    rw [hb] at hh
    obtain ⟨v, hv⟩ := Option.isSome_iff_exists.1 hh
    obtain ⟨l, rfl, _⟩ := look_links hv
    have HN := Lib.hid hv
    have e1 : JS.dropNum s x = 0 := by unfold JS.dropNum; rw [hb]; rfl
    have e2 : JS.drop s x = JS.dropLink s x := by unfold JS.drop; rw [hb]; rfl
    rw [e1, e2]
    clear hh hv hb e1 e2
    go_enter Try.func18, Try.ntmps18
    go_wp2_with (first | (at_lookup; refine wpList_ilook_ok h.links rfl _ _ 69 3 rfl law3 Try.underlying3 Try.underlying69 _ (zero3 _) rfl x rfl hx ?_; rw [HN.out]) | (at_delete; refine wpList_idelete h.links rfl _ _ 69 3 rfl law3 Try.underlying3 Try.underlying69 rfl x rfl hx ?_; intro w1 hm1 hg1))
    go_ret
    rw [← drop_pairs] at hm1
    exact ⟨rfl, rep_links h hg1 _ hm1, (Mv.refl _ _ _ _).grown hg1 (fun k hk => by cases hk; exact .inr (.inl rfl))⟩

set_option maxHeartbeats 1000000 in
set_option maxRecDepth 100000 in
theorem add_calls (J bl bh : Nat) (s : JS) (x : Int) (w : World) (h : JRep w J bl bh s) (F : Fit s) (hx : (Lit.int .i64 x).wf = true) :
    Calls Try.prog 16 #[.pointer (some ⟨J, 0, none⟩), .int .i64 x] w fun e w' => e = .returned (.int .i64 (JS.addNum s x)) ∧ JRep w' J bl bh (JS.add s x) ∧ Mv J bl bh w w' := by
  have c4 : w.cell? ⟨J, 4, none⟩ = some (.map (some bl)) := h.blk.cell 4
  have hh := look_has s x
  have hlp := len_pairs s
  have hfew := F.few
  by_cases hneg : x < 0
  · have e1 : JS.addNum s x = 1900 := by unfold JS.addNum; rw [if_pos (.inl hneg)]
    have e2 : JS.add s x = s := by unfold JS.add; rw [e1, if_neg (by decide)]
    rw [e1, e2]
    have hd : decide (x < 0) = true := decide_eq_true hneg
    clear e1 e2
    cases hb : IMap.look (linkPairs s) x with
    | none =>
      have HN := Lib.hid hb
      clear hh hb hlp
      go_enter Try.func16, Try.ntmps16
      go_wp2_with (first | (at_lookup; refine wpList_ilook_ok h.links rfl _ _ 69 3 rfl law3 Try.underlying3 Try.underlying69 _ (zero3 _) rfl x rfl hx ?_; rw [HN.out]))
      go_ret
      exact ⟨rfl, h, Mv.refl _ _ _ _⟩
    | some v =>
      obtain ⟨l, rfl, _⟩ := look_links hb
      have HN := Lib.hid hb
      clear hh hb hlp
      go_enter Try.func16, Try.ntmps16
      go_wp2_with (first | (at_lookup; refine wpList_ilook_ok h.links rfl _ _ 69 3 rfl law3 Try.underlying3 Try.underlying69 _ (zero3 _) rfl x rfl hx ?_; rw [HN.out]))
      go_ret
      exact ⟨rfl, h, Mv.refl _ _ _ _⟩
  · have hd : decide (x < 0) = false := decide_eq_false hneg
    cases hb : IMap.look (linkPairs s) x with
    | some v =>
      rw [hb] at hh
      have e1 : JS.addNum s x = 1900 := by unfold JS.addNum; rw [if_pos (.inr hh.symm)]
      have e2 : JS.add s x = s := by unfold JS.add; rw [e1, if_neg (by decide)]
      rw [e1, e2]
      obtain ⟨l, rfl, _⟩ := look_links hb
      have HN := Lib.hid hb
      clear hh hb hlp e1 e2
      go_enter Try.func16, Try.ntmps16
      go_wp2_with (first | (at_lookup; refine wpList_ilook_ok h.links rfl _ _ 69 3 rfl law3 Try.underlying3 Try.underlying69 _ (zero3 _) rfl x rfl hx ?_; rw [HN.out]))
      go_ret
      exact ⟨rfl, h, Mv.refl _ _ _ _⟩
    | none =>
      rw [hb] at hh
      have hh' : JS.has s x = false := by simpa using hh.symm
      have HN := Lib.hid hb
      by_cases hlen : 8 ≤ s.links.length
      · have e1 : JS.addNum s x = 1901 := by unfold JS.addNum; rw [if_neg (by simp [hneg, hh']), if_pos hlen]
        have e2 : JS.add s x = s := by unfold JS.add; rw [e1, if_neg (by decide)]
        rw [e1, e2]
        have HL := Lib.hid hlp
        clear hh hh' hb hlp e1 e2
        go_enter Try.func16, Try.ntmps16
        go_wp2_with (first | (at_lookup; refine wpList_ilook_ok h.links rfl _ _ 69 3 rfl law3 Try.underlying3 Try.underlying69 _ (zero3 _) rfl x rfl hx ?_; rw [HN.out]) | (at_len; refine wpList_ilen h.links rfl _ 69 3 rfl Try.underlying69 rfl ?_; rw [HL.out]))
        go_ret
        exact ⟨rfl, h, Mv.refl _ _ _ _⟩
      · have e1 : JS.addNum s x = 0 := by unfold JS.addNum; rw [if_neg (by simp [hneg, hh']), if_neg hlen]
        have e2 : JS.add s x = JS.setLink s x (-1) := by unfold JS.add; rw [e1, if_pos rfl]
        rw [e1, e2]
        have HL := Lib.hid hlp
        have hm : (linkPairs s).length < maxLen := by rw [hlp]; unfold maxLen; omega
        have HM := Lib.hid hm
        clear hh hh' hb hlp e1 e2 hm
        go_enter Try.func16, Try.ntmps16
        go_wp2_with (first | (at_lookup; refine wpList_ilook_ok h.links rfl _ _ 69 3 rfl law3 Try.underlying3 Try.underlying69 _ (zero3 _) rfl x rfl hx ?_; rw [HN.out]) | (at_len; refine wpList_ilen h.links rfl _ 69 3 rfl Try.underlying69 rfl ?_; rw [HL.out]) | (at_mapUpdate; refine wpList_istore h.links rfl _ _ _ 69 3 rfl law3 Try.underlying3 Try.underlying69 HM.out rfl x rfl hx (.int .i64 (-1)) rfl ?_; intro w1 hm1 hg1))
        go_ret
        rw [← set_pairs] at hm1
        exact ⟨rfl, rep_links h hg1 _ hm1, (Mv.refl _ _ _ _).grown hg1 (fun k hk => by cases hk; exact .inr (.inl rfl))⟩

/-- A reassembly that is new. -/
def JS.new (short : Bool) (most : Int) : JS := { short := short, most := most, next := 0, links := [], held := [], lost := 0 }

theorem new_fit (short : Bool) (most : Int) (h : 1 ≤ most ∧ most ≤ 128) : Fit (JS.new short most) := by
  have := size_in (JS.new short most)
  exact ⟨Int.le_refl _, (by show (0 : Int) < _; omega), h.1, h.2, (fun p hp => by cases hp), (fun f hf => by cases hf), Nat.zero_le _, Nat.zero_le _, Int.le_refl _, (by show (0 : Int) ≤ _; decide)⟩

theorem ring30_calls (b : Bool) (w : World) : Calls Try.prog 30 #[.bool b] w fun e w' => e = .returned (.int .i64 (ringOf b)) ∧ w = w' := by
  cases b
  · go_enter Try.func30, Try.ntmps30
    go_wp2
    go_ret
    exact ⟨rfl, rfl⟩
  · go_enter Try.func30, Try.ntmps30
    go_wp2
    go_ret
    exact ⟨rfl, rfl⟩

theorem new_calls (short : Bool) (most : Int) (w : World) (h : 1 ≤ most ∧ most ≤ 128) :
    Calls Try.prog 12 #[.bool short, .int .i64 most] w fun e w' => ∃ J bl bh, e = .returned (.tuple #[.pointer (some ⟨J, 0, none⟩), .int .i64 0]) ∧ JRep w' J bl bh (JS.new short most) ∧ Below w.heap.size w w' ∧ w.heap.size ≤ J ∧ w.heap.size ≤ bl ∧ w.heap.size ≤ bh := by
  have h1 : decide (most < 1) = false := decide_eq_false (by omega)
  have h2 : decide (128 < most) = false := decide_eq_false (by omega)
  have hmm := @run_makeMap Try.prog
  go_enter Try.func12, Try.ntmps12
  go_wp2_with (first | (go_at_call 30; refine (ring30_calls _ _).mono ?_; rintro e w' ⟨rfl, rfl⟩))
  go_ret2
  have hb : Blk ((w.alloc (.map #[] 0)).alloc (.map #[] 0) |>.alloc (.cells (cells (JS.new short most) w.heap.size (w.heap.size + 1)) 72)) (w.heap.size + 2) (cells (JS.new short most) w.heap.size (w.heap.size + 1)) 72 := by
    have := Blk.new ((w.alloc (.map #[] 0)).alloc (.map #[] 0)) (cells (JS.new short most) w.heap.size (w.heap.size + 1)) 72
    simpa using this
  have hl : IMap Try.prog 3 ((w.alloc (.map #[] 0)).alloc (.map #[] 0) |>.alloc (.cells (cells (JS.new short most) w.heap.size (w.heap.size + 1)) 72)) w.heap.size [] :=
    ((IMap.made w Try.prog 3).kept (row := none) (World.grownBy_alloc _ _ none) (by simp)).kept (row := none) (World.grownBy_alloc _ _ none) (by simp)
  have hh : IMap Try.prog 3 ((w.alloc (.map #[] 0)).alloc (.map #[] 0) |>.alloc (.cells (cells (JS.new short most) w.heap.size (w.heap.size + 1)) 72)) (w.heap.size + 1) [] := by
    have := (IMap.made (w.alloc (.map #[] 0)) Try.prog 3).kept (row := none) (World.grownBy_alloc _ (.cells (cells (JS.new short most) w.heap.size (w.heap.size + 1)) 72) none) (by simp)
    simpa using this
  exact ⟨w.heap.size + 2, w.heap.size, w.heap.size + 1, rfl, ⟨hb, hl, hh, by omega, by omega, by omega⟩, (((Below.refl _ _).alloc (Nat.le_refl _) _).alloc (by simp) _).alloc (by simp; omega) _, by omega, by omega, by omega⟩

theorem new_bad (short : Bool) (most : Int) (w : World) (h : ¬ (1 ≤ most ∧ most ≤ 128)) :
    Calls Try.prog 12 #[.bool short, .int .i64 most] w fun e w' => e = .returned (.tuple #[.pointer none, .int .i64 1900]) ∧ w = w' := by
  by_cases h1 : most < 1
  · have h1' : decide (most < 1) = true := decide_eq_true h1
    go_enter Try.func12, Try.ntmps12
    go_wp2
    go_ret2
    exact ⟨rfl, rfl⟩
  · have h1' : decide (most < 1) = false := decide_eq_false h1
    have h2 : decide (128 < most) = true := decide_eq_true (by omega)
    go_enter Try.func12, Try.ntmps12
    go_wp2
    go_ret2
    exact ⟨rfl, rfl⟩

end Go.Proofs.Ytcpehjdnmhkcpaa.JoinG
