/- The walk of first: what becomes from the fragment that is next. -/
import Derived.Test.YtcpehjdnmhkcpaaJoinD
import Derived.Deep.RegionLaw
namespace Go.Proofs.Ytcpehjdnmhkcpaa.JoinE
open Go Go.RowKit Go.Maps Go.Proofs.Ytcpehjdnmhkcpaa.Mem Go.Proofs.Ytcpehjdnmhkcpaa.Plain Go.Proofs.Ytcpehjdnmhkcpaa.Ring Go.Proofs.Ytcpehjdnmhkcpaa.IMap Go.Proofs.Ytcpehjdnmhkcpaa.JoinP Go.Proofs.Ytcpehjdnmhkcpaa.JoinA Go.Proofs.Ytcpehjdnmhkcpaa.JoinB Go.Proofs.Ytcpehjdnmhkcpaa.JoinC Go.Proofs.Ytcpehjdnmhkcpaa.Mv Go.Proofs.Ytcpehjdnmhkcpaa.RowAt Go.Proofs.Ytcpehjdnmhkcpaa.JoinQ Go.Proofs.Ytcpehjdnmhkcpaa.JoinD

variable {J bl bh : Nat} {s : JS} {w w' : World}

theorem _root_.Go.Proofs.Ytcpehjdnmhkcpaa.JoinA.JRep.grown (h : JRep w J bl bh s) (hg : w.grownBy w' none) : JRep w' J bl bh s :=
  ⟨h.blk.grown hg (by simp), h.links.kept hg (by simp), h.held.kept hg (by simp), h.ne, h.jl, h.jh⟩

theorem _root_.Go.Proofs.Ytcpehjdnmhkcpaa.JoinA.JRep.below (h : JRep w J bl bh s) (hb : Below w.heap.size w w') : JRep w' J bl bh s :=
  h.grown ⟨hb.os, hb.tape, hb.output, hb.size, fun k hk _ => hb.block k hk⟩

theorem _root_.Go.Proofs.Ytcpehjdnmhkcpaa.JoinA.JRep.drewN (h : JRep w J bl bh s) (n : Nat) : JRep (w.drewN n) J bl bh s := h.grown (grown_drewN (grown_refl _ _) n)

/-- The ring's next number is set. -/
theorem _root_.Go.Proofs.Ytcpehjdnmhkcpaa.JoinA.JRep.setNext (h : JRep w J bl bh s) (x : Int) : JRep (w.setCell ⟨J, 1, none⟩ (.int .i64 x)) J bl bh { s with next := x } := by
  refine ⟨?_, h.links.kept (grown_set (grown_refl _ (some J)) 1 _) (by intro e; exact h.jl (Option.some.inj e).symm), h.held.kept (grown_set (grown_refl _ (some J)) 1 _) (by intro e; exact h.jh (Option.some.inj e).symm), h.ne, h.jl, h.jh⟩
  have := h.blk.set 1 (.int .i64 x)
  simpa [cells, JS.size] using this

/-- What is held is other. -/
theorem _root_.Go.Proofs.Ytcpehjdnmhkcpaa.JoinA.JRep.setHeld (h : JRep w J bl bh s) (hg : w.grownBy w' (some bh)) (l : List Fr) (hm : IMap Try.prog 3 w' bh (heldPairs { s with held := l })) : JRep w' J bl bh { s with held := l } :=
  ⟨h.blk.grown hg (fun e => h.jh (Option.some.inj e)), h.links.kept hg (fun e => h.ne (Option.some.inj e)), hm, h.ne, h.jl, h.jh⟩

/-- The first fragments are taken out, next stays. -/
def JS.cut (s : JS) (n : Nat) : JS := { s with held := s.held.filter (fun f => !decide (s.off f.q < n)) }

theorem cut_zero (s : JS) : JS.cut s 0 = s := by
  unfold JS.cut
  rw [List.filter_eq_self.2]
  intro f _
  have := (off_in s f.q).1
  simp; omega

theorem cut_take (s : JS) (n : Nat) : s.take n = { JS.cut s n with next := s.num n } := rfl

theorem cut_succ (s : JS) (F : Fit s) (n : Nat) (hn : (n : Int) < s.size) : del (heldPairs (JS.cut s n)) (s.num n) = heldPairs (JS.cut s (n + 1)) := by
  unfold del heldPairs JS.cut
  rw [List.filter_map, List.filter_filter]
  congr 1
  refine List.filter_congr fun f hf => ?_
  have h1 := F.seqs f hf
  have h2 := num_off ⟨h1.1, h1.2.1⟩ ⟨F.next0, F.next1⟩
  have h3 := off_num (s := s) ⟨F.next0, F.next1⟩ (o := (n : Int)) ⟨by omega, hn⟩
  have e : f.q = s.num n ↔ s.off f.q = n := ⟨fun e => by rw [e, h3], fun e => by rw [← h2, e]⟩
  rw [Bool.eq_iff_iff]
  simp only [Function.comp, Bool.and_eq_true, bne_iff_ne, Bool.not_eq_true', decide_eq_false_iff_not, ne_eq, e]
  omega

set_option maxHeartbeats 1000000 in
set_option maxRecDepth 100000 in
theorem first_not (J bl bh : Nat) (s : JS) (f : Fr) (m : Int) (w : World) (h : JRep w J bl bh s) (F : Fit s) (hl : s.lost ≤ 4611686018427387000) (hb : f.b = false) :
    Calls Try.prog 43 #[.pointer (some ⟨J, 0, none⟩), f.val, .int .i64 m] w fun e w' => e = .returned (.tuple #[.string ⟨#[]⟩, .bool false, .bool true]) ∧ JRep w' J bl bh (s.letGo 1) ∧ Mv J bl bh w w' := by
  obtain ⟨fb, fe, fq, fd⟩ := f
  simp only at hb
  subst hb
  unfold Fr.val
  have hsz := size_in s
  have hlet : ∀ W, w.grownBy W none → Calls Try.prog 46 #[.pointer (some ⟨J, 0, none⟩), .int .i64 1] W fun e w' => e = .returned (.tuple #[]) ∧ JRep w' J bl bh (s.letGo 1) ∧ Mv J bl bh W w' := fun W hW => let_calls J bl bh s 1 W (h.grown hW) F ⟨by omega, by omega⟩ hl
  have HL := Lib.hid hlet
  clear hlet
  go_enter Try.func43, Try.ntmps43
  go_wp2_with (first | (go_at_call 46; refine (HL.out _ (grown_alloc (grown_refl _ _) _)).mono ?_; rintro e w2 ⟨rfl, hr, hm⟩))
  go_ret3
  exact ⟨rfl, hr, ((Mv.refl J bl bh w).grown (grown_alloc (grown_refl w none) _) (by simp)).trans hm⟩

theorem nodup_held {P : Program} {l : List Fr} (h : IMap P 3 w bh (l.map fun f => (f.q, f.val))) : (l.map Fr.q).Nodup := by
  have := h.nodup
  rw [List.pairwise_map] at this
  exact List.pairwise_map.2 this

set_option maxHeartbeats 2000000 in
set_option maxRecDepth 100000 in
theorem first_whole (J bl bh : Nat) (s : JS) (f : Fr) (m : Int) (t : ByteArray) (n : Nat) (w : World) (h : JRep w J bl bh s) (F : Fit s) (hb : f.b = true) (hp : s.packet = (t, n, true)) (hn : n ≤ 130) :
    Calls Try.prog 43 #[.pointer (some ⟨J, 0, none⟩), f.val, .int .i64 m] w fun e w' => e = .returned (.tuple #[.string t, .bool true, .bool true]) ∧ JRep w' J bl bh (s.take n) ∧ Mv J bl bh w w' := by
  obtain ⟨fb, fe, fq, fd⟩ := f
  simp only at hb
  subst hb
  unfold Fr.val
  have hsz := size_in s
  have hpk : ∀ W, w.grownBy W none → Calls Try.prog 51 #[.pointer (some ⟨J, 0, none⟩)] W fun e w' => e = .returned (.tuple #[.string t, .int .i64 n, .bool true]) ∧ Below W.heap.size W w' := fun W hW => by
    have := packet_calls J bl bh s W (h.grown hW) F
    rw [hp] at this
    exact this
  have HL := Lib.hid hpk
  clear hpk hp
  go_enter Try.func43, Try.ntmps43
  go_wp2_with (first | (go_at_call 51; refine (HL.out _ (grown_alloc (grown_refl _ _) _)).mono ?_; rintro e w2 ⟨rfl, hb2⟩))
  have hM0 : Mv J bl bh w w2 := ((Mv.refl J bl bh w).grown (grown_alloc (grown_refl w none) _) (by simp)).below hb2
  have hR0 : JRep w2 J bl bh s := (h.grown (grown_alloc (grown_refl _ none) _)).below hb2
  go_loopw [28] (fun i wr => ∃ k : Nat, i = .int .i64 k ∧ k ≤ n ∧ JRep wr J bl bh (JS.cut s k) ∧ Mv J bl bh w wr) (fun i _ => n - (intOf i).toNat)
  case atStart => exact ⟨0, rfl, Nat.zero_le _, by rw [cut_zero]; exact hR0, hM0⟩
  case round =>
    obtain ⟨k, rfl, hk, hR, hM⟩ := hrel
    have d0 : wr.cell? ⟨J, 0, none⟩ = some (.int .i64 s.size) := hR.blk.cell 0
    have d1 : wr.cell? ⟨J, 1, none⟩ = some (.int .i64 s.next) := hR.blk.cell 1
    have d5 : wr.cell? ⟨J, 5, none⟩ = some (.map (some bh)) := hR.blk.cell 5
    have g1 : wr.frozen? ⟨J, 1, none⟩ = false := hR.blk.free 1
    have hat : ∀ (o : Int) (N : Nat), 0 ≤ o → o ≤ 130 → Calls Try.prog 44 #[.pointer (some ⟨J, 0, none⟩), .int .i64 o] (wr.drewN N) fun e w' => e = .returned (.int .i64 (s.num o)) ∧ ∃ n, w' = (wr.drewN N).drewN n :=
      fun o N h0 h1 => at_calls J s.size s.next o _ ⟨d0, d1⟩ (ringOf_size s.short) ⟨F.next0, F.next1⟩ ⟨h0, by omega⟩
    have HR := Lib.hid hR
    by_cases hlt : k < n
    · have hnk := num_in s k
      have HA := Lib.hid (fun N => hat k N (by omega) (by omega))
      have HC := Lib.hid (cut_succ s F k (by omega))
      clear hat
      go_wp2
      go_region_law (first
        | (refine step_idelete (b := bh) (m := heldPairs (JS.cut s k)) ((HR.out.drewN _).held) rfl (.tmp 34) (.tmp 39) 70 33 (by rfl) law3 Try.underlying3 Try.underlying70 (by simp [Act.eval]) (s.num k) (by simp [Act.eval]) (wf_i64_iff.2 (by omega)) ?_; intro w3 hm3 hg3)
        | (go_simp; go_at_call 44; refine (HA.out _).mono ?_; rintro e w3 ⟨rfl, nq, rfl⟩))
      all_goals
        rw [HC.out] at hm3
        have hR3 : JRep w3 J bl bh (JS.cut s (k + 1)) := (HR.out.drewN _).setHeld hg3 _ hm3
        have hM3 : Mv J bl bh w w3 := (hM.drewN _).grown hg3 (fun j hj => by cases hj; exact .inr (.inr (.inl rfl)))
        have HR3 := Lib.hid hR3
        clear hm3 hg3 hR3
        go_wp2
        go_roundw
        case rel => exact ⟨k + 1, by go_num, by omega, HR3.out, hM3⟩
        case measure => simp [intOf]; omega
    · have hkn : k = n := by omega
      subst hkn
      have HA := Lib.hid (hat k 0 (by omega) (by omega))
      clear hat
      go_wp2_with (first | (go_at_call 44; refine HA.out.mono ?_; rintro e w3 ⟨rfl, nq, rfl⟩))
      go_ret3
      exact ⟨rfl, by rw [cut_take]; exact (HR.out.drewN _).setNext _, (hM.drewN _).set 1 _⟩

/-- What the regions read, in a world that is w2 but for what is new. -/
theorem reg_mk {w2 : World} (h : JRep w2 J bl bh s) (F : Fit s) {x : Int} (hx : 0 ≤ x ∧ x < s.size) : ∀ W, w2.grownBy W none → Reg J bh s x (gotVal s x) w2 W := fun W hW => by
  have hsz := size_in s
  have _h0 := F.next0
  have hR := h.grown hW
  refine ⟨hR.blk.cell 0, hR.blk.cell 1, hR.blk.cell 5, ?_, hW⟩
  have := hR.held.look_ok law3 Try.underlying3 Try.underlying70 (zero33 _) (x := x) (wf_i64_iff.2 (by omega))
  rw [look_get] at this
  rw [this]
  unfold gotVal
  cases s.get x <;> rfl

set_option maxHeartbeats 2000000 in
set_option maxRecDepth 100000 in
theorem first_begins (J bl bh : Nat) (s : JS) (f : Fr) (m : Int) (t : ByteArray) (n : Nat) (w : World) (h : JRep w J bl bh s) (F : Fit s) (hl : s.lost ≤ 4611686018427387000) (hb : f.b = true) (hp : s.packet = (t, n, false)) (hn : n ≤ 129) (hg : (s.get (s.num n)).isSome = true) :
    Calls Try.prog 43 #[.pointer (some ⟨J, 0, none⟩), f.val, .int .i64 m] w fun e w' => e = .returned (.tuple #[.string ⟨#[]⟩, .bool false, .bool true]) ∧ JRep w' J bl bh (s.letGo n) ∧ Mv J bl bh w w' := by
  obtain ⟨fb, fe, fq, fd⟩ := f
  simp only at hb
  subst hb
  unfold Fr.val
  have hsz := size_in s
  have hnn := num_in s n
  have hpk : ∀ W, w.grownBy W none → Calls Try.prog 51 #[.pointer (some ⟨J, 0, none⟩)] W fun e w' => e = .returned (.tuple #[.string t, .int .i64 n, .bool false]) ∧ Below W.heap.size W w' := fun W hW => by
    have := packet_calls J bl bh s W (h.grown hW) F
    rw [hp] at this
    exact this
  have hat : ∀ (val : Value) (wr W : World), Reg J bh s (s.num n) val wr W → Calls Try.prog 44 #[.pointer (some ⟨J, 0, none⟩), .int .i64 (n : Int)] W fun e w' => e = .returned (.int .i64 (s.num n)) ∧ ∃ n, w' = W.drewN n :=
    fun _ _ W a => at_calls J s.size s.next n W ⟨a.1, a.2.1⟩ (ringOf_size s.short) ⟨F.next0, F.next1⟩ ⟨by omega, by omega⟩
  have hlet : ∀ W, JRep W J bl bh s → Calls Try.prog 46 #[.pointer (some ⟨J, 0, none⟩), .int .i64 (n : Int)] W fun e w' => e = .returned (.tuple #[]) ∧ JRep w' J bl bh (s.letGo n) ∧ Mv J bl bh W w' := fun W hW => let_calls J bl bh s n W hW F ⟨by omega, by omega⟩ hl
  have HLET := Lib.hid hlet
  clear hlet
  have HL := Lib.hid hpk
  have HF := Lib.hid F
  clear hpk hp F
  have hdn := alloc_drewN
  have hds := setCell_drewN
  go_enter Try.func43, Try.ntmps43
  go_wp2_with (first | (go_at_call 51; refine (HL.out _ (grown_alloc (grown_refl _ _) _)).mono ?_; rintro e w2 ⟨rfl, hb2⟩))
  have hM0 : Mv J bl bh w w2 := ((Mv.refl J bl bh w).grown (grown_alloc (grown_refl w none) _) (by simp)).below hb2
  have hR0 : JRep w2 J bl bh s := (h.grown (grown_alloc (grown_refl _ none) _)).below hb2
  have mk := reg_mk hR0 HF.out (x := s.num n) (by omega)
  obtain ⟨⟨gb, ge, gq, gd⟩, hg⟩ := Option.isSome_iff_exists.1 hg
  have hv : gotVal s (s.num n) = .tuple #[.agg #[.bool gb, .bool ge, .int .i64 gq, .string gd], .bool true] := by unfold gotVal; rw [hg]; rfl
  rw [hv] at mk
  have MK := Lib.hid mk
  have HA := Lib.hid (hat (.tuple #[.agg #[.bool gb, .bool ge, .int .i64 gq, .string gd], .bool true]) w2)
  have HR := Lib.hid hR0
  have HM := Lib.hid hM0
  clear hg mk hv hat hR0 hM0 hb2
  go_wp2
  go_region_held3 (fun W => Reg J bh s (s.num n) (.tuple #[.agg #[.bool gb, .bool ge, .int .i64 gq, .string gd], .bool true]) w2 W) (first | exact MK.out _ (grown_drewN (grown_refl _ _) 1) | (refine MK.out _ ?_; go_split_ands; first | exact grown_drewN (grown_refl _ _) _ | exact grown_drewN (grown_alloc (grown_refl _ _) _) _ | exact grown_alloc (grown_refl _ _) _))
    (first | (go_at_call 44; refine (HA.out _ ?_).mono ?_; assumption; rintro e w3 ⟨rfl, nq, rfl⟩))
  all_goals
    go_wp2_with (first | (go_at_call 46; refine (HLET.out _ (HR.out.grown (grown_drewN (grown_alloc (grown_refl _ none) _) _))).mono ?_; rintro e w4 ⟨rfl, hr, hm⟩))
    go_ret3
    exact ⟨rfl, hr, (HM.out.grown (grown_drewN (grown_alloc (grown_refl _ none) _) _) (by simp)).trans hm⟩

set_option maxHeartbeats 2000000 in
set_option maxRecDepth 100000 in
theorem first_lost (J bl bh : Nat) (s : JS) (f : Fr) (m : Int) (t : ByteArray) (n : Nat) (w : World) (h : JRep w J bl bh s) (F : Fit s) (hl : s.lost ≤ 4611686018427387000) (hb : f.b = true) (hp : s.packet = (t, n, false)) (hn : n ≤ 129) (hg : s.get (s.num n) = none) (hle : (n : Int) ≤ m) :
    Calls Try.prog 43 #[.pointer (some ⟨J, 0, none⟩), f.val, .int .i64 m] w fun e w' => e = .returned (.tuple #[.string ⟨#[]⟩, .bool false, .bool true]) ∧ JRep w' J bl bh (s.letGo ((n : Int) + 1)) ∧ Mv J bl bh w w' := by
  obtain ⟨fb, fe, fq, fd⟩ := f
  simp only at hb
  subst hb
  unfold Fr.val
  have hsz := size_in s
  have hnn := num_in s n
  have hpk : ∀ W, w.grownBy W none → Calls Try.prog 51 #[.pointer (some ⟨J, 0, none⟩)] W fun e w' => e = .returned (.tuple #[.string t, .int .i64 n, .bool false]) ∧ Below W.heap.size W w' := fun W hW => by
    have := packet_calls J bl bh s W (h.grown hW) F
    rw [hp] at this
    exact this
  have hat : ∀ (val : Value) (wr W : World), Reg J bh s (s.num n) val wr W → Calls Try.prog 44 #[.pointer (some ⟨J, 0, none⟩), .int .i64 (n : Int)] W fun e w' => e = .returned (.int .i64 (s.num n)) ∧ ∃ n, w' = W.drewN n :=
    fun _ _ W a => at_calls J s.size s.next n W ⟨a.1, a.2.1⟩ (ringOf_size s.short) ⟨F.next0, F.next1⟩ ⟨by omega, by omega⟩
  have hlet : ∀ W, JRep W J bl bh s → Calls Try.prog 46 #[.pointer (some ⟨J, 0, none⟩), .int .i64 ((n : Int) + 1)] W fun e w' => e = .returned (.tuple #[]) ∧ JRep w' J bl bh (s.letGo ((n : Int) + 1)) ∧ Mv J bl bh W w' := fun W hW => let_calls J bl bh s ((n : Int) + 1) W hW F ⟨by omega, by omega⟩ hl
  have HLET := Lib.hid hlet
  clear hlet
  have HL := Lib.hid hpk
  have HF := Lib.hid F
  clear hpk hp F
  have hdn := alloc_drewN
  have hds := setCell_drewN
  go_enter Try.func43, Try.ntmps43
  go_wp2_with (first | (go_at_call 51; refine (HL.out _ (grown_alloc (grown_refl _ _) _)).mono ?_; rintro e w2 ⟨rfl, hb2⟩))
  have hM0 : Mv J bl bh w w2 := ((Mv.refl J bl bh w).grown (grown_alloc (grown_refl w none) _) (by simp)).below hb2
  have hR0 : JRep w2 J bl bh s := (h.grown (grown_alloc (grown_refl _ none) _)).below hb2
  have mk := reg_mk hR0 HF.out (x := s.num n) (by omega)
  have hv : gotVal s (s.num n) = .tuple #[.agg #[.bool false, .bool false, .int .i64 0, .string ⟨#[]⟩], .bool false] := by unfold gotVal; rw [hg]; rfl
  rw [hv] at mk
  have MK := Lib.hid mk
  have HA := Lib.hid (hat (.tuple #[.agg #[.bool false, .bool false, .int .i64 0, .string ⟨#[]⟩], .bool false]) w2)
  have HR := Lib.hid hR0
  have HM := Lib.hid hM0
  clear hg mk hv hat hR0 hM0 hb2
  go_wp2
  go_region_held3 (fun W => Reg J bh s (s.num n) (.tuple #[.agg #[.bool false, .bool false, .int .i64 0, .string ⟨#[]⟩], .bool false]) w2 W) (first | exact MK.out _ (grown_drewN (grown_refl _ _) 1) | (refine MK.out _ ?_; go_split_ands; first | exact grown_drewN (grown_refl _ _) _ | exact grown_drewN (grown_alloc (grown_refl _ _) _) _ | exact grown_alloc (grown_refl _ _) _))
    (first | (go_at_call 44; refine (HA.out _ ?_).mono ?_; assumption; rintro e w3 ⟨rfl, nq, rfl⟩))
  all_goals
    go_wp2_with (first | (go_at_call 46; refine (HLET.out _ (HR.out.grown (grown_drewN (grown_alloc (grown_refl _ none) _) _))).mono ?_; rintro e w4 ⟨rfl, hr, hm⟩))
    go_ret3
    exact ⟨rfl, hr, (HM.out.grown (grown_drewN (grown_alloc (grown_refl _ none) _) _) (by simp)).trans hm⟩

set_option maxHeartbeats 2000000 in
set_option maxRecDepth 100000 in
theorem first_waits (J bl bh : Nat) (s : JS) (f : Fr) (m : Int) (t : ByteArray) (n : Nat) (w : World) (h : JRep w J bl bh s) (F : Fit s) (hb : f.b = true) (hp : s.packet = (t, n, false)) (hn : n ≤ 129) (hg : s.get (s.num n) = none) (hle : ¬ (n : Int) ≤ m) :
    Calls Try.prog 43 #[.pointer (some ⟨J, 0, none⟩), f.val, .int .i64 m] w fun e w' => e = .returned (.tuple #[.string ⟨#[]⟩, .bool false, .bool false]) ∧ JRep w' J bl bh s ∧ Mv J bl bh w w' := by
  obtain ⟨fb, fe, fq, fd⟩ := f
  simp only at hb
  subst hb
  unfold Fr.val
  have hsz := size_in s
  have hnn := num_in s n
  have hpk : ∀ W, w.grownBy W none → Calls Try.prog 51 #[.pointer (some ⟨J, 0, none⟩)] W fun e w' => e = .returned (.tuple #[.string t, .int .i64 n, .bool false]) ∧ Below W.heap.size W w' := fun W hW => by
    have := packet_calls J bl bh s W (h.grown hW) F
    rw [hp] at this
    exact this
  have hat : ∀ (val : Value) (wr W : World), Reg J bh s (s.num n) val wr W → Calls Try.prog 44 #[.pointer (some ⟨J, 0, none⟩), .int .i64 (n : Int)] W fun e w' => e = .returned (.int .i64 (s.num n)) ∧ ∃ n, w' = W.drewN n :=
    fun _ _ W a => at_calls J s.size s.next n W ⟨a.1, a.2.1⟩ (ringOf_size s.short) ⟨F.next0, F.next1⟩ ⟨by omega, by omega⟩
  have HL := Lib.hid hpk
  have HF := Lib.hid F
  clear hpk hp F
  have hdn := alloc_drewN
  have hds := setCell_drewN
  go_enter Try.func43, Try.ntmps43
  go_wp2_with (first | (go_at_call 51; refine (HL.out _ (grown_alloc (grown_refl _ _) _)).mono ?_; rintro e w2 ⟨rfl, hb2⟩))
  have hM0 : Mv J bl bh w w2 := ((Mv.refl J bl bh w).grown (grown_alloc (grown_refl w none) _) (by simp)).below hb2
  have hR0 : JRep w2 J bl bh s := (h.grown (grown_alloc (grown_refl _ none) _)).below hb2
  have mk := reg_mk hR0 HF.out (x := s.num n) (by omega)
  have hv : gotVal s (s.num n) = .tuple #[.agg #[.bool false, .bool false, .int .i64 0, .string ⟨#[]⟩], .bool false] := by unfold gotVal; rw [hg]; rfl
  rw [hv] at mk
  have MK := Lib.hid mk
  have HA := Lib.hid (hat (.tuple #[.agg #[.bool false, .bool false, .int .i64 0, .string ⟨#[]⟩], .bool false]) w2)
  have HR := Lib.hid hR0
  have HM := Lib.hid hM0
  clear hg mk hv hat hR0 hM0 hb2
  go_wp2
  go_region_held3 (fun W => Reg J bh s (s.num n) (.tuple #[.agg #[.bool false, .bool false, .int .i64 0, .string ⟨#[]⟩], .bool false]) w2 W) (first | exact MK.out _ (grown_drewN (grown_refl _ _) 1) | (refine MK.out _ ?_; go_split_ands; first | exact grown_drewN (grown_refl _ _) _ | exact grown_drewN (grown_alloc (grown_refl _ _) _) _ | exact grown_alloc (grown_refl _ _) _))
    (first | (go_at_call 44; refine (HA.out _ ?_).mono ?_; assumption; rintro e w3 ⟨rfl, nq, rfl⟩))
  all_goals
    go_wp2
    go_ret3
    exact ⟨rfl, HR.out.grown (grown_drewN (grown_alloc (grown_refl _ none) _) _), HM.out.grown (grown_drewN (grown_alloc (grown_refl _ none) _) _) (by simp)⟩

end Go.Proofs.Ytcpehjdnmhkcpaa.JoinE
