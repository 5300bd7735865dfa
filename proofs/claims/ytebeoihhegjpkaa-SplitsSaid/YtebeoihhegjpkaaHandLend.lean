/- Statement Splits, walks: LendInts lends a copy with two marks behind it; KeptInts finds copy and marks as they were. -/
import Derived.Test.YtebeoihhegjpkaaPSplitsx3
import Derived.Test.YtebeoihhegjpkaaPlain
import Derived.Test.YtebeoihhegjpkaaMem
import Derived.Lib.Hide
import Derived.Deep.QuietTactic
import Derived.BigQuiet
namespace Go.Proofs.Ytebeoihhegjpkaa.HandLend
open Go.RowKit Go.Proofs.Ytebeoihhegjpkaa.PSplits Go.Proofs.YtebeoihhegjpkaaW.PrintWords Go.Proofs.YtebeoihhegjpkaaW.PrintLast Go.Proofs.YtebeoihhegjpkaaW.PrintMore Go.Proofs.Ytebeoihhegjpkaa.Plain Go.Proofs.Ytebeoihhegjpkaa.Mem

theorem info3 : (Try.prog.info? 3).map (fun i => (i.zero, i.size, i.bytes)) = some (some (.int .i64 0), 1, 8) := by kernel_rfl

/-- A row of numbers of the call's own, as values. -/
theorem own_ints {w : World} {base : Nat} {ok : Nat → Prop} {v : Value} {l : List Int} (h : Kd.R (Kd.int .i64) 3 w base ok v l) : w.ownsRow base 3 1 v l.length (l.map (Value.int .i64)) := by
  obtain ⟨_, inner, ho, hr⟩ := h
  have e : inner = l.map (Value.int .i64) := by
    apply List.ext_getElem?
    intro j
    by_cases hj : j < l.length
    · have h1 := hr.2 j _ (List.getElem?_eq_getElem hj)
      have h2 : (inner.drop (j * 1)).take 1 = [Value.int .i64 l[j]] := h1
      have h3 : inner[j]? = ((inner.drop (j * 1)).take 1)[0]? := by simp
      rw [h3, h2]
      simp [hj]
    · have h1 : inner.length = l.length * 1 := hr.1
      rw [List.getElem?_eq_none (by omega), List.getElem?_eq_none (by simp; omega)]
  rw [← e]
  exact ho

set_option maxHeartbeats 1000000 in
set_option maxRecDepth 100000 in
theorem lend_calls (A : Option Addr) (c : Nat) (l : List Int) (w : World) (hr : Kd.C (Kd.int .i64) w A l.length l) (hc : l.length ≤ c) (hl : l.length * 8 ≤ 140737488351232) :
    Calls Try.prog 8 #[.slice A l.length c] w fun e w' => ∃ (g cap : Nat) (cur : Array Value), e = .returned (.slice (some ⟨g, 0, none⟩) l.length cap) ∧ l.length + 2 ≤ cap ∧ cap ≤ maxLen ∧ w'.heap[g]? = some (.cells cur 3 (0, 0)) ∧ cur.size = cap ∧
      cur.toList.take (l.length + 2) = (l ++ [-7777, -8888]).map (Value.int .i64) ∧ Below w.heap.size w w' := by
  obtain ⟨i0, hi, hz0, hz1, hz2⟩ := info_parts info3
  have hcopy : withylaw0_CopyInts.f l = some l := by
    unfold withylaw0_CopyInts.f
    rw [Option.bind_some, if_pos (by simp; omega)]
    rfl
  have HR := Lib.hid hr
  have HC := Lib.hid hc
  clear hr hc
  go_enter Try.func8, Try.ntmps8
  go_wp2_with (first
    | (go_at_call 17; refine (withylaw0_CopyInts.calls A c l l _ HR.out HC.out hcopy).mono ?_; rintro e w1 ⟨v, rfl, hv, hb⟩; have own := own_ints hv; clear hv; have OWN := Lib.hid own; clear own)
    | (at_builtin; refine wpList_append_own _ rfl _ _ 22 rfl w.heap.size 3 i0 (.int .i64 0) 1 8 Try.underlying22 hi hz0 hz1 hz2 rfl (by decide) _ _ _ rfl (OWN.out.alloc _) ⟨w1.heap.size, 0, none⟩ 2 2 [.int .i64 (-7777), .int .i64 (-8888)] rfl rfl ?c1 ?c2 ?c3 ?c4 ?c5 ?_))
  case c1 =>
    intro j u hu
    match j with
    | 0 => simp at hu; subst hu; simp [add_plain]
    | 1 => simp at hu; subst hu; simp [add_plain]
    | j + 2 => simp at hu
  case c2 => intro u hu; simp at hu; rcases hu with rfl | rfl <;> rfl
  case c3 => unfold maxLen; omega
  case c4 => omega
  case c5 => have := hb.size; simp; omega
  intro v' w2 hown' hgrow hnil
  have HBW : Below w.heap.size w w2 := (hb.alloc hb.size _).grown hgrow (by have := hb.size; simp; omega) (fun k hk => own_base OWN.out k hk)
  obtain ⟨hlen, hshape⟩ := hown'
  rcases hshape with ⟨rfl, hz⟩ | ⟨g, cap, cur, rfl, hg, hh, hn, hm, hsz, htake⟩
  · omega
  have hh' := Lib.hid hh
  have ht' := Lib.hid htake
  have hs' := Lib.hid hsz
  have OWN' := OWN
  clear hh htake hsz hnil hgrow hlen OWN
  go_wp2_with fail
  go_ret
  exact ⟨g, cap, cur, rfl, hn, hm, hh'.out, by rw [hs'.out]; omega, by have := ht'.out; rw [Nat.mul_one] at this; rw [this]; simp, HBW⟩

theorem same_calls (A : Addr) (B : Option Addr) (n c d : Nat) (l : List Int) (w : World) (hn : n ≤ 140737488351232) (ha : ∀ i, i < n → w.cell? (A.add i) = some (.int .i64 (l.getD i 0))) (hb : ∀ i, i < n → ∃ b, B = some b ∧ w.cell? (b.add i) = some (.int .i64 (l.getD i 0))) :
    Calls Try.prog 20 #[.slice (some A) n c, .slice B n d] w fun e w' => e = .returned (.bool true) ∧ ∃ m, w' = w.drewN m := by
  have HA := Lib.hid ha
  have HB := Lib.hid hb
  clear ha hb
  go_enter Try.func20, Try.ntmps20
  go_wp2
  go_loopw [5] (fun i wr => ∃ j nq : Nat, j ≤ n ∧ i = .int .i64 j ∧ wr = w.drewN nq) (fun i _ => n - (intOf i).toNat)
  case atStart => exact ⟨0, 0, by omega, rfl, rfl⟩
  case round =>
    obtain ⟨j, nq, hj, rfl, rfl⟩ := hrel
    by_cases hlt : j < n
    · obtain ⟨b, rfl, hbc⟩ := HB.out j hlt
      clear HB
      obtain ⟨S, hS1, hS2⟩ : ∃ S : Int, w.cell? (A.add j) = some (.int .i64 S) ∧ w.cell? (b.add j) = some (.int .i64 S) := ⟨_, HA.out j hlt, hbc⟩
      clear hbc
      go_wp2
      go_quiet (fail)
      go_wp2
      go_roundw
      case rel => exact ⟨j + 1, _, by omega, by go_num, rfl⟩
      case measure => simp [intOf]; omega
    · go_wp2
      go_ret
      exact ⟨rfl, _, rfl⟩

/-- What was lent is found as it was, the marks too. -/
theorem kept_calls (g cap : Nat) (B : Option Addr) (n d : Nat) (l : List Int) (w : World) (hn : n ≤ 17592186043904) (hcap : n + 2 ≤ cap) (ha : ∀ i, i < n → w.cell? ⟨g, i, none⟩ = some (.int .i64 (l.getD i 0)))
    (hb : ∀ i, i < n → ∃ b, B = some b ∧ w.cell? (b.add i) = some (.int .i64 (l.getD i 0))) (h1 : w.cell? ⟨g, n, none⟩ = some (.int .i64 (-7777))) (h2 : w.cell? ⟨g, n + 1, none⟩ = some (.int .i64 (-8888))) :
    Calls Try.prog 13 #[.slice (some ⟨g, 0, none⟩) n cap, .slice B n d] w fun e w' => e = .returned (.bool true) ∧ ∃ m, w' = w.drewN m := by
  have HA := Lib.hid ha
  have HB := Lib.hid hb
  clear ha hb
  go_enter Try.func13, Try.ntmps13
  go_wp2_with (go_at_call 20; refine (same_calls _ _ n _ _ l _ (by omega) (fun i hi => by rw [add_plain]; exact HA.out i hi) HB.out).mono ?_; rintro e w1 ⟨rfl, nq, rfl⟩)
  go_ret
  exact ⟨rfl, nq, rfl⟩

/-- The fragments' numbers are written over: nothing but their own block turns. -/
theorem spoil_calls (g n c : Nat) (cur : Array Value) (w : World) (hn : n ≤ 64) (hg : Blk w g cur 39) (hc : ∀ i, i < n → ∃ x, cur[i * 4 + 2]? = some (.int .i64 x)) :
    Calls Try.prog 14 #[.slice (some ⟨g, 0, none⟩) n c] w fun e w' => e = .returned (.tuple #[]) ∧ w.grownBy w' (some g) := by
  have HC := Lib.hid hc
  have HG := Lib.hid hg
  clear hc hg
  go_enter Try.func14, Try.ntmps14
  go_wp2
  go_loopw [2] (fun i wr => ∃ (j : Nat) (cs : Array Value), j ≤ n ∧ i = .int .i64 j ∧ Hid (Blk wr g cs 39) ∧ Hid (∀ i, i < n → ∃ x, cs[i * 4 + 2]? = some (.int .i64 x)) ∧ w.grownBy wr (some g)) (fun i _ => n - (intOf i).toNat)
  case atStart => exact ⟨0, cur, by omega, rfl, HG, HC, grown_refl _ _⟩
  case round =>
    obtain ⟨j, cs, hj, rfl, HB, HX, hgr⟩ := hrel
    by_cases hlt : j < n
    · obtain ⟨x, hx⟩ := HX.out j hlt
      have c2 := HB.out.cell (j * 4 + 2)
      rw [hx] at c2
      have f2 := HB.out.free (j * 4 + 2)
      clear hx
      go_wp2
      go_roundw
      case rel =>
        refine ⟨j + 1, _, by omega, by go_num, Lib.hid (HB.out.set _ _), Lib.hid fun i hi => ?_, grown_set hgr _ _⟩
        by_cases e : i = j
        · subst e
          have hs : i * 4 + 2 < cs.size := by
            obtain ⟨y, hy⟩ := HX.out i hi
            exact (Array.getElem?_eq_some_iff.1 hy).1
          exact ⟨_, by rw [Array.getElem?_setIfInBounds_self_of_lt hs]⟩
        · rw [Array.getElem?_setIfInBounds_ne (by omega)]
          exact HX.out i hi
      case measure => simp [intOf]; omega
    · go_wp2
      go_end0
      exact ⟨rfl, hgr⟩

end Go.Proofs.Ytebeoihhegjpkaa.HandLend
