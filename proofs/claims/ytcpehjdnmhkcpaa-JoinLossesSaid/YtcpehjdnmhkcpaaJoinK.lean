/- What the laws call besides: Num, SameTexts; what every program answers that is one. -/
import Derived.Test.YtcpehjdnmhkcpaaJoinI
namespace Go.Proofs.Ytcpehjdnmhkcpaa.JoinK
open Go Go.RowKit Go.Maps Go.Proofs.Ytcpehjdnmhkcpaa.Mem Go.Proofs.Ytcpehjdnmhkcpaa.Plain Go.Proofs.Ytcpehjdnmhkcpaa.Ring Go.Proofs.Ytcpehjdnmhkcpaa.IMap Go.Proofs.Ytcpehjdnmhkcpaa.JoinP Go.Proofs.Ytcpehjdnmhkcpaa.JoinA Go.Proofs.Ytcpehjdnmhkcpaa.JoinB Go.Proofs.Ytcpehjdnmhkcpaa.JoinC Go.Proofs.Ytcpehjdnmhkcpaa.Mv Go.Proofs.Ytcpehjdnmhkcpaa.RowAt Go.Proofs.Ytcpehjdnmhkcpaa.JoinQ Go.Proofs.Ytcpehjdnmhkcpaa.JoinD Go.Proofs.Ytcpehjdnmhkcpaa.JoinE Go.Proofs.Ytcpehjdnmhkcpaa.JoinR Go.Proofs.Ytcpehjdnmhkcpaa.JoinF Go.Proofs.Ytcpehjdnmhkcpaa.JoinG Go.Proofs.Ytcpehjdnmhkcpaa.JoinH Go.Proofs.Ytcpehjdnmhkcpaa.JoinI

theorem num_calls (x : Int) (w : World) : Calls Try.prog 14 #[.int .i64 x] w fun e w' => e = .returned (.int .i64 x) ∧ w = w' := by
  go_enter Try.func14, Try.ntmps14
  go_wp2
  go_ret
  exact ⟨rfl, rfl⟩

/-- The texts of a slice. -/
def Txt (w : World) (B : Nat) (v : Value) (l : List ByteArray) : Prop := RowAt w B 9 1 v l.length (l.map Value.string)

theorem Txt.shape {w : World} {B : Nat} {v : Value} {l : List ByteArray} (h : Txt w B v l) : ∃ A c, v = .slice A l.length c ∧ ∀ k t, l[k]? = some t → ∃ g off, A = some ⟨g, off, none⟩ ∧ w.cell? ⟨g, off + k, none⟩ = some (.string t) := by
  have hc := h
  rcases h.2 with ⟨rfl, h0⟩ | ⟨g, off, cap, cur, rfl, _⟩
  · refine ⟨none, 0, by rw [h0], fun k t hk => ?_⟩
    have := (List.getElem?_eq_some_iff.1 hk).1
    omega
  · refine ⟨_, _, rfl, fun k t hk => ⟨g, off, rfl, ?_⟩⟩
    have hlt := (List.getElem?_eq_some_iff.1 hk).1
    rw [hc.cell k (by omega), List.getElem?_map, hk]
    rfl

theorem eq_of_toList {a b : ByteArray} (h : a.toList = b.toList) : a = b := by
  rw [ByteArray.toList_eq, ByteArray.toList_eq] at h
  exact ByteArray.ext (Array.toList_inj.mp h)

set_option maxHeartbeats 1000000 in
set_option maxRecDepth 100000 in
theorem same_calls (w : World) (B1 B2 : Nat) (v1 v2 : Value) (l1 l2 : List ByteArray) (h1 : Txt w B1 v1 l1) (h2 : Txt w B2 v2 l2) (hl : l1.length ≤ 1000000 ∧ l2.length ≤ 1000000) :
    Calls Try.prog 22 #[v1, v2] w fun e w' => e = .returned (.bool (decide (l1 = l2))) ∧ ∃ n, w' = w.drewN n := by
  obtain ⟨A1, c1, rfl, r1⟩ := h1.shape
  obtain ⟨A2, c2, rfl, r2⟩ := h2.shape
  clear h1 h2
  by_cases hlen : l1.length = l2.length
  · have hne : ((l1.length : Int) != (l2.length : Int)) = false := by simp [hlen]
    have R1 := Lib.hid r1
    have R2 := Lib.hid r2
    have HL := Lib.hid hlen
    clear r1 r2 hlen
    go_enter Try.func22, Try.ntmps22
    go_wp2
    go_loopw [5] (fun i wr => ∃ k m : Nat, i = .int .i64 k ∧ k ≤ l1.length ∧ wr = w.drewN m ∧ l1.take k = l2.take k) (fun i _ => l1.length - (intOf i).toNat)
    case atStart => exact ⟨0, 0, rfl, Nat.zero_le _, rfl, by simp⟩
    case round =>
      obtain ⟨k, m, rfl, hk, rfl, ht⟩ := hrel
      have HT := Lib.hid ht
      clear ht
      by_cases hlt : k < l1.length
      · have hlt2 : k < l2.length := by have := HL.out; omega
        obtain ⟨g1, o1, rfl, d1⟩ := R1.out k _ (List.getElem?_eq_getElem hlt)
        obtain ⟨g2, o2, rfl, d2⟩ := R2.out k _ (List.getElem?_eq_getElem hlt2)
        have hk1 : (k : Int) < (l1.length : Int) := by omega
        have hk2 : (k : Int) < (l2.length : Int) := by omega
        have hk0 : (0 : Int) ≤ (k : Int) := by omega
        obtain ⟨t1, ht1⟩ : ∃ t, l1[k] = t := ⟨_, rfl⟩
        obtain ⟨t2, ht2⟩ : ∃ t, l2[k] = t := ⟨_, rfl⟩
        rw [ht1] at d1
        rw [ht2] at d2
        have T1 := Lib.hid ht1
        have T2 := Lib.hid ht2
        clear ht1 ht2
        go_wp2
        go_quiet (fail)
        go_wp2
        · have hb : ¬ t1 = t2 := by
            intro e
            rename_i hb
            rw [e] at hb
            simp at hb
          go_ret
          refine ⟨?_, m + nq, World.drewN_drewN _ _ _⟩
          rw [decide_eq_false (fun e => hb (by have a := T1.out; have b := T2.out; subst e; exact a.symm.trans b))]
          rfl
        · have hb : t1 = t2 := by
            rename_i hb
            exact eq_of_toList (by simpa using hb)
          have ht2 : l1.take (k + 1) = l2.take (k + 1) := by
            rw [List.take_succ_eq_append_getElem hlt, List.take_succ_eq_append_getElem hlt2, HT.out, T1.out, T2.out, hb]
          exact ⟨⟨k + 1, m + nq, by go_num, by omega, rfl, ht2⟩, by simp [intOf]; omega⟩
      · have hkl : k = l1.length := by omega
        have he : l1 = l2 := by
          have := HT.out
          have hL := HL.out
          rw [List.take_of_length_le (by omega), List.take_of_length_le (by omega)] at this
          exact this
        have HE := Lib.hid he
        clear he
        go_wp2
        go_ret
        exact ⟨by rw [decide_eq_true HE.out]; rfl, _, rfl⟩
  · have hne : ((l1.length : Int) != (l2.length : Int)) = true := by simp; omega
    have he : ¬ l1 = l2 := fun e => hlen (by rw [e])
    have HE := Lib.hid he
    clear r1 r2 he
    go_enter Try.func22, Try.ntmps22
    go_wp2
    go_ret
    exact ⟨by rw [decide_eq_false HE.out]; rfl, 0, rfl⟩

/-- Put, where the answer is known. -/
theorem put_step {J bl bh : Nat} {s : JS} {n : Nat} {x : Int} {f : Fr} {w : World} (h : JRep w J bl bh s) (G : JoinH.Good s n) (hn : n ≤ 4611686018427386000) (hx : (Lit.int .i64 x).wf = true) {c : Int} {o : List ByteArray} {s' : JS} (hc : JS.putNum s x f = c) (ho : JS.put s x f = (o, s')) :
    Calls Try.prog 20 #[.pointer (some ⟨J, 0, none⟩), .int .i64 x, f.val] w fun e w' => ∃ A k, e = .returned (.tuple #[.slice A o.length k, .int .i64 c]) ∧ Txt w' w.heap.size (.slice A o.length k) o ∧ JRep w' J bl bh s' ∧ Mv J bl bh w w' :=
  (put_calls J bl bh s n x f w h G hn hx).mono fun e w' hp => by
    obtain ⟨v, he, hrow, hr, hm⟩ := hp
    rw [ho] at hrow hr
    rw [hc] at he
    obtain ⟨A, k, rfl⟩ := RowAt.form hrow
    exact ⟨A, k, he, hrow, hr, hm⟩

theorem txt_mv {J bl bh : Nat} {w1 w' : World} {B : Nat} {v : Value} {l : List ByteArray} (h : Txt w1 B v l) (hJ : J < B) (hl : bl < B) (hh : bh < B) (hM : Mv J bl bh w1 w') : Txt w' B v l :=
  RowAt.block h fun k hk => by
    have := RowAt.lt h k hk
    exact hM.block k this.2 (by omega) (by omega) (by omega)

/-- A slice of one text, laid in a block of its own. -/
theorem txt_one (w : World) (t : ByteArray) : Txt (w.alloc (.cells #[.string t] 9)) w.heap.size (.slice (some ⟨w.heap.size, 0, none⟩) 1 1) [t] :=
  ⟨by simp, .inr ⟨w.heap.size, 0, 1, #[.string t], rfl, Nat.le_refl _, Blk.new w #[.string t] 9, Nat.le_refl _, by unfold maxLen; omega, by simp, rfl⟩⟩

def F1 : Fr := ⟨true, false, 0, ⟨#[97]⟩⟩
def F2 : Fr := ⟨false, true, 1, ⟨#[98]⟩⟩
def F0 : Fr := ⟨false, false, 0, ⟨#[]⟩⟩
def aw1 : JS := JS.add (JS.new true 8) 1
def aw2 : JS := (JS.put aw1 1 F1).2
def aw3 : JS := (JS.put aw2 1 F2).2
theorem aw_n1 : JS.addNum (JS.new true 8) 1 = 0 := by decide +kernel
theorem aw_p1 : JS.putNum aw1 1 F1 = 0 := by decide +kernel
theorem aw_o1 : JS.put aw1 1 F1 = ([], aw2) := Prod.ext (by decide +kernel) rfl
theorem aw_p2 : JS.putNum aw2 1 F2 = 0 := by decide +kernel
theorem aw_o2 : JS.put aw2 1 F2 = ([⟨#[97, 98]⟩], aw3) := Prod.ext (by decide +kernel) rfl
theorem aw_p3 : JS.putNum aw3 2 F0 = 1902 := by decide +kernel
theorem aw_o3 : JS.put aw3 2 F0 = ([], aw3) := by unfold JS.put; rw [aw_p3]; rfl
theorem aw_d : JS.dropNum aw3 5 = 1902 := by decide +kernel
theorem aw_d3 : JS.drop aw3 5 = aw3 := by
  have h : JS.has aw3 5 = false := by decide +kernel
  unfold JS.drop
  rw [h]
  rfl
theorem aw_h : aw3.held.length = 0 := by decide +kernel
theorem aw_l : aw3.lost = 0 := by decide +kernel
theorem aw_g1 : JoinH.Good aw1 0 := add_good (new_good true 8 (by omega)) (by decide)
theorem aw_g2 : JoinH.Good aw2 1 := put_good' aw_g1 (by omega) 1 F1
theorem aw_g3 : JoinH.Good aw3 2 := put_good' aw_g2 (by omega) 1 F2

set_option maxHeartbeats 2000000 in
set_option maxRecDepth 100000 in
theorem awake_calls (w : World) : Calls Try.prog 15 #[] w fun e w' => e = .returned (.bool true) ∧ Below w.heap.size w w' := by
  go_enter Try.func15, Try.ntmps15
  go_wp2_with fail
  refine (new_calls true 8 _ (by omega)).mono ?_
  rintro e w1 ⟨J, bl, bh, rfl, hr1, hb1, hJ, hl, hh⟩
  have HR1 := Lib.hid hr1
  clear hr1
  go_wp2_with fail
  refine (num_calls _ _).mono ?_
  rintro e w' ⟨rfl, rfl⟩
  go_wp2_with fail
  refine (add_calls J bl bh _ 1 _ HR1.out (new_good true 8 (by omega)).fit (by decide)).mono ?_
  rintro e w2 ⟨rfl, hr2, hm2⟩
  rw [aw_n1]
  have HR2 : Hid (JRep w2 J bl bh aw1) := Lib.hid hr2
  clear hr2
  go_wp2_with fail
  refine (put_step (f := F1) HR2.out aw_g1 (by omega) (by decide) aw_p1 aw_o1).mono ?_
  rintro e w3 ⟨A3, k3, rfl, ht3, hr3, hm3⟩
  have HR3 := Lib.hid hr3
  clear hr3
  go_wp2_with fail
  refine (put_step (f := F2) HR3.out aw_g2 (by omega) (by decide) aw_p2 aw_o2).mono ?_
  rintro e w4 ⟨A4, k4, rfl, ht4, hr4, hm4⟩
  have HR4 := Lib.hid hr4
  have HT4 := Lib.hid ht4
  clear hr4 ht3 ht4
  go_wp2_with fail
  refine (put_step (f := F0) HR4.out aw_g3 (by omega) (by decide) aw_p3 aw_o3).mono ?_
  rintro e w5 ⟨A5, k5, rfl, ht5, hr5, hm5⟩
  have HR5 := Lib.hid hr5
  clear hr5 ht5
  go_wp2_with fail
  refine (drop_calls J bl bh _ 5 _ HR5.out (by decide)).mono ?_
  rintro e w6 ⟨rfl, hr6, hm6⟩
  rw [aw_d]
  rw [aw_d3] at hr6
  have HR6 := Lib.hid hr6
  clear hr6
  go_wp2_with fail
  refine (new_bad true 0 _ (by omega)).mono ?_
  rintro e w' ⟨rfl, rfl⟩
  have HT6 : Hid (Txt w6 w3.heap.size (.slice A4 1 k4) [⟨#[97, 98]⟩]) := Lib.hid (txt_mv HT4.out (by have := hb1.size; have := hm2.size; have := hm3.size; have := HR1.out.blk.lt; omega) (by have := hm2.size; have := hm3.size; have := HR1.out.links.lt; omega) (by have := hm2.size; have := hm3.size; have := HR1.out.held.lt; omega) (hm5.trans hm6))
  have HH := Lib.hid aw_h
  have HL := Lib.hid aw_l
  go_wp2_with (first
    | (go_at_call 14; ((with_reducible refine (num_calls _ _).mono ?_); rintro e w' ⟨rfl, rfl⟩))
    | (go_at_call 22; refine (same_calls _ _ _ _ _ _ _ (RowAt.alloc HT6.out _) (txt_one _ _) (by decide)).mono ?_; rintro e w7 ⟨rfl, nq, rfl⟩)
    | (go_at_call 23; ((with_reducible refine (held_calls J bl bh _ _ ((HR6.out.grown (grown_alloc (grown_refl _ none) _)).drewN _)).mono ?_); rintro e w' ⟨rfl, rfl⟩; rw [HH.out]))
    | (go_at_call 25; ((with_reducible refine (lost_calls J bl bh _ _ ((HR6.out.grown (grown_alloc (grown_refl _ none) _)).drewN _)).mono ?_); rintro e w' ⟨rfl, rfl⟩; rw [HL.out])))
  go_ret
  have hB2 : Below w.heap.size w w2 := hb1.trans (hm2.to_below hb1.size hJ hl hh)
  have hB3 := hB2.trans (hm3.to_below hB2.size hJ hl hh)
  have hB4 := hB3.trans (hm4.to_below hB3.size hJ hl hh)
  have hB5 := hB4.trans (hm5.to_below hB4.size hJ hl hh)
  have hB6 := hB5.trans (hm6.to_below hB5.size hJ hl hh)
  exact ⟨rfl, below_drewN (hB6.alloc hB6.size _) _⟩

end Go.Proofs.Ytcpehjdnmhkcpaa.JoinK
