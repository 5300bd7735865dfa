/- JoinRing, the walk: one for each form. -/
import Derived.Test.YtcpehjdnmhkcpaaLRingP
namespace Go.Proofs.Ytcpehjdnmhkcpaa.LRing
open Go Go.RowKit Go.Maps Go.Proofs.Ytcpehjdnmhkcpaa.Mem Go.Proofs.Ytcpehjdnmhkcpaa.Plain Go.Proofs.Ytcpehjdnmhkcpaa.Ring Go.Proofs.Ytcpehjdnmhkcpaa.IMap Go.Proofs.Ytcpehjdnmhkcpaa.JoinP Go.Proofs.Ytcpehjdnmhkcpaa.JoinA Go.Proofs.Ytcpehjdnmhkcpaa.Mv Go.Proofs.Ytcpehjdnmhkcpaa.RowAt Go.Proofs.Ytcpehjdnmhkcpaa.JoinE Go.Proofs.Ytcpehjdnmhkcpaa.JoinR Go.Proofs.Ytcpehjdnmhkcpaa.JoinF Go.Proofs.Ytcpehjdnmhkcpaa.JoinG Go.Proofs.Ytcpehjdnmhkcpaa.JoinH Go.Proofs.Ytcpehjdnmhkcpaa.JoinI Go.Proofs.Ytcpehjdnmhkcpaa.JoinK Go.Proofs.Ytcpehjdnmhkcpaa.LRingP

set_option maxHeartbeats 2000000 in
set_option maxRecDepth 100000 in
theorem ring_true (a0 : Int) (w : World) : Calls Try.prog 8 #[.int .i64 a0, .bool true] w fun e w' => e = .returned (.bool true) ∧ Below w.heap.size w w' := by
  obtain ⟨r, hr, hr32⟩ : ∃ r : Nat, bits .and .i64 a0 31 = (r : Int) ∧ r < 32 := by
    have h0 : 0 ≤ a0 % 32 := Int.emod_nonneg _ (by omega)
    have h1 : a0 % 32 < 32 := Int.emod_lt_of_pos _ (by omega)
    exact ⟨(a0 % 32).toNat, by rw [and31]; omega, by omega⟩
  go_enter Try.func8, Try.ntmps8
  go_wp2_with fail
  refine (awake_calls _).mono ?_
  rintro e w0 ⟨rfl, hb0⟩
  go_wp2_with fail
  refine (new_calls true 32 _ (by omega)).mono ?_
  rintro e w1 ⟨J, bl, bh, rfl, hr1, hb1, hJ, hl, hh⟩
  have HR1 := Lib.hid hr1
  have G0 := new_good true 32 (by omega)
  clear hr1
  go_wp2_with fail
  refine (add_calls J bl bh _ 0 _ HR1.out G0.fit (by decide)).mono ?_
  rintro e w2 ⟨rfl, hr2, hm2⟩
  have HR2 : Hid (JRep w2 J bl bh (sj true 0)) := Lib.hid hr2
  have hB2 : Below w.heap.size w w2 := by
    have h1 : Below w.heap.size w w1 := hb0.trans (hb1.mono hb0.size)
    exact h1.trans (hm2.to_below h1.size (Nat.le_trans hb0.size hJ) (Nat.le_trans hb0.size hl) (Nat.le_trans hb0.size hh))
  clear hr2 G0
  go_wp2_with fail
  go_loopw [9, 10] (fun a i wr => ∃ k m : Nat, i = .int .i64 k ∧ k ≤ 3 ∧ a = .int .i64 m ∧ m = k * 2046 ∧ JRep wr J bl bh (sj true k) ∧ Mv J bl bh w2 wr) (fun _ i _ => 3 - (intOf i).toNat)
  case atStart => exact ⟨0, 0, rfl, by omega, rfl, by omega, HR2.out, Mv.refl _ _ _ _⟩
  case round =>
    obtain ⟨k, m, rfl, hk, rfl, hm, hR, hM⟩ := hrel
    have HR := Lib.hid hR
    have HM := Lib.hid hM
    clear hR hM
    by_cases hlt : k < 3
    · have hlt' : (k : Int) < 3 := by omega
      have HG := Lib.hid (sj_good true k (by omega))
      obtain ⟨x, hx, hxj⟩ : ∃ x : Nat, ((m : Int) + 2048 - 2) % 4096 = (x : Int) ∧ x = ja true (k + 1) % top true := ⟨ja true (k + 1) % top true, by show _ = (((k + 1) * 2046 % 4096 : Nat) : Int); omega, rfl⟩
      have hxw : x < 4096 := by rw [hxj]; exact Nat.mod_lt _ (by decide)
      have HXJ := Lib.hid hxj
      have HMK := Lib.hid hm
      have hml : m < 3 * 2046 := by omega
      clear hxj hm
      go_wp2_with fail
      refine (put_calls J bl bh _ _ 0 ⟨true, true, (x : Int), ⟨#[106]⟩⟩ _ HR.out HG.out (by omega) (by decide)).mono ?_
      rintro e w3 ⟨v3, rfl, ht3, hr3, hm3⟩
      rw [HXJ.out] at hr3
      have HR3 : Hid (JRep w3 J bl bh (sj true (k + 1))) := Lib.hid hr3
      clear ht3 hr3
      go_wp2_with fail
      go_roundw
      case rel => exact ⟨k + 1, m + 2046, by go_num, by omega, congrArg (Value.int IntKind.i64) (by omega), by have := HMK.out; omega, HR3.out, HM.out.trans hm3⟩
      case measure => simp [intOf]; omega
    · obtain rfl : k = 3 := by omega
      obtain rfl : m = 3 * 2046 := by omega
      have HR0 : Hid (JRep wr J bl bh (sx true 0).1) := Lib.hid HR.out
      clear hlt hk hm
      go_wp2_with fail
      go_loopw [9, 11, 12] (fun a c i wx => ∃ k m n : Nat, i = .int .i64 k ∧ k ≤ 4 + r ∧ a = .int .i64 m ∧ m = 3 * 2046 + k ∧ c = .int .i64 n ∧ n = (sx true k).2 ∧ JRep wx J bl bh (sx true k).1 ∧ Mv J bl bh w2 wx) (fun _ _ i _ => 4 + r - (intOf i).toNat)
      case atStart => exact ⟨0, 3 * 2046, 0, rfl, by omega, by go_num, by omega, rfl, rfl, HR0.out, HM.out⟩
      case round =>
        obtain ⟨k, m, n, rfl, hk, rfl, hm, rfl, hn, hR, hM⟩ := hrel
        have HR := Lib.hid hR
        have HM := Lib.hid hM
        clear hR hM
        by_cases hlt : k < 4 + r
        · have hlt' : (k : Int) < 4 + (r : Int) := by omega
          have HG := Lib.hid (sx_good true k (by omega))
          obtain ⟨x, hx, hxj⟩ : ∃ x : Nat, ((m : Int) + 1) % 4096 = (x : Int) ∧ x = xa true (k + 1) % top true := ⟨xa true (k + 1) % top true, by show _ = (((3 * 2046 + (k + 1)) % 4096 : Nat) : Int); omega, rfl⟩
          have hml : m < 3 * 2046 + 36 := by omega
          have hnl : n ≤ 35 := by have := sx_le true k (by omega); omega
          obtain ⟨hpn, hle⟩ := sx_put true k (by omega)
          have hp : JS.put (sx true k).1 0 (fx true k) = ((JS.put (sx true k).1 0 (fx true k)).1, (sx true (k + 1)).1) := rfl
          have hs : (sx true (k + 1)).2 = n + (JS.put (sx true k).1 0 (fx true k)).1.length := by rw [hn]; rfl
          obtain ⟨o, ho⟩ : ∃ o, (JS.put (sx true k).1 0 (fx true k)).1 = o := ⟨_, rfl⟩
          rw [ho] at hp hs
          unfold fx at hp hpn
          rw [← hxj] at hp hpn
          have hol : n + o.length ≤ 35 := by omega
          have HP := Lib.hid hp
          have HPN := Lib.hid hpn
          have HS := Lib.hid hs
          have HMK := Lib.hid hm
          clear hxj hm hn hle hp ho hs hpn
          go_wp2_with fail
          refine (put_step (f := ⟨true, true, (x : Int), ⟨#[120]⟩⟩) HR.out HG.out (by omega) (by decide) HPN.out HP.out).mono ?_
          rintro e w3 ⟨A3, k3, rfl, ht3, hr3, hm3⟩
          have HR3 := Lib.hid hr3
          clear ht3 hr3
          go_wp2_with (first
            | (go_at_call 14; ((with_reducible refine (num_calls _ _).mono ?_); rintro e w' ⟨rfl, rfl⟩)))
          refine ⟨?_, ?measure⟩
          (repeat apply Exists.intro)
          refine ⟨?rel, rfl⟩
          case rel => exact ⟨k + 1, m + 1, n + o.length, by go_num, by omega, by go_num, by have := HMK.out; omega, by go_num, HS.out.symm, HR3.out, HM.out.trans hm3⟩
          case measure => simp [intOf]; omega
        · obtain rfl : k = 4 + r := by omega
          obtain ⟨he, hh0⟩ := sx_end true (4 + r) (by omega) (by omega)
          rw [he] at hn
          obtain rfl : n = 4 + r := hn
          have hHH : ((sx true (4 + r)).1.held.length : Int) = 0 := by rw [hh0]; rfl
          have HH := Lib.hid hHH
          have hge : ¬ ((4 + r : Nat) : Int) < 4 + (r : Int) := by omega
          have hBf : Below w.heap.size w wr := hB2.trans (HM.out.to_below hB2.size (Nat.le_trans hb0.size hJ) (Nat.le_trans hb0.size hl) (Nat.le_trans hb0.size hh))
          clear hm hh0 he hHH
          go_wp2_with (first
            | (go_at_call 14; ((with_reducible refine (num_calls _ _).mono ?_); rintro e w' ⟨rfl, rfl⟩))
            | (go_at_call 23; ((with_reducible refine (held_calls J bl bh _ _ HR.out).mono ?_); rintro e w' ⟨rfl, rfl⟩; rw [HH.out])))
          go_ret
          exact ⟨rfl, hBf⟩

set_option maxHeartbeats 2000000 in
set_option maxRecDepth 100000 in
theorem ring_false (a0 : Int) (w : World) : Calls Try.prog 8 #[.int .i64 a0, .bool false] w fun e w' => e = .returned (.bool true) ∧ Below w.heap.size w w' := by
  obtain ⟨r, hr, hr32⟩ : ∃ r : Nat, bits .and .i64 a0 31 = (r : Int) ∧ r < 32 := by
    have h0 : 0 ≤ a0 % 32 := Int.emod_nonneg _ (by omega)
    have h1 : a0 % 32 < 32 := Int.emod_lt_of_pos _ (by omega)
    exact ⟨(a0 % 32).toNat, by rw [and31]; omega, by omega⟩
  go_enter Try.func8, Try.ntmps8
  go_wp2_with fail
  refine (awake_calls _).mono ?_
  rintro e w0 ⟨rfl, hb0⟩
  go_wp2_with fail
  refine (new_calls false 32 _ (by omega)).mono ?_
  rintro e w1 ⟨J, bl, bh, rfl, hr1, hb1, hJ, hl, hh⟩
  have HR1 := Lib.hid hr1
  have G0 := new_good false 32 (by omega)
  clear hr1
  go_wp2_with fail
  refine (add_calls J bl bh _ 0 _ HR1.out G0.fit (by decide)).mono ?_
  rintro e w2 ⟨rfl, hr2, hm2⟩
  have HR2 : Hid (JRep w2 J bl bh (sj false 0)) := Lib.hid hr2
  have hB2 : Below w.heap.size w w2 := by
    have h1 : Below w.heap.size w w1 := hb0.trans (hb1.mono hb0.size)
    exact h1.trans (hm2.to_below h1.size (Nat.le_trans hb0.size hJ) (Nat.le_trans hb0.size hl) (Nat.le_trans hb0.size hh))
  clear hr2 G0
  go_wp2_with fail
  go_loopw [9, 10] (fun a i wr => ∃ k m : Nat, i = .int .i64 k ∧ k ≤ 3 ∧ a = .int .i64 m ∧ m = k * 8388606 ∧ JRep wr J bl bh (sj false k) ∧ Mv J bl bh w2 wr) (fun _ i _ => 3 - (intOf i).toNat)
  case atStart => exact ⟨0, 0, rfl, by omega, rfl, by omega, HR2.out, Mv.refl _ _ _ _⟩
  case round =>
    obtain ⟨k, m, rfl, hk, rfl, hm, hR, hM⟩ := hrel
    have HR := Lib.hid hR
    have HM := Lib.hid hM
    clear hR hM
    by_cases hlt : k < 3
    · have hlt' : (k : Int) < 3 := by omega
      have HG := Lib.hid (sj_good false k (by omega))
      obtain ⟨x, hx, hxj⟩ : ∃ x : Nat, ((m : Int) + 8388608 - 2) % 16777216 = (x : Int) ∧ x = ja false (k + 1) % top false := ⟨ja false (k + 1) % top false, by show _ = (((k + 1) * 8388606 % 16777216 : Nat) : Int); omega, rfl⟩
      have hxw : x < 16777216 := by rw [hxj]; exact Nat.mod_lt _ (by decide)
      have HXJ := Lib.hid hxj
      have HMK := Lib.hid hm
      have hml : m < 3 * 8388606 := by omega
      clear hxj hm
      go_wp2_with fail
      refine (put_calls J bl bh _ _ 0 ⟨true, true, (x : Int), ⟨#[106]⟩⟩ _ HR.out HG.out (by omega) (by decide)).mono ?_
      rintro e w3 ⟨v3, rfl, ht3, hr3, hm3⟩
      rw [HXJ.out] at hr3
      have HR3 : Hid (JRep w3 J bl bh (sj false (k + 1))) := Lib.hid hr3
      clear ht3 hr3
      go_wp2_with fail
      go_roundw
      case rel => exact ⟨k + 1, m + 8388606, by go_num, by omega, congrArg (Value.int IntKind.i64) (by omega), by have := HMK.out; omega, HR3.out, HM.out.trans hm3⟩
      case measure => simp [intOf]; omega
    · obtain rfl : k = 3 := by omega
      obtain rfl : m = 3 * 8388606 := by omega
      have HR0 : Hid (JRep wr J bl bh (sx false 0).1) := Lib.hid HR.out
      clear hlt hk hm
      go_wp2_with fail
      go_loopw [9, 11, 12] (fun a c i wx => ∃ k m n : Nat, i = .int .i64 k ∧ k ≤ 4 + r ∧ a = .int .i64 m ∧ m = 3 * 8388606 + k ∧ c = .int .i64 n ∧ n = (sx false k).2 ∧ JRep wx J bl bh (sx false k).1 ∧ Mv J bl bh w2 wx) (fun _ _ i _ => 4 + r - (intOf i).toNat)
      case atStart => exact ⟨0, 3 * 8388606, 0, rfl, by omega, by go_num, by omega, rfl, rfl, HR0.out, HM.out⟩
      case round =>
        obtain ⟨k, m, n, rfl, hk, rfl, hm, rfl, hn, hR, hM⟩ := hrel
        have HR := Lib.hid hR
        have HM := Lib.hid hM
        clear hR hM
        by_cases hlt : k < 4 + r
        · have hlt' : (k : Int) < 4 + (r : Int) := by omega
          have HG := Lib.hid (sx_good false k (by omega))
          obtain ⟨x, hx, hxj⟩ : ∃ x : Nat, ((m : Int) + 1) % 16777216 = (x : Int) ∧ x = xa false (k + 1) % top false := ⟨xa false (k + 1) % top false, by show _ = (((3 * 8388606 + (k + 1)) % 16777216 : Nat) : Int); omega, rfl⟩
          have hml : m < 3 * 8388606 + 36 := by omega
          have hnl : n ≤ 35 := by have := sx_le false k (by omega); omega
          obtain ⟨hpn, hle⟩ := sx_put false k (by omega)
          have hp : JS.put (sx false k).1 0 (fx false k) = ((JS.put (sx false k).1 0 (fx false k)).1, (sx false (k + 1)).1) := rfl
          have hs : (sx false (k + 1)).2 = n + (JS.put (sx false k).1 0 (fx false k)).1.length := by rw [hn]; rfl
          obtain ⟨o, ho⟩ : ∃ o, (JS.put (sx false k).1 0 (fx false k)).1 = o := ⟨_, rfl⟩
          rw [ho] at hp hs
          unfold fx at hp hpn
          rw [← hxj] at hp hpn
          have hol : n + o.length ≤ 35 := by omega
          have HP := Lib.hid hp
          have HPN := Lib.hid hpn
          have HS := Lib.hid hs
          have HMK := Lib.hid hm
          clear hxj hm hn hle hp ho hs hpn
          go_wp2_with fail
          refine (put_step (f := ⟨true, true, (x : Int), ⟨#[120]⟩⟩) HR.out HG.out (by omega) (by decide) HPN.out HP.out).mono ?_
          rintro e w3 ⟨A3, k3, rfl, ht3, hr3, hm3⟩
          have HR3 := Lib.hid hr3
          clear ht3 hr3
          go_wp2_with (first
            | (go_at_call 14; ((with_reducible refine (num_calls _ _).mono ?_); rintro e w' ⟨rfl, rfl⟩)))
          refine ⟨?_, ?measure⟩
          (repeat apply Exists.intro)
          refine ⟨?rel, rfl⟩
          case rel => exact ⟨k + 1, m + 1, n + o.length, by go_num, by omega, by go_num, by have := HMK.out; omega, by go_num, HS.out.symm, HR3.out, HM.out.trans hm3⟩
          case measure => simp [intOf]; omega
        · obtain rfl : k = 4 + r := by omega
          obtain ⟨he, hh0⟩ := sx_end false (4 + r) (by omega) (by omega)
          rw [he] at hn
          obtain rfl : n = 4 + r := hn
          have hHH : ((sx false (4 + r)).1.held.length : Int) = 0 := by rw [hh0]; rfl
          have HH := Lib.hid hHH
          have hge : ¬ ((4 + r : Nat) : Int) < 4 + (r : Int) := by omega
          have hBf : Below w.heap.size w wr := hB2.trans (HM.out.to_below hB2.size (Nat.le_trans hb0.size hJ) (Nat.le_trans hb0.size hl) (Nat.le_trans hb0.size hh))
          clear hm hh0 he hHH
          go_wp2_with (first
            | (go_at_call 14; ((with_reducible refine (num_calls _ _).mono ?_); rintro e w' ⟨rfl, rfl⟩))
            | (go_at_call 23; ((with_reducible refine (held_calls J bl bh _ _ HR.out).mono ?_); rintro e w' ⟨rfl, rfl⟩; rw [HH.out])))
          go_ret
          exact ⟨rfl, hBf⟩

theorem ring_walk (a0 : Int) (b : Bool) (w : World) : Calls Try.prog 8 #[.int .i64 a0, .bool b] w fun e w' => e = .returned (.bool true) ∧ Below w.heap.size w w' := by
  cases b
  · exact ring_false a0 w
  · exact ring_true a0 w

end Go.Proofs.Ytcpehjdnmhkcpaa.LRing
