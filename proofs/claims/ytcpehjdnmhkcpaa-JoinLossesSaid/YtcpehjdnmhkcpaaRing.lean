/- The ring of numbers: offset, signed, at. -/
import Derived.Test.YtcpehjdnmhkcpaaProg
import Derived.Test.YtcpehjdnmhkcpaaMem
import Derived.Test.YtcpehjdnmhkcpaaPlain
import Derived.Deep.QuietTactic
import Derived.BigQuiet
import Derived.KernelRfl
namespace Go.Proofs.Ytcpehjdnmhkcpaa.Ring
open Go Go.RowKit Go.Proofs.Ytcpehjdnmhkcpaa.Mem Go.Proofs.Ytcpehjdnmhkcpaa.Plain

/-- A ring's size. -/
def Size (s : Int) : Prop := s = 4096 ∨ s = 16777216

/-- A ring at block J: its size, its next number. -/
structure RingAt (w : World) (J : Nat) (size next : Int) : Prop where
  c0 : w.cell? ⟨J, 0, none⟩ = some (.int .i64 size)
  c1 : w.cell? ⟨J, 1, none⟩ = some (.int .i64 next)

def offset (size next x : Int) : Int := (x - next) % size
def at_ (size next o : Int) : Int := (next + o) % size
def signed (size next x : Int) : Int := if size / 2 ≤ offset size next x then offset size next x - size else offset size next x

theorem offset_in {size next x : Int} (hs : Size size) : 0 ≤ offset size next x ∧ offset size next x < size := by
  unfold Size at hs
  exact ⟨Int.emod_nonneg _ (by omega), Int.emod_lt_of_pos _ (by omega)⟩

theorem at_in {size next x : Int} (hs : Size size) : 0 ≤ at_ size next x ∧ at_ size next x < size := by
  unfold Size at hs
  exact ⟨Int.emod_nonneg _ (by omega), Int.emod_lt_of_pos _ (by omega)⟩

theorem offset_eq {size next x : Int} (hs : Size size) : ((x - next).tmod size + size).tmod size = offset size next x ∧ -size < (x - next).tmod size ∧ (x - next).tmod size < size := by
  unfold offset
  have key : ∀ s : Int, 0 < s → (x - next) = s * (x - next).tdiv s + (x - next).tmod s ∧ -s < (x - next).tmod s ∧ (x - next).tmod s < s := fun s h =>
    ⟨(Int.mul_tdiv_add_tmod _ _).symm, Int.lt_tmod_of_pos _ h, Int.tmod_lt_of_pos _ h⟩
  rcases hs with rfl | rfl
  · obtain ⟨h1, h2, h3⟩ := key 4096 (by omega)
    refine ⟨?_, h2, h3⟩
    rw [Int.tmod_eq_emod_of_nonneg (by omega)]
    omega
  · obtain ⟨h1, h2, h3⟩ := key 16777216 (by omega)
    refine ⟨?_, h2, h3⟩
    rw [Int.tmod_eq_emod_of_nonneg (by omega)]
    omega

set_option maxRecDepth 100000 in
theorem offset_calls (J : Nat) (size next x : Int) (w : World) (h : RingAt w J size next) (hs : Size size) (hn : 0 ≤ next ∧ next < size) (hx : -1 ≤ x ∧ x < 16777216) :
    Calls Try.prog 33 #[.pointer (some ⟨J, 0, none⟩), .int .i64 x] w fun e w' => e = .returned (.int .i64 (offset size next x)) ∧ ∃ n, w' = w.drewN n := by
  obtain ⟨c0, c1⟩ := h
  obtain ⟨e1, e2, e3⟩ := offset_eq (next := next) (x := x) hs
  have hs' : 4096 ≤ size ∧ size ≤ 16777216 := by unfold Size at hs; omega
  go_enter Try.func33, Try.ntmps33
  go_wp2
  go_quiet (fail)
  go_wp2
  go_ret
  exact ⟨rfl, _, rfl⟩

set_option maxRecDepth 100000 in
theorem at_calls (J : Nat) (size next o : Int) (w : World) (h : RingAt w J size next) (hs : Size size) (hn : 0 ≤ next ∧ next < size) (ho : 0 ≤ o ∧ o ≤ 16777217) :
    Calls Try.prog 44 #[.pointer (some ⟨J, 0, none⟩), .int .i64 o] w fun e w' => e = .returned (.int .i64 (at_ size next o)) ∧ ∃ n, w' = w.drewN n := by
  obtain ⟨c0, c1⟩ := h
  have e1 : (next + o).tmod size = at_ size next o := Int.tmod_eq_emod_of_nonneg (by omega)
  have e2 : (next + o) % size = at_ size next o := rfl
  have hs' : 4096 ≤ size ∧ size ≤ 16777216 := by unfold Size at hs; omega
  go_enter Try.func44, Try.ntmps44
  go_wp2
  go_quiet (fail)
  go_wp2
  go_ret
  exact ⟨rfl, _, rfl⟩

set_option maxRecDepth 100000 in
theorem signed_calls (J : Nat) (size next x : Int) (w : World) (h : RingAt w J size next) (hs : Size size) (hn : 0 ≤ next ∧ next < size) (hx : -1 ≤ x ∧ x < 16777216) :
    Calls Try.prog 50 #[.pointer (some ⟨J, 0, none⟩), .int .i64 x] w fun e w' => e = .returned (.int .i64 (signed size next x)) ∧ ∃ n, w' = w.drewN n := by
  have hc := offset_calls J size next x w h hs hn hx
  obtain ⟨c0, c1⟩ := h
  have ho := offset_in (next := next) (x := x) hs
  have hs' : 4096 ≤ size ∧ size ≤ 16777216 := by unfold Size at hs; omega
  by_cases hb : size / 2 ≤ offset size next x
  · have e1 : signed size next x = offset size next x - size := by unfold signed; rw [if_pos hb]
    rw [e1]
    generalize offset size next x = o at *
    go_enter Try.func50, Try.ntmps50
    go_wp2_with (go_at_call 33; refine hc.mono ?_; rintro e w' ⟨rfl, n, rfl⟩)
    go_ret
    exact ⟨rfl, _, rfl⟩
  · have e1 : signed size next x = offset size next x := by unfold signed; rw [if_neg hb]
    rw [e1]
    generalize offset size next x = o at *
    go_enter Try.func50, Try.ntmps50
    go_wp2_with (go_at_call 33; refine hc.mono ?_; rintro e w' ⟨rfl, n, rfl⟩)
    go_ret
    exact ⟨rfl, _, rfl⟩

end Go.Proofs.Ytcpehjdnmhkcpaa.Ring
