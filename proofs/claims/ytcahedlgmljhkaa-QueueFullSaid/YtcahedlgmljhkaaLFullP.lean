/- QueueFull, as plain data. -/
import Derived.Test.YtcahedlgmljhkaaQK
namespace Go.Proofs.Ytcahedlgmljhkaa.LFullP
open Go Go.RowKit Go.Proofs.Ytcahedlgmljhkaa.Plain Go.Proofs.Ytcahedlgmljhkaa.QP Go.Proofs.Ytcahedlgmljhkaa.QG

def A8 : ByteArray := ⟨#[97, 98, 99, 100, 101, 102, 103, 104]⟩
def fs (z : Nat) : Nat → QS
  | 0 => (QS.new z false).add 0
  | i + 1 => (fs z i).sub A8
def ft (z : Nat) : Nat → QS
  | 0 => fs z 64
  | i + 1 => (ft z i).take 0

def chk1 (z : Nat) : Bool := (List.range 64).all fun i => (fs z i).subNum A8 == 0 && (fs z (i + 1)).len == i + 1
def chk2 (z : Nat) : Bool := (List.range ((7 + z) / z)).all fun i => (ft z i).subNum ⟨#[121]⟩ == 2001 && (ft z i).len == 64
def chk3 (z : Nat) : Bool := (fs z 64).subNum ⟨#[120]⟩ == 2001 && ((ft z ((7 + z) / z)).subNum ⟨#[122]⟩ == 0 && ((ft z ((7 + z) / z)).sub ⟨#[122]⟩).subNum ⟨#[]⟩ == 2000)
set_option maxRecDepth 100000
theorem all1 : (List.range 9).all (fun z => z == 0 || chk1 z) = true := by decide +kernel
theorem all2 : (List.range 9).all (fun z => z == 0 || chk2 z) = true := by decide +kernel
theorem all3 : (List.range 9).all (fun z => z == 0 || chk3 z) = true := by decide +kernel

theorem at_all {p : Nat → Bool} (h : (List.range 9).all (fun z => z == 0 || p z) = true) {z : Nat} (h0 : 1 ≤ z) (h1 : z ≤ 8) : p z = true := by
  have := List.all_eq_true.1 h z (List.mem_range.2 (by omega))
  simp at this
  rcases this with h2 | h2
  · omega
  · exact h2

theorem sub_ok {z i : Nat} (h0 : 1 ≤ z) (h1 : z ≤ 8) (hi : i < 64) : (fs z i).subNum A8 = 0 ∧ (fs z (i + 1)).len = i + 1 := by
  have := List.all_eq_true.1 (at_all all1 h0 h1) i (List.mem_range.2 hi)
  simpa using this
theorem full_at {z i : Nat} (h0 : 1 ≤ z) (h1 : z ≤ 8) (hi : i < (7 + z) / z) : (ft z i).subNum ⟨#[121]⟩ = 2001 ∧ (ft z i).len = 64 := by
  have := List.all_eq_true.1 (at_all all2 h0 h1) i (List.mem_range.2 hi)
  simpa using this
theorem last_at {z : Nat} (h0 : 1 ≤ z) (h1 : z ≤ 8) : (fs z 64).subNum ⟨#[120]⟩ = 2001 ∧ (ft z ((7 + z) / z)).subNum ⟨#[122]⟩ = 0 ∧ ((ft z ((7 + z) / z)).sub ⟨#[122]⟩).subNum ⟨#[]⟩ = 2000 := by
  have := at_all all3 h0 h1
  unfold chk3 at this
  simpa using this

theorem fs_good {z : Nat} (h0 : 1 ≤ z) (h1 : z ≤ 8) : ∀ i, QG.Good (fs z i) 0
  | 0 => add_good (new_good z false h0 (by omega)) (by decide)
  | i + 1 => sub_good (fs_good h0 h1 i) _
theorem ft_good {z : Nat} (h0 : 1 ≤ z) (h1 : z ≤ 8) : ∀ i, QG.Good (ft z i) i
  | 0 => fs_good h0 h1 64
  | i + 1 => take_good (ft_good h0 h1 i)

theorem refused {s : QS} {t : ByteArray} (h : s.subNum t ≠ 0) : s.sub t = s := by unfold QS.sub; rw [if_neg h]

end Go.Proofs.Ytcahedlgmljhkaa.LFullP
