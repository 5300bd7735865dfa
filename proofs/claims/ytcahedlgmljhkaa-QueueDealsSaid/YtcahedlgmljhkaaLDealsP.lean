/- QueueDeals, as plain data. -/
import Derived.Test.YtcahedlgmljhkaaQK
namespace Go.Proofs.Ytcahedlgmljhkaa.LDealsP
open Go Go.RowKit Go.Proofs.Ytcahedlgmljhkaa.Plain Go.Proofs.Ytcahedlgmljhkaa.QP Go.Proofs.Ytcahedlgmljhkaa.QG

/-- So many links are there, the last first. -/
def adds (k : Nat) : Nat → QS
  | 0 => QS.new 1 true
  | t + 1 => (adds k t).add (10 * ((k : Int) - 1 - t))
def zb (m : Nat) : ByteArray := strOfNums (List.replicate m 0)
def subd (k m : Nat) : QS := (adds k k).sub (zb m)
def took (k m f : Nat) : QS := (subd k m).take (10 * (f : Int))

def chk (k m f : Nat) : Bool := (adds k k).subNum (zb m) == 0 && ((subd k m).takeNum (10 * (f : Int)) == 0 && ((List.range k).all (fun i => (took k m f).many (10 * (i : Int)) + (if i = f then 1 else 0) == m / k + (if (i + k - f) % k < m % k then 1 else 0)) && (took k m f).len == (if 1 < m then 1 else 0)))
set_option maxRecDepth 100000
theorem all : (List.range 5).all (fun k => k == 0 || (List.range 33).all fun m => m == 0 || (List.range k).all fun f => chk k m f) = true := by decide +kernel

variable {k m f : Nat}
theorem chk_at (hk : 1 ≤ k) (hk4 : k ≤ 4) (hm : 1 ≤ m) (hm32 : m ≤ 32) (hf : f < k) : chk k m f = true := by
  have h1 := List.all_eq_true.1 all k (List.mem_range.2 (by omega))
  simp only [Bool.or_eq_true, beq_iff_eq] at h1
  rcases h1 with h1 | h1
  · omega
  · have h2 := List.all_eq_true.1 h1 m (List.mem_range.2 (by omega))
    simp only [Bool.or_eq_true, beq_iff_eq] at h2
    rcases h2 with h2 | h2
    · omega
    · exact List.all_eq_true.1 h2 f (List.mem_range.2 hf)

theorem facts (hk : 1 ≤ k) (hk4 : k ≤ 4) (hm : 1 ≤ m) (hm32 : m ≤ 32) (hf : f < k) :
    (adds k k).subNum (zb m) = 0 ∧ (subd k m).takeNum (10 * (f : Int)) = 0 ∧ (∀ i, i < k → (took k m f).many (10 * (i : Int)) + (if i = f then 1 else 0) = m / k + (if (i + k - f) % k < m % k then 1 else 0)) ∧ (took k m f).len = (if 1 < m then 1 else 0) := by
  have h := chk_at hk hk4 hm hm32 hf
  unfold chk at h
  simp only [Bool.and_eq_true, beq_iff_eq] at h
  refine ⟨h.1, h.2.1, fun i hi => ?_, h.2.2.2⟩
  have := List.all_eq_true.1 h.2.2.1 i (List.mem_range.2 hi)
  simpa using this

theorem adds_good (hk4 : k ≤ 4) : ∀ t, t ≤ k → QG.Good (adds k t) 0
  | 0, _ => new_good 1 true (by omega) (by omega)
  | t + 1, h => add_good (adds_good hk4 t (by omega)) (by omega)
theorem subd_good (hk4 : k ≤ 4) (m : Nat) : QG.Good (subd k m) 0 := sub_good (adds_good hk4 k (Nat.le_refl _)) _

end Go.Proofs.Ytcahedlgmljhkaa.LDealsP
