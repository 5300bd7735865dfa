/- What a method leaves alone: all blocks but the reassembly's three. -/
import Derived.Test.YtcpehjdnmhkcpaaJoinB
namespace Go.Proofs.Ytcpehjdnmhkcpaa.Mv
open Go Go.RowKit Go.Proofs.Ytcpehjdnmhkcpaa.Mem Go.Proofs.Ytcpehjdnmhkcpaa.IMap Go.Proofs.Ytcpehjdnmhkcpaa.JoinP Go.Proofs.Ytcpehjdnmhkcpaa.JoinA

/-- w' is w but for new blocks and the blocks J, bl, bh. -/
structure Mv (J bl bh : Nat) (w w' : World) : Prop where
  os : w'.os = w.os
  tape : w'.tape = w.tape
  output : w'.output = w.output
  size : w.heap.size ≤ w'.heap.size
  block : ∀ k, k < w.heap.size → k ≠ J → k ≠ bl → k ≠ bh → w'.heap[k]? = w.heap[k]?

variable {J bl bh : Nat} {w w' w'' : World}

theorem Mv.refl (J bl bh : Nat) (w : World) : Mv J bl bh w w := ⟨rfl, rfl, rfl, Nat.le_refl _, fun _ _ _ _ _ => rfl⟩

theorem Mv.trans (h : Mv J bl bh w w') (k : Mv J bl bh w' w'') : Mv J bl bh w w'' :=
  ⟨k.os.trans h.os, k.tape.trans h.tape, k.output.trans h.output, Nat.le_trans h.size k.size, fun i hi h1 h2 h3 => (k.block i (Nat.lt_of_lt_of_le hi h.size) h1 h2 h3).trans (h.block i hi h1 h2 h3)⟩

theorem Mv.of_below (h : Below w.heap.size w w') : Mv J bl bh w w' := ⟨h.os, h.tape, h.output, h.size, fun i hi _ _ _ => h.block i hi⟩

theorem Mv.below (h : Mv J bl bh w w') (k : Below w'.heap.size w' w'') : Mv J bl bh w w'' := h.trans (.of_below k)

/-- A step that has written one of the three, or a block that is new since w. -/
theorem Mv.grown {row : Option Nat} (h : Mv J bl bh w w') (g : w'.grownBy w'' row) (hr : ∀ k, row = some k → k = J ∨ k = bl ∨ k = bh ∨ w.heap.size ≤ k) : Mv J bl bh w w'' :=
  ⟨g.os.trans h.os, g.tape.trans h.tape, g.output.trans h.output, Nat.le_trans h.size g.size, fun i hi h1 h2 h3 => (g.block i (Nat.lt_of_lt_of_le hi h.size) (fun e => by
    rcases hr i e.symm with e | e | e | e
    · exact h1 e
    · exact h2 e
    · exact h3 e
    · omega)).trans (h.block i hi h1 h2 h3)⟩

theorem Mv.set (h : Mv J bl bh w w') (j : Nat) (v : Value) : Mv J bl bh w (w'.setCell ⟨J, j, none⟩ v) := h.grown (grown_set (grown_refl w' (some J)) j v) (fun k hk => by cases hk; exact .inl rfl)

theorem Mv.drewN (h : Mv J bl bh w w') (n : Nat) : Mv J bl bh w (w'.drewN n) := h.below (below_drewN (Below.refl _ _) n)

/-- Whoever lives below a bound that the three are not below sees nothing. -/
theorem Mv.to_below {B : Nat} (h : Mv J bl bh w w') (hB : B ≤ w.heap.size) (h1 : B ≤ J) (h2 : B ≤ bl) (h3 : B ≤ bh) : Below B w w' :=
  ⟨h.os, h.tape, h.output, h.size, fun k hk => h.block k (by omega) (by omega) (by omega) (by omega)⟩

end Go.Proofs.Ytcpehjdnmhkcpaa.Mv
