/- JoinLosses, helpers of the walk. -/
import Derived.Test.YtcpehjdnmhkcpaaLLossR
import Derived.Test.YtcpehjdnmhkcpaaLGapP
/- JoinLosses: the contract of cuts. -/
namespace Go.Proofs.Ytcpehjdnmhkcpaa.LLossC
open Go Go.RowKit Go.Maps Go.Proofs.Ytcpehjdnmhkcpaa.Plain Go.Proofs.Ytcpehjdnmhkcpaa.JoinP Go.Proofs.Ytcpehjdnmhkcpaa.LLossP Go.Proofs.Ytcpehjdnmhkcpaa.LLossQ Go.Proofs.Ytcpehjdnmhkcpaa.LLossR
open Go.Proofs.Ytcpehjdnmhkcpaa.PJoinLosses (S33 z33 k33 at_T33 rd_T33 withylaw19_cuts.calls)
open Go.Proofs.YtcpehjdnmhkcpaaW.PrintWords

/-- What cuts answers, with what is read of it. -/
theorem cuts_calls (A0 : Option Addr) (c0 : Nat) (l0 : List ByteArray) (a1 : Int) (w : World) (hr0 : Kd.C Kd.string w A0 l0.length l0) (hc0 : l0.length ≤ c0) :
    Calls Try.prog 26 #[.slice A0 l0.length c0, .int .i64 a1, .int .i64 0, .bool true] w fun e w' => ∃ L want A k B k2, e = .returned (.tuple #[.slice A L.length k, .slice B want.length k2]) ∧ L.length ≤ 480 ∧ LLossR.Good L want ∧
      (∀ i, i < L.length → ∃ ad : Addr, A = some ad ∧ w'.cell? (ad.add (i * 4)) = some (.bool (fsOf L i).b) ∧ w'.cell? ⟨(ad.add (i * 4)).block, (ad.add (i * 4)).off + 1, none⟩ = some (.bool (fsOf L i).e) ∧ w'.cell? ⟨(ad.add (i * 4)).block, (ad.add (i * 4)).off + 2, none⟩ = some (.int .i64 (fsOf L i).q) ∧ w'.cell? ⟨(ad.add (i * 4)).block, (ad.add (i * 4)).off + 3, none⟩ = some (.string (fsOf L i).d)) ∧
      (∀ i t, want[i]? = some t → ∃ ad : Addr, B = some ad ∧ w'.cell? (ad.add i) = some (.string t)) ∧ Below w.heap.size w w' := by
  obtain ⟨L, want, hf, hL, hG⟩ := cuts_f l0 a1
  refine (withylaw19_cuts.calls 96 A0 c0 l0 a1 0 true L want w hr0 hc0 hf).mono ?_
  rintro e w' ⟨v, v2, rfl, hR, hR2, hb⟩
  obtain ⟨A, k, rfl⟩ := Kd.R_slice hR
  obtain ⟨B, k2, rfl⟩ := Kd.R_slice hR2
  have hC := (Kd.R_reads' hR).2.2
  have hC2 := (Kd.R_reads' hR2).2.2
  refine ⟨L, want, A, k, B, k2, rfl, hL, hG, fun i hi => ?_, fun i t ht => ?_, hb⟩
  · obtain ⟨ad, e, h0, h1, h2, h3⟩ := at_T33 hC (i : Int) (by omega) (by omega)
    exact ⟨ad, e, h0, h1, h2, h3⟩
  · have hi := (List.getElem?_eq_some_iff.1 ht).1
    obtain ⟨ad, e, h⟩ := Kd.at_string hC2 (i : Int) (by omega) (by omega)
    refine ⟨ad, e, ?_⟩
    have hrd : rdOf ByteArray.empty want (i : Int) = t := by
      unfold rdOf
      simp [List.getD_eq_getElem?_getD, ht]
    rw [hrd] at h
    exact h

end Go.Proofs.Ytcpehjdnmhkcpaa.LLossC
/- JoinLosses: the wires, an array of four rows of fragments. -/
namespace Go.Proofs.Ytcpehjdnmhkcpaa.LLossW
open Go Go.RowKit Go.Maps Go.Proofs.Ytcpehjdnmhkcpaa.Mem Go.Proofs.Ytcpehjdnmhkcpaa.Plain Go.Proofs.Ytcpehjdnmhkcpaa.JoinP Go.Proofs.Ytcpehjdnmhkcpaa.RowAt

/-- The cells of a fragment. -/
def cellsOf (f : Fr) : List Value := [.bool f.b, .bool f.e, .int .i64 f.q, .string f.d]
def flat (fs : Nat → Fr) (qs : List Nat) : List Value := qs.flatMap fun q => cellsOf (fs q)
theorem flat_len (fs : Nat → Fr) : ∀ qs : List Nat, (flat fs qs).length = qs.length * 4
  | [] => rfl
  | q :: qs => by
    have := flat_len fs qs
    show (cellsOf (fs q) ++ flat fs qs).length = _
    rw [List.length_append, this]
    simp only [cellsOf, List.length_cons, List.length_nil]
    omega
theorem flat_add (fs : Nat → Fr) (qs : List Nat) (q : Nat) : flat fs (qs ++ [q]) = flat fs qs ++ cellsOf (fs q) := by
  unfold flat
  simp

/-- The wires: an array of four rows of fragments, in blocks of their own. -/
structure Wires (fs : Nat → Fr) (N k B : Nat) (w : World) (Wb : Nat) (vs : Array Value) (qs : Nat → List Nat) : Prop where
  blk : Blk w Wb vs 53
  four : vs.size = 4
  row : ∀ j, j < 4 → RowAt w B 33 4 (vs.getD j undef) (qs j).length (flat fs (qs j))
  few : ∀ j, (qs j).length ≤ k
  mem : ∀ j q, q ∈ qs j → q < N
  apart : ∀ i j, i < 4 → j < 4 → i ≠ j → ∀ b, (vs.getD i undef).ownBlock = some b → (vs.getD j undef).ownBlock ≠ some b

theorem getD_set {vs : Array Value} {d j : Nat} {v : Value} (hd : d < vs.size) : (vs.setIfInBounds d v).getD j undef = if j = d then v else vs.getD j undef := by
  rw [Array.getD_eq_getD_getElem?, Array.getD_eq_getD_getElem?, Array.getElem?_setIfInBounds]
  by_cases h : d = j
  · subst h; simp [hd]
  · rw [if_neg h, if_neg (fun e => h e.symm)]

/-- A fragment more on wire d. -/
theorem Wires.more {fs : Nat → Fr} {N k B Wb d : Nat} {w W w7 : World} {vs : Array Value} {qs : Nat → List Nat} {v7 : Value} (H : Wires fs N k B w Wb vs qs) (hd : d < 4) (hk : k < N) (hB : Wb < B) (hb : w.grownBy W none)
    (hr : RowAt w7 B 33 4 v7 ((qs d).length + 1) (flat fs (qs d) ++ cellsOf (fs k))) (hg : W.grownBy w7 (vs.getD d undef).ownBlock) (ho : v7.ownBlock = (vs.getD d undef).ownBlock ∨ v7.ownBlock = some W.heap.size) :
    Wires fs N (k + 1) B (w7.setCell ⟨Wb, d, none⟩ v7) Wb (vs.setIfInBounds d v7) (fun j => if j = d then qs d ++ [k] else qs j) := by
  have h4 := H.four
  have hds : d < vs.size := by omega
  have hW : some Wb ≠ (vs.getD d undef).ownBlock := fun e => by have := ((H.row d hd).lt _ e.symm).1; omega
  have hset : ∀ {n : Nat} {v : Value} {xs : List Value}, RowAt w7 B 33 4 v n xs → RowAt (w7.setCell ⟨Wb, d, none⟩ v7) B 33 4 v n xs := fun h => h.block fun b hb => Below.heap_setCell _ _ _ _ (by have := (h.lt b hb).1; show b ≠ Wb; omega)
  refine ⟨((H.blk.grown hb (by simp)).grown hg hW).set d v7, by simp [h4], fun j hj => ?_, fun j => ?_, fun j q hq => ?_, fun i j hi hj hij b hbo => ?_⟩
  · rw [getD_set hds]
    by_cases e : j = d
    · subst e
      rw [if_pos rfl, if_pos rfl, flat_add, List.length_append]
      exact hset hr
    · rw [if_neg e, if_neg e]
      refine hset (((H.row j hj).kept hb (by simp)).kept hg (fun b hbo h => ?_))
      exact H.apart j d hj hd e b hbo h.symm
  · by_cases e : j = d
    · simp only [if_pos e, List.length_append, List.length_cons, List.length_nil]
      have := H.few d
      omega
    · simp only [if_neg e]
      have := H.few j
      omega
  · by_cases e : j = d
    · simp only [if_pos e] at hq
      rcases List.mem_append.1 hq with h | h
      · exact H.mem d q h
      · simp at h; omega
    · simp only [if_neg e] at hq
      exact H.mem j q hq
  · rw [getD_set hds] at hbo ⊢
    have hlt : ∀ j, j < 4 → ∀ b, (vs.getD j undef).ownBlock = some b → b < W.heap.size := fun j hj b h => Nat.lt_of_lt_of_le ((H.row j hj).lt b h).2 hb.size
    by_cases e : i = d
    · rw [if_pos e] at hbo
      rw [if_neg (fun h => hij (e.trans h.symm))]
      intro hj2
      rcases ho with h | h
      · rw [h] at hbo
        exact H.apart j d hj hd (fun x => hij (e.trans x.symm)) b hj2 hbo
      · rw [h] at hbo
        have := hlt j hj b hj2
        have := Option.some.inj hbo
        omega
    · rw [if_neg e] at hbo
      by_cases e2 : j = d
      · rw [if_pos e2]
        intro hj2
        rcases ho with h | h
        · rw [h] at hj2
          exact H.apart i d hi hd e b hbo hj2
        · rw [h] at hj2
          have := hlt i hi b hbo
          have := Option.some.inj hj2
          omega
      · rw [if_neg e2]
        exact H.apart i j hi hj hij b hbo

end Go.Proofs.Ytcpehjdnmhkcpaa.LLossW
/- JoinLosses: the wires when they are read; what the put leaves. -/
namespace Go.Proofs.Ytcpehjdnmhkcpaa.LLossV
open Go Go.RowKit Go.Maps Go.Proofs.Ytcpehjdnmhkcpaa.Mem Go.Proofs.Ytcpehjdnmhkcpaa.Plain Go.Proofs.Ytcpehjdnmhkcpaa.Ring Go.Proofs.Ytcpehjdnmhkcpaa.IMap Go.Proofs.Ytcpehjdnmhkcpaa.JoinP Go.Proofs.Ytcpehjdnmhkcpaa.JoinA Go.Proofs.Ytcpehjdnmhkcpaa.Mv Go.Proofs.Ytcpehjdnmhkcpaa.RowAt Go.Proofs.Ytcpehjdnmhkcpaa.JoinR Go.Proofs.Ytcpehjdnmhkcpaa.JoinG Go.Proofs.Ytcpehjdnmhkcpaa.JoinH Go.Proofs.Ytcpehjdnmhkcpaa.JoinI Go.Proofs.Ytcpehjdnmhkcpaa.JoinK Go.Proofs.Ytcpehjdnmhkcpaa.LLossP Go.Proofs.Ytcpehjdnmhkcpaa.LLossW

variable {fs : Nat → Fr} {N k B Wb d : Nat} {w w' w7 w8 : World} {vs : Array Value} {qs : Nat → List Nat}

theorem Wires.skip (H : Wires fs N k B w Wb vs qs) : Wires fs N (k + 1) B w Wb vs qs :=
  ⟨H.blk, H.four, H.row, fun j => Nat.le_succ_of_le (H.few j), H.mem, H.apart⟩

theorem Wires.block (H : Wires fs N k B w Wb vs qs) (h1 : w'.heap[Wb]? = w.heap[Wb]?) (h2 : ∀ j, j < 4 → ∀ b, (vs.getD j undef).ownBlock = some b → w'.heap[b]? = w.heap[b]?) : Wires fs N k B w' Wb vs qs :=
  ⟨h1.trans H.blk, H.four, fun j hj => (H.row j hj).block (h2 j hj), H.few, H.mem, H.apart⟩

theorem grown_new {w w1 w2 : World} {X : Nat} (h1 : w.grownBy w1 none) (h2 : w1.grownBy w2 (some X)) (hX : w.heap.size ≤ X) : w.grownBy w2 none :=
  ⟨h2.os.trans h1.os, h2.tape.trans h1.tape, h2.output.trans h1.output, Nat.le_trans h1.size h2.size, fun i hi hne => (h2.block i (Nat.lt_of_lt_of_le hi h1.size) (fun e => by have := Option.some.inj e; omega)).trans (h1.block i hi hne)⟩

/-- Wire d is another row, in a block that is new. -/
theorem Wires.put (H : Wires fs N k B w7 Wb vs qs) (hd : d < 4) (hB : Wb < B) {q' : List Nat} {v8 : Value} (g : w7.grownBy w8 none) (hr : RowAt w8 B 33 4 v8 q'.length (flat fs q')) (ho : ∀ b, v8.ownBlock = some b → w7.heap.size ≤ b) (hl : q'.length ≤ k) (hm : ∀ q, q ∈ q' → q < N) :
    Wires fs N k B (w8.setCell ⟨Wb, d, none⟩ v8) Wb (vs.setIfInBounds d v8) (fun j => if j = d then q' else qs j) := by
  have h4 := H.four
  have hds : d < vs.size := by omega
  have hset : ∀ {n : Nat} {v : Value} {xs : List Value}, RowAt w8 B 33 4 v n xs → RowAt (w8.setCell ⟨Wb, d, none⟩ v8) B 33 4 v n xs := fun h => h.block fun b hb => Below.heap_setCell _ _ _ _ (by have := (h.lt b hb).1; show b ≠ Wb; omega)
  refine ⟨(H.blk.grown g (by simp)).set d v8, by simp [h4], fun j hj => ?_, fun j => ?_, fun j q hq => ?_, fun i j hi hj hij b hbo => ?_⟩
  · rw [getD_set hds]
    by_cases e : j = d
    · subst e
      rw [if_pos rfl, if_pos rfl]
      exact hset hr
    · rw [if_neg e, if_neg e]
      exact hset ((H.row j hj).kept g (by simp))
  · by_cases e : j = d
    · simp only [if_pos e]; exact hl
    · simp only [if_neg e]; exact H.few j
  · by_cases e : j = d
    · simp only [if_pos e] at hq; exact hm q hq
    · simp only [if_neg e] at hq; exact H.mem j q hq
  · rw [getD_set hds] at hbo ⊢
    by_cases e : i = d
    · rw [if_pos e] at hbo
      rw [if_neg (fun h => hij (e.trans h.symm))]
      intro hj2
      have := ho b hbo
      have := ((H.row j hj).lt b hj2).2
      omega
    · rw [if_neg e] at hbo
      by_cases e2 : j = d
      · rw [if_pos e2]
        intro hj2
        have := ho b hj2
        have := ((H.row i hi).lt b hbo).2
        omega
      · rw [if_neg e2]
        exact H.apart i j hi hj hij b hbo

/-- A text that is read lies in none of the reassembly's blocks. -/
theorem str_far {J bl bh : Nat} {s : JS} {a : Addr} {t : ByteArray} (h : JRep w J bl bh s) (hc : w.cell? a = some (.string t)) : a.block ≠ J ∧ a.block ≠ bl ∧ a.block ≠ bh := by
  refine ⟨fun e => ?_, fun e => ?_, fun e => ?_⟩
  · have hb := h.blk
    unfold Blk at hb
    rw [← e] at hb
    unfold World.cell? at hc
    rw [hb] at hc
    simp only at hc
    split at hc
    · cases hc
    · rename_i hz
      have h7 : (cells s bl bh).size = 7 := rfl
      obtain ⟨hlt, he⟩ := Array.getElem?_eq_some_iff.1 hc
      have : a.off = 0 ∨ a.off = 1 ∨ a.off = 2 ∨ a.off = 3 ∨ a.off = 4 ∨ a.off = 5 ∨ a.off = 6 := by omega
      rcases this with h0 | h0 | h0 | h0 | h0 | h0 | h0 <;> simp [h0, cells] at he
  · obtain ⟨es, cl, ho, _⟩ := h.links.obj
    rw [← e] at ho
    unfold World.cell? at hc
    rw [ho] at hc
    simp at hc
  · obtain ⟨es, cl, ho, _⟩ := h.held.obj
    rw [← e] at ho
    unfold World.cell? at hc
    rw [ho] at hc
    simp at hc

theorem put_most {s : JS} {l : Int} {f : Fr} : (JS.put s l f).2.most = s.most := by
  unfold JS.put
  split
  · unfold JS.all
    rw [run_most]
    unfold JS.take1
    split <;> rfl
  · rfl

theorem row_drop {B e sz g off nn cap p : Nat} {xs : List Value} (h : RowAt w B e sz (.slice (some ⟨g, off, none⟩) nn cap) nn xs) (hp : p ≤ nn) : RowAt w B e sz (.slice (some ⟨g, off + p * sz, none⟩) (nn - p) (cap - p)) (nn - p) (xs.drop (p * sz)) := by
  have h1 := h.1
  refine ⟨by rw [List.length_drop, h1, Nat.sub_mul], ?_⟩
  rcases h.2 with ⟨h0, _⟩ | ⟨g', off', cap', cur, h0, hb, hg, hnc, hcm, hcs, ht⟩
  · cases h0
  · simp only [Value.slice.injEq, Option.some.injEq, Addr.mk.injEq] at h0
    obtain ⟨⟨rfl, rfl, _⟩, _, rfl⟩ := h0
    have h2 : (cap - p) * sz + p * sz = cap * sz := by rw [← Nat.add_mul, Nat.sub_add_cancel (by omega)]
    refine .inr ⟨g, off + p * sz, cap - p, cur, rfl, hb, hg, by omega, by omega, by omega, ?_⟩
    rw [← ht, List.drop_take, List.drop_drop, Nat.sub_mul]
theorem row_nil {B e sz g off nn cap c : Nat} {xs : List Value} (h : RowAt w B e sz (.slice (some ⟨g, off, none⟩) nn cap) nn xs) (hc : c ≤ cap) : RowAt w B e sz (.slice (some ⟨g, off, none⟩) 0 c) 0 [] := by
  refine ⟨by simp, ?_⟩
  rcases h.2 with ⟨h0, _⟩ | ⟨g', off', cap', cur, h0, hb, hg, hnc, hcm, hcs, ht⟩
  · cases h0
  · simp only [Value.slice.injEq, Option.some.injEq, Addr.mk.injEq] at h0
    obtain ⟨⟨rfl, rfl, _⟩, _, rfl⟩ := h0
    have h2 : c * sz ≤ cap * sz := Nat.mul_le_mul_right _ hc
    exact .inr ⟨g, off, c, cur, rfl, hb, hg, by omega, by omega, by omega, by simp⟩
theorem row_some {W : World} {n B c sz : Nat} {e : TypeId} {Ad : Option Addr} {xs : List Value} (h : RowAt W B e sz (.slice Ad n c) n xs) (hn : 0 < n) : ∃ g off, Ad = some ⟨g, off, none⟩ := by
  rcases h.2 with ⟨h0, h1⟩ | ⟨g, off, cap, cur, h0, _⟩
  · omega
  · injection h0 with h0 _ _
    exact ⟨g, off, h0⟩
theorem row_cap {W : World} {n B c sz : Nat} {e : TypeId} {g off : Nat} {xs : List Value} (h : RowAt W B e sz (.slice (some ⟨g, off, none⟩) n c) n xs) : n ≤ c := by
  rcases h.2 with ⟨h0, h1⟩ | ⟨g', off', cap, cur, h0, _, _, hc, _⟩
  · cases h0
  · injection h0 with _ _ h0
    omega
theorem row_apart {W : World} {B' n' sz sz' n B : Nat} {e e' : TypeId} {v v' : Value} {xs xs' : List Value} (h : RowAt W B e sz v n xs) (h' : RowAt W B' e' sz' v' n' xs') (hne : e ≠ e') : ∀ k, v.ownBlock = some k → some k ≠ v'.ownBlock := by
  intro k hk hk'
  rcases h.2 with ⟨rfl, _⟩ | ⟨g1, off1, cap1, cur1, rfl, _, hg1, _⟩
  · simp [Value.ownBlock] at hk
  · rcases h'.2 with ⟨rfl, _⟩ | ⟨g2, off2, cap2, cur2, rfl, _, hg2, _⟩
    · simp [Value.ownBlock] at hk'
    · simp [Value.ownBlock] at hk hk'
      subst hk
      subst hk'
      rw [hg1] at hg2
      simp only [Option.some.injEq, Obj.cells.injEq] at hg2
      exact hne hg2.2.1

/-- An empty slice, that is not nil. -/
theorem row_empty (w : World) (B : Nat) (h : B ≤ w.heap.size) (e : TypeId) (sz : Nat) : RowAt (w.alloc (.cells #[] e)) B e sz (.slice (some ⟨w.heap.size, 0, none⟩) 0 0) 0 [] :=
  ⟨by simp, .inr ⟨w.heap.size, 0, 0, #[], rfl, h, Blk.new w #[] e, Nat.le_refl _, by unfold maxLen; omega, by simp, by simp⟩⟩

theorem flat_one {qs : List Nat} {u : Value} (h : u ∈ flat fs qs) : u.oneCell' = true := by
  unfold flat at h
  obtain ⟨q, _, h2⟩ := List.mem_flatMap.1 h
  unfold cellsOf at h2
  simp at h2
  rcases h2 with rfl | rfl | rfl | rfl <;> rfl

/-- A link is picked. -/
theorem pick (z : Int) (r : Nat) (hr : r < 4) : ∃ p : Nat, wrap64 ((IntKind.u64.wrap z).tmod (1 + (r : Int))) = (p : Int) ∧ p < r + 1 := by
  rw [u64_wrap]
  have h0 : 0 ≤ z % 18446744073709551616 := Int.emod_nonneg _ (by omega)
  rw [Int.tmod_eq_emod_of_nonneg h0]
  generalize z % 18446744073709551616 = X at *
  have h1 : 0 ≤ X % (1 + (r : Int)) := Int.emod_nonneg _ (by omega)
  have h2 : X % (1 + (r : Int)) < 1 + (r : Int) := Int.emod_lt_of_pos _ (by omega)
  generalize X % (1 + (r : Int)) = Y at *
  refine ⟨Y.toNat, ?_, by omega⟩
  rw [wrap_i64 (by omega) (by omega)]
  omega

/-- The wires behind a put. -/
theorem Wires.mv {J bl bh : Nat} (H : Wires fs N k (Wb + 1) w Wb vs qs) (hM : Mv J bl bh w w') (hJ : J < Wb) (hl : bl < Wb) (hh : bh < Wb) : Wires fs N k (Wb + 1) w' Wb vs qs :=
  Wires.block H (hM.block Wb H.blk.lt (by omega) (by omega) (by omega)) (fun j hj b hb => by
    have := (H.row j hj).lt b hb
    exact hM.block b this.2 (by omega) (by omega) (by omega))
/-- The wires behind an append to a row of texts. -/
theorem Wires.texts {n9 : Nat} {v9 : Value} {xs9 : List Value} (H : Wires fs N k (Wb + 1) w Wb vs qs) (g : w.grownBy w' v9.ownBlock) (h9 : RowAt w (Wb + 1) 9 1 v9 n9 xs9) : Wires fs N k (Wb + 1) w' Wb vs qs :=
  Wires.block H (g.block Wb H.blk.lt (fun e => by have := (h9.lt Wb e.symm).1; omega)) (fun j hj b hb => g.block b ((H.row j hj).lt b hb).2 (row_apart (H.row j hj) h9 (by decide) b hb))

end Go.Proofs.Ytcpehjdnmhkcpaa.LLossV
