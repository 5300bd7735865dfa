/- Plain facts on the packet that begins next. -/
import Derived.Test.YtcpehjdnmhkcpaaJoinC
import Derived.Test.YtcpehjdnmhkcpaaRowAt
namespace Go.Proofs.Ytcpehjdnmhkcpaa.JoinQ
open Go Go.RowKit Go.Maps Go.Proofs.Ytcpehjdnmhkcpaa.Mem Go.Proofs.Ytcpehjdnmhkcpaa.Plain Go.Proofs.Ytcpehjdnmhkcpaa.Ring Go.Proofs.Ytcpehjdnmhkcpaa.IMap Go.Proofs.Ytcpehjdnmhkcpaa.JoinP Go.Proofs.Ytcpehjdnmhkcpaa.JoinA Go.Proofs.Ytcpehjdnmhkcpaa.JoinB Go.Proofs.Ytcpehjdnmhkcpaa.JoinC Go.Proofs.Ytcpehjdnmhkcpaa.Mv Go.Proofs.Ytcpehjdnmhkcpaa.RowAt

/-- A list without repeats inside another is no longer. -/
theorem sub_len : ∀ (l m : List Int), l.Nodup → (∀ x ∈ l, x ∈ m) → l.length ≤ m.length
  | [], _, _, _ => Nat.zero_le _
  | x :: l, m, hn, h => by
    obtain ⟨h1, h2⟩ := List.nodup_cons.1 hn
    have hx : x ∈ m := h x (by simp)
    have := sub_len l (m.erase x) h2 (fun y hy => (List.mem_erase_of_ne (fun e => h1 (by rw [← e]; exact hy))).2 (h y (by simp [hy])))
    rw [List.length_erase_of_mem hx] at this
    have := List.length_pos_of_mem hx
    simp only [List.length_cons]
    omega

theorem get_some {s : JS} {x : Int} {f : Fr} (h : s.get x = some f) : f ∈ s.held ∧ f.q = x := by
  unfold JS.get at h
  exact ⟨List.mem_of_find?_eq_some h, by simpa using List.find?_some h⟩

theorem look_get (s : JS) (x : Int) : IMap.look (heldPairs s) x = (s.get x).map Fr.val := by
  unfold IMap.look heldPairs JS.get
  rw [List.find?_map, Option.map_map]
  congr 1

theorem num_inj {s : JS} (hn : 0 ≤ s.next ∧ s.next < s.size) {i j : Nat} (hi : i < 4096) (hj : j < 4096) (h : s.num i = s.num j) : i = j := by
  have hs := ringOf_size s.short
  unfold JS.num at_ at h
  unfold JS.size at *
  unfold Size at hs
  generalize ringOf s.short = r at *
  rcases hs with rfl | rfl <;> omega

theorem num_in (s : JS) (o : Int) : 0 ≤ s.num o ∧ s.num o < s.size := at_in (ringOf_size s.short)

theorem off_num {s : JS} (hn : 0 ≤ s.next ∧ s.next < s.size) {o : Int} (ho : 0 ≤ o ∧ o < s.size) : s.off (s.num o) = o := by
  have hs := ringOf_size s.short
  unfold JS.num JS.off at_ offset
  unfold JS.size at *
  unfold Size at hs
  generalize ringOf s.short = r at *
  rcases hs with rfl | rfl <;> omega

theorem num_off {s : JS} {x : Int} (hx : 0 ≤ x ∧ x < s.size) (hn : 0 ≤ s.next ∧ s.next < s.size) : s.num (s.off x) = x := by
  have hs := ringOf_size s.short
  unfold JS.num JS.off at_ offset
  unfold JS.size at *
  unfold Size at hs
  generalize ringOf s.short = r at *
  rcases hs with rfl | rfl <;> omega

theorem off_in (s : JS) (x : Int) : 0 ≤ s.off x ∧ s.off x < s.size := offset_in (ringOf_size s.short)

/-- So many from next on are held: no more than there are. -/
theorem all_le {s : JS} (hn : 0 ≤ s.next ∧ s.next < s.size) {j : Nat} (hj : j ≤ 4096) (h : ∀ i, i < j → (s.get (s.num i)).isSome = true) : j ≤ s.held.length := by
  have := sub_len ((List.range j).map fun i => s.num (i : Nat)) (s.held.map Fr.q) (by
    refine List.Pairwise.map _ (R := fun a b => a < b ∧ b < j) ?_ ?_
    · intro a b ⟨hab, hb⟩ e
      have := num_inj hn (by omega) (by omega) e
      omega
    · have : (List.range j).Pairwise (fun a b => a < b) := List.pairwise_lt_range
      refine List.Pairwise.imp_of_mem (fun ha hb hab => ⟨hab, by simpa using hb⟩) this) (by
    intro x hx
    obtain ⟨i, hi, rfl⟩ := List.mem_map.1 hx
    obtain ⟨f, hf⟩ := Option.isSome_iff_exists.1 (h i (by simpa using hi))
    obtain ⟨h1, h2⟩ := get_some hf
    exact List.mem_map.2 ⟨f, h1, h2⟩)
  simpa using this

/-- Where packet's loop stands: so many fragments are in it, their data. -/
structure PInv (s : JS) (j : Nat) (acc : ByteArray) : Prop where
  all : ∀ i, i < j → (s.get (s.num (i : Nat))).isSome = true
  eq : s.packet = s.pack (s.held.length + 1 - j) j acc
  size : acc.size ≤ 2048 * j

theorem PInv.start (s : JS) : PInv s 0 ⟨#[]⟩ := ⟨fun i hi => by omega, rfl, by simp [ByteArray.size]⟩

theorem PInv.le {s : JS} {j : Nat} {acc : ByteArray} (h : PInv s j acc) (F : Fit s) (hj : j ≤ 4096) : j ≤ s.held.length := all_le ⟨F.next0, F.next1⟩ hj h.all

theorem PInv.missing {s : JS} {j : Nat} {acc : ByteArray} (h : PInv s j acc) (hj : j ≤ s.held.length) (hg : s.get (s.num (j : Nat)) = none) : s.packet = (⟨#[]⟩, j, false) := by
  obtain ⟨k, hk⟩ : ∃ k, s.held.length + 1 - j = k + 1 := ⟨s.held.length - j, by omega⟩
  rw [h.eq, hk]
  simp only [JS.pack, hg]

theorem PInv.begins {s : JS} {j : Nat} {acc : ByteArray} {f : Fr} (h : PInv s j acc) (hj : j ≤ s.held.length) (hg : s.get (s.num (j : Nat)) = some f) (h0 : j ≠ 0) (hb : f.b = true) : s.packet = (⟨#[]⟩, j, false) := by
  obtain ⟨k, hk⟩ : ∃ k, s.held.length + 1 - j = k + 1 := ⟨s.held.length - j, by omega⟩
  rw [h.eq, hk]
  simp only [JS.pack, hg]
  rw [if_pos ⟨h0, hb⟩]

theorem PInv.ends {s : JS} {j : Nat} {acc : ByteArray} {f : Fr} (h : PInv s j acc) (hj : j ≤ s.held.length) (hg : s.get (s.num (j : Nat)) = some f) (h0 : ¬ (j ≠ 0 ∧ f.b = true)) (he : f.e = true) : s.packet = (acc ++ f.d, j + 1, true) := by
  obtain ⟨k, hk⟩ : ∃ k, s.held.length + 1 - j = k + 1 := ⟨s.held.length - j, by omega⟩
  rw [h.eq, hk]
  simp only [JS.pack, hg]
  rw [if_neg h0, if_pos he]

theorem PInv.next {s : JS} {j : Nat} {acc : ByteArray} {f : Fr} (h : PInv s j acc) (F : Fit s) (hj : j ≤ s.held.length) (hg : s.get (s.num (j : Nat)) = some f) (h0 : ¬ (j ≠ 0 ∧ f.b = true)) (he : ¬ f.e = true) : PInv s (j + 1) (acc ++ f.d) := by
  refine ⟨fun i hi => ?_, ?_, ?_⟩
  · by_cases e : i = j
    · rw [e, hg]; rfl
    · exact h.all i (by omega)
  · obtain ⟨k, hk⟩ : ∃ k, s.held.length + 1 - j = k + 1 := ⟨s.held.length - j, by omega⟩
    rw [h.eq, hk]
    simp only [JS.pack, hg]
    rw [if_neg h0, if_neg he]
    congr 1
    omega
  · have := (F.seqs f (get_some hg).1).2.2
    have := h.size
    rw [ByteArray.size_append]
    omega

theorem byteCells_append (a b : ByteArray) : byteCells (a ++ b) = byteCells a ++ byteCells b := by
  unfold byteCells
  rw [ByteArray.data_append, Array.toList_append, List.map_append]

/-- A row of bytes as a string. -/
theorem conv_row {P : Program} {w : World} {base : Nat} {e src dst : TypeId} {v : Value} {s : ByteArray} (hs : P.underlying src = some (.slice e)) (he : P.underlying e = some (.int .u8)) (hd : P.underlying dst = some .string) (h : RowAt w base e 1 v s.size (byteCells s)) :
    (convert src dst v).run P w = .ok (.string s) w := by
  rcases h.2 with ⟨rfl, h0⟩ | ⟨g, off, cap, cur, rfl, rest⟩
  · rw [run_convert_bytes_nil w src e hs he _ _ dst hd]
    have : s = ByteArray.empty := ByteArray.size_eq_zero_iff.1 h0
    rw [this]
  · have hc := run_convert_bytes_arg (P := P) w src e hs he g off s.size cap (s.data.toList.map fun b => (b.toNat : Int)) (by simp) (fun i hi => by
      rw [h.cell i (by omega)]
      have hi' : i < s.data.toList.length := by simpa using hi
      unfold byteCells
      rw [List.getElem?_map, List.getElem?_eq_getElem hi', List.getD_eq_getElem?_getD, List.getElem?_map, List.getElem?_eq_getElem hi']
      rfl) dst hd
    rw [hc]
    congr 2
    unfold strOfNums
    have : (s.data.toList.map fun b => (b.toNat : Int)).map (fun n => UInt8.ofNat n.toNat) = s.data.toList := by
      rw [List.map_map]
      conv => rhs; rw [← List.map_id s.data.toList]
      exact List.map_congr_left fun b _ => by simp
    rw [this]

end Go.Proofs.Ytcpehjdnmhkcpaa.JoinQ
