/- Statement SplitWhole: where split.Cut answers without an error, the fragments are the packet, one behind the other, as the promise says. No conditions. -/
import Derived.Test.YtebeoihhegjpkaaPSplitWholex4
import Derived.Test.YtebeoihhegjpkaaCutASplitWhole
import Derived.Test.YtebeoihhegjpkaaPlain
namespace Go.Proofs.Ytebeoihhegjpkaa.Pure
open Go.RowKit Go.Proofs.Ytebeoihhegjpkaa.PSplitWhole Go.Proofs.YtebeoihhegjpkaaW.PrintWords Go.Proofs.YtebeoihhegjpkaaW.PrintLast Go.Proofs.Ytebeoihhegjpkaa.Plain

theorem awake_ok {k : Nat} (hk : 300 ≤ k) : withylaw18_awake.f k = some true :=
  at_rounds (g := withylaw18_awake.f) withylaw18_awake.mono hk (by kernel_rfl)

theorem rd_take_succ (r : List S39) (j : Nat) (h : j < r.length) : (r.take (j + 1)).flatMap (fun x => x.f3.data.toList) = (r.take j).flatMap (fun x => x.f3.data.toList) ++ (rd_T39 r j).f3.data.toList := by
  have e : rd_T39 r j = r[j] := by
    unfold rd_T39
    simp [List.getD_eq_getElem?_getD, h]
  rw [List.take_succ_eq_append_getElem h, List.flatMap_append, e]
  simp

theorem sum_in {seq ring : Int} {j n : Nat} (g2 : 0 ≤ seq) (g3 : seq < ring) (g4 : ring = 4096 ∨ ring = 16777216) (h : j < n) (hn : n ≤ 64) :
    wrap64 (seq + (j : Int)) = seq + (j : Int) ∧ Int.tmod (seq + (j : Int)) ring = (seq + (j : Int)) % ring ∧ ring ≠ 0 :=
  ⟨wrap_i64 (by omega) (by omega), Int.tmod_eq_emod_of_nonneg (by omega), by omega⟩

theorem loop {f : Nat} (hf : f ≤ 64) {sz : List Int} {seq : Int} {a3 : Bool} (F : Fine sz (ringOf a3) seq) (s : ByteArray) (r : List S39) (hs : s.size ≤ 1500) (hr : pieces sz (ringOf a3) seq f 0 s = some r) :
    ∀ (d k j : Nat) (acc : ByteArray), j + d = r.length → d < k → acc.data.toList = (r.take j).flatMap (fun x => x.f3.data.toList) →
      withylaw18_SplitWhole.l0 k s sz a3 seq r acc (j : Int) = some true := by
  obtain ⟨p1, p2, p3⟩ := pieces_say F f 0 s r hr
  have hq : withyref1_Ring.f a3 = some (ringOf a3) := by unfold withyref1_Ring.f ringOf; split <;> rfl
  have g1 := F.some1
  have g2 := F.seq0
  have g3 := F.seqr
  have g4 := F.ring2
  have g5 := F.most
  intro d
  induction d with
  | zero =>
    intro k j acc hj hk ha
    obtain ⟨k, rfl⟩ : ∃ m, k = m + 1 := ⟨k - 1, by omega⟩
    simp only [withylaw18_SplitWhole.l0]
    rw [if_neg (by omega)]
    have e : acc.toList = s.toList := by
      rw [ByteArray.toList_eq, ByteArray.toList_eq, ha, ← p2, List.take_of_length_le (by omega)]
    rw [if_pos e]
    simp; omega
  | succ d ih =>
    intro k j acc hj hk ha
    obtain ⟨k, rfl⟩ : ∃ m, k = m + 1 := ⟨k - 1, by omega⟩
    obtain ⟨c1, c2, c3, c4, c5⟩ := p3 j (by omega)
    simp only [Nat.zero_add] at c1 c2 c3 c4 c5
    have hm := mod_in g1 j
    have htm : Int.tmod (j : Int) (sz.length : Int) = (j : Int) % (sz.length : Int) := Int.tmod_eq_emod_of_nonneg (by omega)
    have he := F.each _ hm.1 hm.2
    have hacc : acc.size ≤ 1500 := by
      have h1 : acc.data.toList.length ≤ s.data.toList.length := by
        rw [ha, ← p2]
        conv => rhs; rw [← List.take_append_drop j r]
        rw [List.flatMap_append]; simp
      rw [data_length, data_length] at h1
      omega
    have b1 : ((rd_T39 r j).f0 != ((j : Int) == 0)) = false := by
      rw [c1, bne_eq_false_iff_eq, Bool.eq_iff_iff]; simp
    have b2 : ((rd_T39 r j).f1 != ((j : Int) == (r.length : Int) - 1)) = false := by
      rw [c2, bne_eq_false_iff_eq, Bool.eq_iff_iff]; simp; omega
    have o1 : (j : Int) < (r.length : Int) := by omega
    have o2 : (0 : Int) ≤ (j : Int) := by omega
    have o3 : ¬ (rd_T39 r j).f3.toList = ([] : List UInt8) := fun e => by have := size_nil.1 e; omega
    have o4 : ¬ (sz.length : Int) = 0 := by omega
    have o5 : ¬ ((rd_T39 r j).f3.size : Int) > rd sz ((j : Int) % (sz.length : Int)) := by omega
    have o6 : acc.size + (rd_T39 r j).f3.size ≤ 9223372036854775807 := by omega
    have o7 : ((j + 1 : Nat) : Int) = (j : Int) + 1 := by omega
    have o8 : j + 1 + d = r.length ∧ d < k ∧ j < r.length := by omega
    obtain ⟨hsq, hts, hne⟩ := sum_in g2 g3 g4 (show j < r.length from o8.2.2) (show r.length ≤ 64 from Nat.le_trans p1 hf)
    have hn : wrap64 ((r.length : Int) - 1) = (r.length : Int) - 1 := wrap_i64 (by clear hsq hts; omega) (by clear hsq hts; omega)
    have hj1 : wrap64 ((j : Int) + 1) = ((j + 1 : Nat) : Int) := by rw [o7]; exact wrap_i64 (by clear hsq hts hn; omega) (by clear hsq hts hn; omega)
    simp only [withylaw18_SplitWhole.l0]
    rw [if_pos o1, if_pos o2, hn, b1, b2, hq]
    simp only [Option.bind_some, if_neg (show ¬ (false = true) by simp)]
    rw [if_neg hne, hsq, hts, if_pos c3, if_neg o3, if_neg o4, htm, if_pos hm.1, if_pos hm.2, if_neg o5, if_pos o6, hj1]
    refine ih k (j + 1) _ o8.1 o8.2.1 ?_
    rw [ByteArray.data_append, Array.toList_append, ha, rd_take_succ r j o8.2.2]

theorem SplitWhole : withylaw18_SplitWhole.Pure := by
  intro a0 l1 a2 a3 w0 w1 w2 w3 w4
  refine ⟨1000, ?_⟩
  obtain ⟨k, hk⟩ : ∃ k : Nat, k = 1000 := ⟨_, rfl⟩
  rw [← hk]
  unfold withylaw18_SplitWhole.f
  rw [awake_ok (by omega)]
  simp only [Option.bind_some, if_true]
  have hq : withyref1_Ring.f a3 = some (ringOf a3) := by unfold withyref1_Ring.f ringOf; split <;> rfl
  have g4 := ringOf_eq a3
  rw [hq]
  simp only [Option.bind_some]
  have e1 : IntKind.u64.wrap (ringOf a3) = ringOf a3 := by rw [u64_wrap]; omega
  rw [e1, if_neg (by omega)]
  have h0 : 0 ≤ IntKind.u64.wrap a2 := by rw [u64_wrap]; omega
  generalize IntKind.u64.wrap a2 = U at *
  have e2 : Int.tmod U (ringOf a3) = U % ringOf a3 := Int.tmod_eq_emod_of_nonneg h0
  have h1 : 0 ≤ U % ringOf a3 := Int.emod_nonneg _ (by omega)
  have h2 : U % ringOf a3 < ringOf a3 := Int.emod_lt_of_pos _ (by omega)
  rw [e2, wrap_i64 (by omega) (by omega)]
  generalize U % ringOf a3 = q at *
  rcases cut_f a0 l1 q a3 k (by omega) with ⟨hno, h⟩ | ⟨hok, F, h⟩
  · rw [h]; simp [withylaw0_Num.f]
  · rw [h]
    cases hp : pieces l1 (ringOf a3) q 64 0 a0 with
    | none => simp [withylaw0_Num.f]
    | some r =>
      simp only [Option.bind_some, withylaw0_Num.f, if_true]
      have hl := (pieces_say F 64 0 a0 r hp).1
      have := loop (Nat.le_refl _) F a0 r hok.2.1 hp r.length k 0 (⟨#[]⟩ : ByteArray) (by omega) (by omega) (by simp)
      simpa using this

end Go.Proofs.Ytebeoihhegjpkaa.Pure
