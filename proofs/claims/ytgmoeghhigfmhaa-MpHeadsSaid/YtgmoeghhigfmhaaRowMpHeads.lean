/- Statement MpHeads, the row: every call returns true and leaves its arguments as they were. No conditions. -/
import Derived.Test.YtgmoeghhigfmhaaRows
import Derived.Test.YtgmoeghhigfmhaaPureMpHeads
import Derived.WalkKit
import Derived.ProofKit
import Derived.OpenShut
import Derived.ShutString
import Derived.ChangeOld
import Derived.Below
import Derived.SizedLaws
import Derived.Lib.SmallJoins
namespace Go.Proofs.Ytgmoeghhigfmhaa.mpHeads
open Go.ChangeShapes Go.WideShapes Go.ChangeAt Go.RowKit
open Go.ChangeMaps (open_string shut_string)
theorem own : ownKnob Try.prog.godebug = none := by kernel_rfl
theorem cells23 : Try.prog.cellsOf 23 = 4 := by kernel_rfl
set_option maxRecDepth 100000 in
theorem lifted (os : Os) (started : os.Started) (H : Type) (enc : TypeId × Value → H) :
    ReturnsInHanded {} Try.checked os 3 .any (Rows.mpHeadsSpec.pre6 enc Try.prog Try.f3 Rows.mpHeadsRow.domain false) (Rows.mpHeadsSpec.post enc Try.prog Try.f3 false true false false) := by
  refine returnsInHanded_of_change_sized (C := Try.checked) own started (by kernel_rfl) Try.func3
    (ChangeSpec.witness6 (enc := enc) (C := Try.checked) false ⟨#[], #[.agg #[.bool false, .bool false, .int .i64 0, .string ByteArray.empty], .string ByteArray.empty, .bool false], []⟩ 8 (by kernel_rfl) (by kernel_rfl) (by kernel_rfl) (by kernel_rfl)) ?_
  intro W base args ds gs before hval0 hW hcnd hsz0 _
  have hsz : (DataW.weightsEach Try.prog (Try.f3.params.toList ++ Rows.mpHeadsSpec.plain.varTypes Try.prog) (ds ++ gs)).all (· ≤ reachBytes) = true := hsz0
  have hval : ∀ (j : Nat) t v, Try.f3.params[j]? = some t → args[j]? = some v → Value.okWide Try.prog W .any base t v := hval0
  have hW' := hW
  obtain ⟨p, q, hA0, hV, rfl, hfz, hnd⟩ := hW
  have hA : DataW.TrodAll enc Try.prog W 0 (fun _ => true) true Try.f3.params.toList args.toList ds p := hA0
  rw [Try.params3] at hA hval hsz
  obtain ⟨v0, vs0, d0, ds0, p0, q0, hargs, rfl, rfl, h0, r0⟩ := trodAll_cons hA
  obtain ⟨v1, vs1, d1, ds1, p1, q1, rfl, rfl, rfl, h1, r1⟩ := trodAll_cons r0
  obtain ⟨v2, vs2, d2, ds2, p2, q2, rfl, rfl, rfl, h2, r2⟩ := trodAll_cons r1
  obtain ⟨rfl, rfl, rfl⟩ := trodAll_nil r2
  obtain rfl : args = #[v0, v1, v2] := by cases args; simp_all
  obtain ⟨rfl, rfl⟩ := trodVars_none hV
  obtain ⟨c0, c1, c2, c3, x0, x1, x2, x3, m, rfl, rfl, rfl, t0, t1, t2, t3⟩ := Joins.open_agg4 Try.underlying23 (by kernel_rfl) cells23 (hval 0 23 v0 rfl rfl) h0
  obtain ⟨b0, e0, rfl⟩ := DataW.trod_bool Try.underlying4 t0
  obtain ⟨b1, e1, rfl⟩ := DataW.trod_bool Try.underlying4 t1
  obtain ⟨b2, e2, rfl, wb2⟩ := DataW.trod_int Try.underlying3 t2
  obtain ⟨b3, e3, rfl, wb3⟩ := DataW.trod_string Try.underlying9 t3
  simp only [List.cons.injEq, and_true] at e0 e1 e2 e3
  subst e0 e1 e2 e3
  have s0 : ∀ (W' : World) (sp : Nat → Bool), DataW.Trod enc Try.prog W' 0 sp true 23 (.agg #[.bool b0, .bool b1, .int .i64 b2, .string b3]) (.agg [.lit (.bool b0), .lit (.bool b1), .lit (.int .i64 b2), .lit (.string b3.data.toList)]) [] := fun W' sp =>
    Joins.shut_agg4 (y0 := (.lit (.bool b0), [])) (y1 := (.lit (.bool b1), [])) (y2 := (.lit (.int .i64 b2), [])) (y3 := (.lit (.string b3.data.toList), [])) Try.underlying23 (by kernel_rfl) cells23
      (Joins.field_of_Trod (shut_bool Try.underlying4 _) rfl) (Joins.field_of_Trod (shut_bool Try.underlying4 _) rfl) (Joins.field_of_Trod (shut_int Try.underlying3 wb2) rfl) (Joins.field_of_Trod (shut_string Try.underlying9 wb3) rfl)
  obtain ⟨a1, rfl, rfl, rfl, y1⟩ := open_string Try.underlying9 (hval 1 9 v1 rfl rfl) h1
  have w1 : a1.size ≤ 140737488351232 := by
    have z := sized_string hsz (j := 1) (t := 9) rfl rfl
    rw [Array.length_toList] at z
    exact z
  obtain ⟨a2, rfl, rfl, rfl⟩ := open_bool Try.underlying4 (hval 2 4 v2 rfl rfl) h2
  clear hA0 hval0 hsz0 hsz
  obtain ⟨k, hk⟩ := Pure.MpHeads b0 b1 b2 b3 a1 a2 w1
  refine (PMpHeads.withylaw8_MpHeads.calls k b0 b1 b2 b3 a1 a2 true W hk).mono fun e W' ⟨he, bel⟩ => ?_
  subst he
  exact ⟨_, rfl, _, _, _, [], _, [], hW', trodAll_mk1 (shut_bool Try.underlying4 _), (trodAll_cons_mk (s0 _ _) (trodAll_cons_mk (shut_string Try.underlying9 y1) (trodAll_cons_mk (shut_bool Try.underlying4 _) trodAll_mk0))), rfl, bel.frame _, fun h => by cases h⟩
theorem over : Rows.mpHeadsRow.holds Try.pinned (OpenSpec.ofChange Rows.mpHeadsSpec) :=
  OpenClaim.holds_of_wide 3 Try.f3 rfl rfl rfl rfl rfl rfl rfl ⟨rfl, rfl, rfl, rfl, rfl⟩ rfl rfl rfl rfl rfl (by kernel_rfl) Try.func3 (by kernel_rfl)
    (of_decide_eq_true (by kernel_rfl)) (by unfold Func.isWrapper; first | (rw [if_pos (by decide +kernel)]; kernel_rfl) | (rw [if_neg (by decide +kernel)]; exact ⟨rfl, rfl⟩))
    (fun os started H enc _ => lifted os started H enc)
end Go.Proofs.Ytgmoeghhigfmhaa.mpHeads
namespace Go.Proofs.Ytgmoeghhigfmhaa
/-- The statement. -/
theorem mpHeads_holds : Rows.MpHeadsSaid := mpHeads.over
#print axioms mpHeads_holds
end Go.Proofs.Ytgmoeghhigfmhaa
