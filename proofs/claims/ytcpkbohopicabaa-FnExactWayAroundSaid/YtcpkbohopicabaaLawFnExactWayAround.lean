/- FnExactWayAround: for all arguments the law returns true, and each argument reads behind the call as it read before; no further condition. -/
import Derived.Test.YtcpkbohopicabaaWayLaw
namespace Go.Proofs.Ytcpkbohopicabaa
open Go.ChangeShapes Go.WideShapes Go.ChangeAt Go.RowKit Go.Joins
set_option linter.unusedVariables false
set_option maxRecDepth 100000 in
theorem liftFnExactWayAround (os : Os) (started : os.Started) (H : Type) (enc : TypeId × Value → H) :
    ReturnsInHanded {} Try.checked os 7 .any (Rows.fnExactWayAroundSpec.pre6 enc Try.prog Try.f7 Rows.fnExactWayAroundRow.domain false) (Rows.fnExactWayAroundSpec.post enc Try.prog Try.f7 false true false false) := by
  refine returnsInHanded_of_change (C := Try.checked) own started (by kernel_rfl) Try.func7
    (ChangeSpec.witness6 (enc := enc) (C := Try.checked) false ⟨#[], #[.int .i64 0, .int .i64 0, .slice none 0 0, .int .i64 0, .agg #[.int .i64 0, .int .i64 0]], []⟩ 8 (by kernel_rfl) (by kernel_rfl) (by kernel_rfl) (by kernel_rfl)) ?_
  intro W base args ds gs before hval0 hW hcnd _
  have hval : ∀ (j : Nat) t v, Try.f7.params[j]? = some t → args[j]? = some v → Value.okWide Try.prog W .any base t v := hval0
  have hW' := hW
  obtain ⟨p, q, hA0, hV, rfl, hfz, hnd⟩ := hW
  have hA : DataW.TrodAll enc Try.prog W 0 (fun _ => true) true Try.f7.params.toList args.toList ds p := hA0
  rw [Try.params7] at hA hval
  obtain ⟨v0, vs0, d0, ds0, p0, q0, hargs, rfl, rfl, h0, r0⟩ := trodAll_cons hA
  obtain ⟨v1, vs1, d1, ds1, p1, q1, rfl, rfl, rfl, h1, r1⟩ := trodAll_cons r0
  obtain ⟨v2, vs2, d2, ds2, p2, q2, rfl, rfl, rfl, h2, r2⟩ := trodAll_cons r1
  obtain ⟨v3, vs3, d3, ds3, p3, q3, rfl, rfl, rfl, h3, r3⟩ := trodAll_cons r2
  obtain ⟨v4, vs4, d4, ds4, p4, q4, rfl, rfl, rfl, h4, r4⟩ := trodAll_cons r3
  obtain ⟨rfl, rfl, rfl⟩ := trodAll_nil r4
  obtain rfl : args = #[v0, v1, v2, v3, v4] := by cases args; simp_all
  obtain ⟨rfl, rfl⟩ := trodVars_none hV
  obtain ⟨wd, rfl, rfl, rfl, wwd⟩ := open_int Try.underlying3 (hval 0 3 v0 rfl rfl) h0
  obtain ⟨ht, rfl, rfl, rfl, wht⟩ := open_int Try.underlying3 (hval 1 3 v1 rfl rfl) h1
  obtain ⟨zs, hrzs⟩ := open_rdSpot (hval 2 22 v2 rfl rfl) h2
  obtain ⟨k, rfl, rfl, rfl, wk⟩ := open_int Try.underlying3 (hval 3 3 v3 rfl rfl) h3
  obtain ⟨cto0, cto1, yto0, yto1, mto, rfl, rfl, rfl, hyto0, hyto1⟩ := open_agg2 Try.underlying48 (by kernel_rfl) (by kernel_rfl) (hval 4 48 v4 rfl rfl) h4
  obtain ⟨to0, eto0, rfl, wto0⟩ := DataW.trod_int Try.underlying3 hyto0
  obtain ⟨to1, eto1, rfl, wto1⟩ := DataW.trod_int Try.underlying3 hyto1
  simp only [List.cons.injEq, and_true] at eto0 eto1
  subst eto0 eto1
  clear hA0 hval0 hval hA hV
  refine (walkFnExactWayAround wd ht zs k to0 to1 _ W hrzs).mono fun e W' ⟨he, hb⟩ => ?_
  subst he
  exact ⟨_, rfl, law_post laidOut (by kernel_rfl) rfl (by kernel_rfl) Try.underlying4 rfl hW' hb⟩

theorem overFnExactWayAround : Rows.fnExactWayAroundRow.holds Try.pinned (OpenSpec.ofChange Rows.fnExactWayAroundSpec) :=
  OpenClaim.holds_of_wide 7 Try.f7 rfl rfl rfl rfl rfl rfl rfl ⟨rfl, rfl, rfl, rfl, rfl⟩ rfl rfl rfl rfl rfl (by kernel_rfl) Try.func7 (by kernel_rfl)
    (of_decide_eq_true (by kernel_rfl)) (by unfold Func.isWrapper; first | (rw [if_pos (by decide +kernel)]; kernel_rfl) | (rw [if_neg (by decide +kernel)]; exact ⟨rfl, rfl⟩))
    (fun os started H enc _ => liftFnExactWayAround os started H enc)

/-- The statement. -/
theorem provedFnExactWayAround : Rows.FnExactWayAroundSaid := overFnExactWayAround
#print axioms provedFnExactWayAround
end Go.Proofs.Ytcpkbohopicabaa
