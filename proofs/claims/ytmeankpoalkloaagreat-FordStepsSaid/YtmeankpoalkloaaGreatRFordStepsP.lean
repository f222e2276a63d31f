/- The allowed steps from a state, what a step comes to, where steps lead, and the truths in which they are safe, with the work, or the errors, are as the reference says. -/
import Derived.Test.YtmeankpoalkloaaGreatP7
namespace Go.Proofs.YtmeankpoalkloaaGreat.fordSteps
open Go Go.RowKit Go.ChangeShapes Go.WideShapes Go.ChangeAt GA
set_option linter.unusedVariables false

set_option maxRecDepth 100000 in
theorem contract (H : Type) (enc : TypeId × Value → H) (W : World) (base : Nat) (args : Array Value) (ds gs : List (DataW H)) (before : List MemPlace)
    (hval : ∀ (j : Nat) t v, Tryz.f3.params[j]? = some t → args[j]? = some v → Value.okWide Tryz.prog W .any base t v)
    (hW : DataW.Whole enc Tryz.prog Tryz.f3.params.toList Rows.fordStepsSpec.vars false W args.toList ds gs before) :
    Calls Tryz.prog 3 args W fun e W' => ∃ v, e = .returned v ∧ Rows.fordStepsSpec.post enc Tryz.prog Tryz.f3 false true false false W args v W' := by
  have hW' := hW
  obtain ⟨p, q, hA, hV, rfl, hfz, _⟩ := hW
  rw [Tryz.params3] at hA hval
  obtain ⟨v0, vs0, d0, ds0, p0, q0, hargs, rfl, rfl, h0, r0⟩ := trodAll_cons hA
  obtain ⟨v1, vs1, d1, ds1, p1, q1, rfl, rfl, rfl, h1, r1⟩ := trodAll_cons r0
  obtain ⟨v2, vs2, d2, ds2, p2, q2, rfl, rfl, rfl, h2, r2⟩ := trodAll_cons r1
  obtain ⟨v3, vs3, d3, ds3, p3, q3, rfl, rfl, rfl, h3, r3⟩ := trodAll_cons r2
  obtain ⟨v4, vs4, d4, ds4, p4, q4, rfl, rfl, rfl, h4, r4⟩ := trodAll_cons r3
  obtain ⟨rfl, rfl, rfl⟩ := trodAll_nil r4
  obtain rfl : args = #[v0, v1, v2, v3, v4] := Array.ext' hargs
  obtain ⟨c0, rfl, hz0⟩ := okWide_struct Tryz.underlying26 (hval 0 26 v0 rfl rfl)
  obtain ⟨sn0, hx0⟩ := oSands.argS hz0 h0
  obtain ⟨c1, rfl, hz1⟩ := okWide_struct Tryz.underlying28 (hval 1 28 v1 rfl rfl)
  obtain ⟨n1, hx1⟩ := oState.argS hz1 h1
  obtain ⟨c2, rfl, hz2⟩ := okWide_struct Tryz.underlying30 (hval 2 30 v2 rfl rfl)
  obtain ⟨n2, hx2⟩ := oStep.argS hz2 h2
  obtain ⟨a3, len3, cap3, rfl, hl3⟩ := okWide_len Tryz.underlying31 (hval 3 31 v3 rfl rfl)
  obtain ⟨⟨nl3, xs3⟩, hx3⟩ := oSteps.arg (g := fun p : Bool × List StepR => AV.sl p.1 (p.2.map fun s => sgA s.1)) rfl h3
  dsimp only at hx3
  rw [stepsR_map] at hx3
  have hn3 : (xs3.map fun s => s.1).length < 9223372036854775808 := by have := rep_len hx3; rw [List.length_map] at this; omega
  obtain ⟨n4, rfl, hb4⟩ := okWide_has Tryz.underlying3 (hval 4 3 v4 rfl rfl)
  refine (Comp.law (fordSteps_c sn0 n1.1 n1.2.1 n1.2.2 n2.1 n2.2.1 n2.2.2 nl3 (xs3.map fun s => s.1) hn3 (stepsR_b xs3) n4) (W := W) (args := _) (.cons hx0 (.cons hx1 (.cons hx2 (.cons hx3 (.cons (.int _ _) .nil)))))).mono ?_
  rintro e W' ⟨rfl, he, hk⟩
  exact ⟨_, rfl, post_true (tb := 4) rfl Tryz.underlying4 (by kernel_rfl) (by decide +kernel) rfl hW' (fun hg => by subst hg; rfl) he hk⟩

set_option maxRecDepth 100000 in
theorem lifted (os : Os) (started : os.Started) (H : Type) (enc : TypeId × Value → H) :
    ReturnsInHanded {} Tryz.checked os 3 .any (Rows.fordStepsSpec.pre6 enc Tryz.prog Tryz.f3 Rows.fordStepsRow.domain false) (Rows.fordStepsSpec.post enc Tryz.prog Tryz.f3 false true false false) := by
  refine returnsInHanded_of_change (C := Tryz.checked) ownK started (by kernel_rfl) Tryz.func3
    (ChangeSpec.witness6 (enc := enc) (C := Tryz.checked) false ⟨#[], #[.agg #[.int .i64 0, .int .i64 0, .int .i64 0, .int .i64 0, .slice none 0 0, .slice none 0 0, .slice none 0 0], .agg #[.int .i64 0, .int .i64 0, .int .i64 0], .agg #[.int .i64 0, .int .i64 0], .slice none 0 0, .int .i64 0], []⟩ 8 (by kernel_rfl) (by kernel_rfl) (by kernel_rfl) (by kernel_rfl)) ?_
  intro W base args ds gs before hval0 hW hcnd _
  exact contract H enc W base args ds gs before hval0 hW

theorem over : Rows.fordStepsRow.holds Tryz.pinned (OpenSpec.ofChange Rows.fordStepsSpec) :=
  OpenClaim.holds_of_wide 3 Tryz.f3 rfl rfl rfl rfl rfl rfl rfl ⟨rfl, rfl, rfl, rfl, rfl⟩ rfl rfl rfl rfl rfl (by kernel_rfl) Tryz.func3 (by kernel_rfl)
    (of_decide_eq_true (by kernel_rfl)) (by unfold Func.isWrapper; first | (rw [if_pos (by decide +kernel)]; kernel_rfl) | (rw [if_neg (by decide +kernel)]; exact ⟨rfl, rfl⟩))
    (fun os started H enc _ => lifted os started H enc)

theorem proved : Rows.FordStepsSaid := over
#print axioms proved
end Go.Proofs.YtmeankpoalkloaaGreat.fordSteps
