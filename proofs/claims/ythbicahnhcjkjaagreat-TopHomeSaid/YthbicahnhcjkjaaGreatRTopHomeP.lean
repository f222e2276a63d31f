/- TopHome returns true: whatever the numbers and the two bytes. No condition. -/
import Derived.Test.YthbicahnhcjkjaaGreatP7
namespace Go.Proofs.YthbicahnhcjkjaaGreat.topHome
open Go Go.RowKit Go.ChangeShapes Go.WideShapes Go.ChangeAt GA
set_option linter.unusedVariables false

set_option maxRecDepth 100000 in
theorem contract (H : Type) (enc : TypeId × Value → H) (W : World) (base : Nat) (args : Array Value) (ds gs : List (DataW H)) (before : List MemPlace)
    (hval : ∀ (j : Nat) t v, Tryz.f3.params[j]? = some t → args[j]? = some v → Value.okWide Tryz.prog W .any base t v)
    (hW : DataW.Whole enc Tryz.prog Tryz.f3.params.toList Rows.topHomeSpec.vars false W args.toList ds gs before) :
    Calls Tryz.prog 3 args W fun e W' => ∃ v, e = .returned v ∧ Rows.topHomeSpec.post enc Tryz.prog Tryz.f3 false true false false W args v W' := by
  have hW' := hW
  obtain ⟨p, q, hA, hV, rfl, hfz, _⟩ := hW
  rw [Tryz.params3] at hA hval
  obtain ⟨v0, vs0, d0, ds0, p0, q0, hargs, rfl, rfl, h0, r0⟩ := trodAll_cons hA
  obtain ⟨v1, vs1, d1, ds1, p1, q1, rfl, rfl, rfl, h1, r1⟩ := trodAll_cons r0
  obtain ⟨v2, vs2, d2, ds2, p2, q2, rfl, rfl, rfl, h2, r2⟩ := trodAll_cons r1
  obtain ⟨rfl, rfl, rfl⟩ := trodAll_nil r2
  obtain rfl : args = #[v0, v1, v2] := Array.ext' hargs
  obtain ⟨a0, len0, cap0, rfl, hl0⟩ := okWide_len Tryz.underlying22 (hval 0 22 v0 rfl rfl)
  obtain ⟨⟨nl0, xs0⟩, hx0⟩ := oBytes.arg (g := fun p : Bool × List Int => AV.sl p.1 (GA.bytes p.2)) rfl h0
  have hn0 : xs0.length < 9223372036854775808 := by have := rep_len hx0; rw [List.length_map] at this; dsimp only at this; omega
  obtain ⟨n1, rfl, hb1⟩ := okWide_has Tryz.underlying5 (hval 1 5 v1 rfl rfl)
  obtain ⟨n2, rfl, hb2⟩ := okWide_has Tryz.underlying5 (hval 2 5 v2 rfl rfl)
  refine (Comp.law (topHome_c nl0 xs0 n1 n2 hn0 hb1 hb2) (W := W) (args := _) (.cons hx0 (.cons (.int _ _) (.cons (.int _ _) .nil)))).mono ?_
  rintro e W' ⟨rfl, he, hk⟩
  exact ⟨_, rfl, post_true (tb := 4) rfl Tryz.underlying4 (by kernel_rfl) (by decide +kernel) rfl hW' (fun hg => by subst hg; rfl) he hk⟩

set_option maxRecDepth 100000 in
theorem lifted (os : Os) (started : os.Started) (H : Type) (enc : TypeId × Value → H) :
    ReturnsInHanded {} Tryz.checked os 3 .any (Rows.topHomeSpec.pre6 enc Tryz.prog Tryz.f3 Rows.topHomeRow.domain false) (Rows.topHomeSpec.post enc Tryz.prog Tryz.f3 false true false false) := by
  refine returnsInHanded_of_change (C := Tryz.checked) ownK started (by kernel_rfl) Tryz.func3
    (ChangeSpec.witness6 (enc := enc) (C := Tryz.checked) false ⟨#[], #[.slice none 0 0, .int .u8 0, .int .u8 0], []⟩ 8 (by kernel_rfl) (by kernel_rfl) (by kernel_rfl) (by kernel_rfl)) ?_
  intro W base args ds gs before hval0 hW hcnd _
  exact contract H enc W base args ds gs before hval0 hW

theorem over : Rows.topHomeRow.holds Tryz.pinned (OpenSpec.ofChange Rows.topHomeSpec) :=
  OpenClaim.holds_of_wide 3 Tryz.f3 rfl rfl rfl rfl rfl rfl rfl ⟨rfl, rfl, rfl, rfl, rfl⟩ rfl rfl rfl rfl rfl (by kernel_rfl) Tryz.func3 (by kernel_rfl)
    (of_decide_eq_true (by kernel_rfl)) (by unfold Func.isWrapper; first | (rw [if_pos (by decide +kernel)]; kernel_rfl) | (rw [if_neg (by decide +kernel)]; exact ⟨rfl, rfl⟩))
    (fun os started H enc _ => lifted os started H enc)

theorem proved : Rows.TopHomeSaid := over
#print axioms proved
end Go.Proofs.YthbicahnhcjkjaaGreat.topHome
