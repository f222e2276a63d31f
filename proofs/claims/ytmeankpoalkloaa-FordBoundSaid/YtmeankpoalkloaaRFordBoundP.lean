/- No fixed way that is safe in all truths of the start has more work than the start is worth; steps that are allowed come to safe states alone, which together have the truths that were left. -/
import Derived.Test.YtmeankpoalkloaaP7
namespace Go.Proofs.Ytmeankpoalkloaa.fordBound
open Go Go.RowKit Go.ChangeShapes Go.WideShapes Go.ChangeAt GA
set_option linter.unusedVariables false

set_option maxRecDepth 100000 in
theorem contract (H : Type) (enc : TypeId × Value → H) (W : World) (base : Nat) (args : Array Value) (ds gs : List (DataW H)) (before : List MemPlace)
    (hval : ∀ (j : Nat) t v, Try.f3.params[j]? = some t → args[j]? = some v → Value.okWide Try.prog W .any base t v)
    (hW : DataW.Whole enc Try.prog Try.f3.params.toList Rows.fordBoundSpec.vars false W args.toList ds gs before) :
    Calls Try.prog 3 args W fun e W' => ∃ v, e = .returned v ∧ Rows.fordBoundSpec.post enc Try.prog Try.f3 false true false false W args v W' := by
  have hW' := hW
  obtain ⟨p, q, hA, hV, rfl, hfz, _⟩ := hW
  rw [Try.params3] at hA hval
  obtain ⟨v0, vs0, d0, ds0, p0, q0, hargs, rfl, rfl, h0, r0⟩ := trodAll_cons hA
  obtain ⟨v1, vs1, d1, ds1, p1, q1, rfl, rfl, rfl, h1, r1⟩ := trodAll_cons r0
  obtain ⟨rfl, rfl, rfl⟩ := trodAll_nil r1
  obtain rfl : args = #[v0, v1] := Array.ext' hargs
  obtain ⟨a0, len0, cap0, rfl, hl0⟩ := okWide_len Try.underlying22 (hval 0 22 v0 rfl rfl)
  obtain ⟨⟨nl0, xs0⟩, hx0⟩ := oBytes.arg (g := fun p : Bool × List Int => AV.sl p.1 (GA.bytes p.2)) rfl h0
  have hn0 : xs0.length < 9223372036854775808 := by have := rep_len hx0; rw [List.length_map] at this; dsimp only at this; omega
  obtain ⟨a1, len1, cap1, rfl, hl1⟩ := okWide_len Try.underlying22 (hval 1 22 v1 rfl rfl)
  obtain ⟨⟨nl1, xs1⟩, hx1⟩ := oBytes.arg (g := fun p : Bool × List Int => AV.sl p.1 (GA.bytes p.2)) rfl h1
  have hn1 : xs1.length < 9223372036854775808 := by have := rep_len hx1; rw [List.length_map] at this; dsimp only at this; omega
  refine (Comp.law (fordBound_c nl0 nl1 xs0 xs1 hn0 hn1) (W := W) (args := _) (.cons hx0 (.cons hx1 .nil))).mono ?_
  rintro e W' ⟨rfl, he, hk⟩
  exact ⟨_, rfl, post_true (tb := 4) rfl Try.underlying4 (by kernel_rfl) (by decide +kernel) rfl hW' (fun hg => by subst hg; rfl) he hk⟩

set_option maxRecDepth 100000 in
theorem lifted (os : Os) (started : os.Started) (H : Type) (enc : TypeId × Value → H) :
    ReturnsInHanded {} Try.checked os 3 .any (Rows.fordBoundSpec.pre6 enc Try.prog Try.f3 Rows.fordBoundRow.domain false) (Rows.fordBoundSpec.post enc Try.prog Try.f3 false true false false) := by
  refine returnsInHanded_of_change (C := Try.checked) ownK started (by kernel_rfl) Try.func3
    (ChangeSpec.witness6 (enc := enc) (C := Try.checked) false ⟨#[], #[.slice none 0 0, .slice none 0 0], []⟩ 8 (by kernel_rfl) (by kernel_rfl) (by kernel_rfl) (by kernel_rfl)) ?_
  intro W base args ds gs before hval0 hW hcnd _
  exact contract H enc W base args ds gs before hval0 hW

theorem over : Rows.fordBoundRow.holds Try.pinned (OpenSpec.ofChange Rows.fordBoundSpec) :=
  OpenClaim.holds_of_wide 3 Try.f3 rfl rfl rfl rfl rfl rfl rfl ⟨rfl, rfl, rfl, rfl, rfl⟩ rfl rfl rfl rfl rfl (by kernel_rfl) Try.func3 (by kernel_rfl)
    (of_decide_eq_true (by kernel_rfl)) (by unfold Func.isWrapper; first | (rw [if_pos (by decide +kernel)]; kernel_rfl) | (rw [if_neg (by decide +kernel)]; exact ⟨rfl, rfl⟩))
    (fun os started H enc _ => lifted os started H enc)

theorem proved : Rows.FordBoundSaid := over
#print axioms proved
end Go.Proofs.Ytmeankpoalkloaa.fordBound
