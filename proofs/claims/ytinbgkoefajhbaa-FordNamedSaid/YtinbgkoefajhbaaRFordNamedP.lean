/- The numbers of places and truths do not matter: in another order each state is worth the same, and each start. -/
import Derived.Test.YtinbgkoefajhbaaP7
namespace Go.Proofs.Ytinbgkoefajhbaa.fordNamed
open Go Go.RowKit Go.ChangeShapes Go.WideShapes Go.ChangeAt GA
set_option linter.unusedVariables false

set_option maxRecDepth 100000 in
theorem contract (H : Type) (enc : TypeId × Value → H) (W : World) (base : Nat) (args : Array Value) (ds gs : List (DataW H)) (before : List MemPlace)
    (hval : ∀ (j : Nat) t v, Try.f5.params[j]? = some t → args[j]? = some v → Value.okWide Try.prog W .any base t v)
    (hW : DataW.Whole enc Try.prog Try.f5.params.toList Rows.fordNamedSpec.vars false W args.toList ds gs before) :
    Calls Try.prog 5 args W fun e W' => ∃ v, e = .returned v ∧ Rows.fordNamedSpec.post enc Try.prog Try.f5 false true false false W args v W' := by
  have hW' := hW
  obtain ⟨p, q, hA, hV, rfl, hfz, _⟩ := hW
  rw [Try.params5] at hA hval
  obtain ⟨v0, vs0, d0, ds0, p0, q0, hargs, rfl, rfl, h0, r0⟩ := trodAll_cons hA
  obtain ⟨v1, vs1, d1, ds1, p1, q1, rfl, rfl, rfl, h1, r1⟩ := trodAll_cons r0
  obtain ⟨v2, vs2, d2, ds2, p2, q2, rfl, rfl, rfl, h2, r2⟩ := trodAll_cons r1
  obtain ⟨v3, vs3, d3, ds3, p3, q3, rfl, rfl, rfl, h3, r3⟩ := trodAll_cons r2
  obtain ⟨rfl, rfl, rfl⟩ := trodAll_nil r3
  obtain rfl : args = #[v0, v1, v2, v3] := Array.ext' hargs
  obtain ⟨a0, len0, cap0, rfl, hl0⟩ := okWide_len Try.underlying22 (hval 0 22 v0 rfl rfl)
  obtain ⟨⟨nl0, xs0⟩, hx0⟩ := oBytes.arg (g := fun p : Bool × List Int => AV.sl p.1 (GA.bytes p.2)) rfl h0
  have hn0 : xs0.length < 9223372036854775808 := by have := rep_len hx0; rw [List.length_map] at this; dsimp only at this; omega
  obtain ⟨a1, len1, cap1, rfl, hl1⟩ := okWide_len Try.underlying22 (hval 1 22 v1 rfl rfl)
  obtain ⟨⟨nl1, xs1⟩, hx1⟩ := oBytes.arg (g := fun p : Bool × List Int => AV.sl p.1 (GA.bytes p.2)) rfl h1
  have hn1 : xs1.length < 9223372036854775808 := by have := rep_len hx1; rw [List.length_map] at this; dsimp only at this; omega
  obtain ⟨n2, rfl, hb2⟩ := okWide_has Try.underlying5 (hval 2 5 v2 rfl rfl)
  obtain ⟨n3, rfl, hb3⟩ := okWide_has Try.underlying5 (hval 3 5 v3 rfl rfl)
  refine (Comp.law (fordNamed_c nl0 nl1 xs0 xs1 n2 n3 hn0 hn1 hb2 hb3) (W := W) (args := _) (.cons hx0 (.cons hx1 (.cons (.int _ _) (.cons (.int _ _) .nil))))).mono ?_
  rintro e W' ⟨rfl, he, hk⟩
  exact ⟨_, rfl, post_true (tb := 4) rfl Try.underlying4 (by kernel_rfl) (by decide +kernel) rfl hW' (fun hg => by subst hg; rfl) he hk⟩

set_option maxRecDepth 100000 in
theorem lifted (os : Os) (started : os.Started) (H : Type) (enc : TypeId × Value → H) :
    ReturnsInHanded {} Try.checked os 5 .any (Rows.fordNamedSpec.pre6 enc Try.prog Try.f5 Rows.fordNamedRow.domain false) (Rows.fordNamedSpec.post enc Try.prog Try.f5 false true false false) := by
  refine returnsInHanded_of_change (C := Try.checked) ownK started (by kernel_rfl) Try.func5
    (ChangeSpec.witness6 (enc := enc) (C := Try.checked) false ⟨#[], #[.slice none 0 0, .slice none 0 0, .int .u8 0, .int .u8 0], []⟩ 8 (by kernel_rfl) (by kernel_rfl) (by kernel_rfl) (by kernel_rfl)) ?_
  intro W base args ds gs before hval0 hW hcnd _
  exact contract H enc W base args ds gs before hval0 hW

theorem over : Rows.fordNamedRow.holds Try.pinned (OpenSpec.ofChange Rows.fordNamedSpec) :=
  OpenClaim.holds_of_wide 5 Try.f5 rfl rfl rfl rfl rfl rfl rfl ⟨rfl, rfl, rfl, rfl, rfl⟩ rfl rfl rfl rfl rfl (by kernel_rfl) Try.func5 (by kernel_rfl)
    (of_decide_eq_true (by kernel_rfl)) (by unfold Func.isWrapper; first | (rw [if_pos (by decide +kernel)]; kernel_rfl) | (rw [if_neg (by decide +kernel)]; exact ⟨rfl, rfl⟩))
    (fun os started H enc _ => lifted os started H enc)

theorem proved : Rows.FordNamedSaid := over
#print axioms proved
end Go.Proofs.Ytinbgkoefajhbaa.fordNamed
