/- With too few carts the heaviest sacks go, and a load of them needs no more carts. -/
import Derived.Test.YtinbgkoefajhbaaP6
namespace Go.Proofs.Ytinbgkoefajhbaa.sackFew
open Go Go.RowKit Go.ChangeShapes Go.WideShapes Go.ChangeAt GA
set_option linter.unusedVariables false

set_option maxRecDepth 100000 in
theorem contract (H : Type) (enc : TypeId × Value → H) (W : World) (base : Nat) (args : Array Value) (ds gs : List (DataW H)) (before : List MemPlace)
    (hval : ∀ (j : Nat) t v, Try.f6.params[j]? = some t → args[j]? = some v → Value.okWide Try.prog W .any base t v)
    (hW : DataW.Whole enc Try.prog Try.f6.params.toList Rows.sackFewSpec.vars false W args.toList ds gs before) :
    Calls Try.prog 6 args W fun e W' => ∃ v, e = .returned v ∧ Rows.sackFewSpec.post enc Try.prog Try.f6 false true false false W args v W' := by
  have hW' := hW
  obtain ⟨p, q, hA, hV, rfl, hfz, _⟩ := hW
  rw [Try.params6] at hA hval
  obtain ⟨v0, vs0, d0, ds0, p0, q0, hargs, rfl, rfl, h0, r0⟩ := trodAll_cons hA
  obtain ⟨v1, vs1, d1, ds1, p1, q1, rfl, rfl, rfl, h1, r1⟩ := trodAll_cons r0
  obtain ⟨v2, vs2, d2, ds2, p2, q2, rfl, rfl, rfl, h2, r2⟩ := trodAll_cons r1
  obtain ⟨rfl, rfl, rfl⟩ := trodAll_nil r2
  obtain rfl : args = #[v0, v1, v2] := Array.ext' hargs
  obtain ⟨a0, len0, cap0, rfl, hl0⟩ := okWide_len Try.underlying22 (hval 0 22 v0 rfl rfl)
  obtain ⟨⟨nl0, xs0⟩, hx0⟩ := oBytes.arg (g := fun p : Bool × List Int => AV.sl p.1 (GA.bytes p.2)) rfl h0
  have hn0 : xs0.length < 9223372036854775808 := by have := rep_len hx0; rw [List.length_map] at this; dsimp only at this; omega
  obtain ⟨a1, len1, cap1, rfl, hl1⟩ := okWide_len Try.underlying22 (hval 1 22 v1 rfl rfl)
  obtain ⟨⟨nl1, xs1⟩, hx1⟩ := oBytes.arg (g := fun p : Bool × List Int => AV.sl p.1 (GA.bytes p.2)) rfl h1
  have hn1 : xs1.length < 9223372036854775808 := by have := rep_len hx1; rw [List.length_map] at this; dsimp only at this; omega
  obtain ⟨n2, rfl, hb2⟩ := okWide_has Try.underlying5 (hval 2 5 v2 rfl rfl)
  refine (Comp.law (sackFew_c nl0 nl1 xs0 xs1 n2 hn0 hn1 hb2) (W := W) (args := _) (.cons hx0 (.cons hx1 (.cons (.int _ _) .nil)))).mono ?_
  rintro e W' ⟨rfl, he, hk⟩
  exact ⟨_, rfl, post_true (tb := 4) rfl Try.underlying4 (by kernel_rfl) (by decide +kernel) rfl hW' (fun hg => by subst hg; rfl) he hk⟩

set_option maxRecDepth 100000 in
theorem lifted (os : Os) (started : os.Started) (H : Type) (enc : TypeId × Value → H) :
    ReturnsInHanded {} Try.checked os 6 .any (Rows.sackFewSpec.pre6 enc Try.prog Try.f6 Rows.sackFewRow.domain false) (Rows.sackFewSpec.post enc Try.prog Try.f6 false true false false) := by
  refine returnsInHanded_of_change (C := Try.checked) ownK started (by kernel_rfl) Try.func6
    (ChangeSpec.witness6 (enc := enc) (C := Try.checked) false ⟨#[], #[.slice none 0 0, .slice none 0 0, .int .u8 0], []⟩ 8 (by kernel_rfl) (by kernel_rfl) (by kernel_rfl) (by kernel_rfl)) ?_
  intro W base args ds gs before hval0 hW hcnd _
  exact contract H enc W base args ds gs before hval0 hW

theorem over : Rows.sackFewRow.holds Try.pinned (OpenSpec.ofChange Rows.sackFewSpec) :=
  OpenClaim.holds_of_wide 6 Try.f6 rfl rfl rfl rfl rfl rfl rfl ⟨rfl, rfl, rfl, rfl, rfl⟩ rfl rfl rfl rfl rfl (by kernel_rfl) Try.func6 (by kernel_rfl)
    (of_decide_eq_true (by kernel_rfl)) (by unfold Func.isWrapper; first | (rw [if_pos (by decide +kernel)]; kernel_rfl) | (rw [if_neg (by decide +kernel)]; exact ⟨rfl, rfl⟩))
    (fun os started H enc _ => lifted os started H enc)

theorem proved : Rows.SackFewSaid := over
#print axioms proved
end Go.Proofs.Ytinbgkoefajhbaa.sackFew
