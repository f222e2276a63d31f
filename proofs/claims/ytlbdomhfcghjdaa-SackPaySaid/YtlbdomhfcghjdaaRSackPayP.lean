/- SackPay holds: whatever the load, the pay, the sharing and the fraction, the call returns true and leaves its arguments as they were. No condition. -/
import Derived.Test.YtlbdomhfcghjdaaP8
namespace Go.Proofs.Ytlbdomhfcghjdaa.sackPay
open Go Go.RowKit Go.ChangeShapes Go.WideShapes Go.ChangeAt GA
set_option linter.unusedVariables false

theorem oRatio : Opens Try.prog 87 2 (fun d : Int × Int => (rtA d).cells) :=
  (Opens.struct Try.underlying87 (by kernel_rfl) (.cons oInt rfl (.cons oInt rfl .nil))).as (fun p => ⟨(p.1.1, p.2.1.1), rfl⟩) (fun _ => rfl)
set_option maxRecDepth 100000 in
theorem contract (H : Type) (enc : TypeId × Value → H) (W : World) (base : Nat) (args : Array Value) (ds gs : List (DataW H)) (before : List MemPlace)
    (hval : ∀ (j : Nat) t v, Try.f12.params[j]? = some t → args[j]? = some v → Value.okWide Try.prog W .any base t v)
    (hW : DataW.Whole enc Try.prog Try.f12.params.toList Rows.sackPaySpec.vars false W args.toList ds gs before) :
    Calls Try.prog 12 args W fun e W' => ∃ v, e = .returned v ∧ Rows.sackPaySpec.post enc Try.prog Try.f12 false true false false W args v W' := by
  have hW' := hW
  obtain ⟨p, q, hA, hV, rfl, hfz, _⟩ := hW
  rw [Try.params12] at hA hval
  obtain ⟨v0, vs0, d0, ds0, p0, q0, hargs, rfl, rfl, h0, r0⟩ := trodAll_cons hA
  obtain ⟨v1, vs1, d1, ds1, p1, q1, rfl, rfl, rfl, h1, r1⟩ := trodAll_cons r0
  obtain ⟨v2, vs2, d2, ds2, p2, q2, rfl, rfl, rfl, h2, r2⟩ := trodAll_cons r1
  obtain ⟨v3, vs3, d3, ds3, p3, q3, rfl, rfl, rfl, h3, r3⟩ := trodAll_cons r2
  obtain ⟨rfl, rfl, rfl⟩ := trodAll_nil r3
  obtain rfl : args = #[v0, v1, v2, v3] := Array.ext' hargs
  obtain ⟨c0, rfl, hz0⟩ := okWide_struct Try.underlying26 (hval 0 26 v0 rfl rfl)
  obtain ⟨ld0, hx0⟩ := oLoad.argS hz0 h0
  have hn0 := ld_nil hx0
  obtain ⟨n1, rfl, hb1⟩ := okWide_has Try.underlying3 (hval 1 3 v1 rfl rfl)
  obtain ⟨a2, len2, cap2, rfl, hl2⟩ := okWide_len Try.underlying30 (hval 2 30 v2 rfl rfl)
  obtain ⟨⟨nl2, xs2⟩, hx2⟩ := oInts.arg (g := fun p : Bool × List Int => AV.sl p.1 (GA.ints p.2)) rfl h2
  have hn2 : xs2.length < 9223372036854775808 := by have := rep_len hx2; rw [List.length_map] at this; dsimp only at this; omega
  obtain ⟨c3, rfl, hz3⟩ := okWide_struct Try.underlying87 (hval 3 87 v3 rfl rfl)
  obtain ⟨rt3, hx3⟩ := oRatio.argS hz3 h3
  refine (Comp.law (sackPay_c ld0 hn0 n1 nl2 xs2 rt3) (W := W) (args := _) (.cons hx0 (.cons (.int _ _) (.cons hx2 (.cons hx3 .nil))))).mono ?_
  rintro e W' ⟨rfl, he, hk⟩
  exact ⟨_, rfl, post_true (tb := 4) rfl Try.underlying4 (by kernel_rfl) (by decide +kernel) rfl hW' (fun hg => by subst hg; rfl) he hk⟩

set_option maxRecDepth 100000 in
theorem lifted (os : Os) (started : os.Started) (H : Type) (enc : TypeId × Value → H) :
    ReturnsInHanded {} Try.checked os 12 .any (Rows.sackPaySpec.pre6 enc Try.prog Try.f12 Rows.sackPayRow.domain false) (Rows.sackPaySpec.post enc Try.prog Try.f12 false true false false) := by
  refine returnsInHanded_of_change (C := Try.checked) ownK started (by kernel_rfl) Try.func12
    (ChangeSpec.witness6 (enc := enc) (C := Try.checked) false ⟨#[], #[.agg #[.int .i64 0, .int .i64 0, .slice none 0 0, .slice none 0 0, .slice none 0 0], .int .i64 0, .slice none 0 0, .agg #[.int .i64 0, .int .i64 0]], []⟩ 8 (by kernel_rfl) (by kernel_rfl) (by kernel_rfl) (by kernel_rfl)) ?_
  intro W base args ds gs before hval0 hW hcnd _
  exact contract H enc W base args ds gs before hval0 hW

theorem over : Rows.sackPayRow.holds Try.pinned (OpenSpec.ofChange Rows.sackPaySpec) :=
  OpenClaim.holds_of_wide 12 Try.f12 rfl rfl rfl rfl rfl rfl rfl ⟨rfl, rfl, rfl, rfl, rfl⟩ rfl rfl rfl rfl rfl (by kernel_rfl) Try.func12 (by kernel_rfl)
    (of_decide_eq_true (by kernel_rfl)) (by unfold Func.isWrapper; first | (rw [if_pos (by decide +kernel)]; kernel_rfl) | (rw [if_neg (by decide +kernel)]; exact ⟨rfl, rfl⟩))
    (fun os started H enc _ => lifted os started H enc)

theorem proved : Rows.SackPaySaid := over
#print axioms proved
end Go.Proofs.Ytlbdomhfcghjdaa.sackPay
