/- FordSmall returns true: a closed statement, proved without conditions. -/
import Derived.Test.YtdeocemmlagnhaaGreatP9
namespace Go.Proofs.YtdeocemmlagnhaaGreat.fordSmall
open Go Go.RowKit Go.ChangeShapes Go.WideShapes Go.ChangeAt GA
set_option linter.unusedVariables false

set_option maxRecDepth 100000 in
theorem contract (H : Type) (enc : TypeId × Value → H) (W : World) (base : Nat) (args : Array Value) (ds gs : List (DataW H)) (before : List MemPlace)
  (hval : ∀ (j : Nat) t v,Tryz.f3.params[j]? = some t → args[j]? = some v → Value.okWide Tryz.prog W .any base t v)
  (hW : DataW.Whole enc Tryz.prog Tryz.f3.params.toList Rows.fordSmallSpec.vars false W args.toList ds gs before) :
  Calls Tryz.prog 3 args W fun e W'=>∃ v,e = .returned v ∧ Rows.fordSmallSpec.post enc Tryz.prog Tryz.f3 false true false false W args v W':=by
 have hW':=hW
 obtain ⟨p,q,hA,hV,rfl,hfz,_⟩:=hW
 rw [Tryz.params3] at hA hval
 obtain ⟨hargs,rfl,rfl⟩:=trodAll_nil hA
 obtain rfl : args = #[]:=Array.ext' hargs
 refine (Comp.law (zc4 ) (W:=W) (args:=_) .nil).mono ?_
 rintro e W' ⟨rfl,he,hk⟩
 exact ⟨_,rfl,post_true (tb:=4) rfl Tryz.underlying4 (by kernel_rfl) (by decide +kernel) rfl hW' (fun hg=>by subst hg;rfl) he hk⟩

set_option maxRecDepth 100000 in
theorem lifted (os : Os) (started : os.Started) (H : Type) (enc : TypeId × Value → H) :
  ReturnsInHanded {} Tryz.checked os 3 .any (Rows.fordSmallSpec.pre6 enc Tryz.prog Tryz.f3 Rows.fordSmallRow.domain false) (Rows.fordSmallSpec.post enc Tryz.prog Tryz.f3 false true false false):=by
 refine returnsInHanded_of_change (C:=Tryz.checked) ownK started (by kernel_rfl) Tryz.func3
  (ChangeSpec.witness6 (enc:=enc) (C:=Tryz.checked) false ⟨#[],#[],[]⟩ 8 (by kernel_rfl) (by kernel_rfl) (by kernel_rfl) (by kernel_rfl)) ?_
 intro W base args ds gs before hval0 hW hcnd _
 exact contract H enc W base args ds gs before hval0 hW

theorem and_tt {a b : Bool} (h1 : a = true) (h2 : b = true) : (a && b) = true:=by rw [h1,h2];rfl
theorem j1 : (Rows.fordSmallRow.wf (OpenSpec.ofChange Rows.fordSmallSpec)) = true:=by kernel_rfl
theorem j2 : (laidOutB Tryz.pinned.checked.prog) = true:=by kernel_rfl
theorem j3 : (mapsRowed Tryz.pinned.checked.prog) = true:=by kernel_rfl
theorem j4 : (Tryz.f3.params.all (Tryz.pinned.checked.prog.readableRec ·)) = true:=by kernel_rfl
theorem j5 : (namedTie Tryz.pinned.checked.prog Rows.fordSmallRow.named Rows.fordSmallSpec.vars) = true:=by kernel_rfl
theorem j6 : (Rows.fordSmallRow.stops == []) = true:=by kernel_rfl
theorem j7 : (Tryz.pinned.checked.prog.stops == []) = true:=by kernel_rfl
theorem j8 : (Rows.fordSmallRow.knobs == []) = true:=by kernel_rfl
theorem j9 : (Tryz.pinned.checked.prog.stopKnobs == []) = true:=by kernel_rfl
theorem j10 : (Rows.fordSmallRow.inPlace == Tryz.pinned.checked.prog.inPlace 3) = true:=by kernel_rfl
theorem j11 : (Rows.fordSmallRow.unfollowed == Tryz.pinned.checked.prog.unfollowed 3) = true:=by kernel_rfl
theorem j12 : (Rows.fordSmallRow.recurses == Tryz.pinned.checked.prog.recurses 3) = true:=by kernel_rfl
theorem j13 : (Rows.fordSmallRow.named == Tryz.pinned.checked.prog.varsNamed 3) = true:=by kernel_rfl
theorem j14 : (Rows.fordSmallRow.maps == (Tryz.f3.params.toList ++ Rows.fordSmallSpec.plain.varTypes Tryz.pinned.checked.prog).any (Tryz.pinned.checked.prog.mapsRec ·)) = true:=by kernel_rfl
theorem j15 : (Rows.fordSmallRow.ifaces == (Tryz.f3.params.toList ++ Rows.fordSmallSpec.plain.varTypes Tryz.pinned.checked.prog).any (Tryz.pinned.checked.prog.ifacesRec ·)) = true:=by kernel_rfl
theorem j16 : (Rows.fordSmallRow.mapsOut == Tryz.pinned.checked.prog.mapsAmong Tryz.f3.resultTypes.toList) = true:=by kernel_rfl
theorem j17 : (Rows.fordSmallRow.loops == (Tryz.f3.params.toList ++ Rows.fordSmallSpec.plain.varTypes Tryz.pinned.checked.prog).any (Tryz.pinned.checked.prog.loopsFrom ·)) = true:=by kernel_rfl
theorem j18 : (Rows.fordSmallRow.wideKeys == (Tryz.f3.params.toList ++ Rows.fordSmallSpec.plain.varTypes Tryz.pinned.checked.prog ++ Tryz.f3.resultTypes.toList).any (Tryz.pinned.checked.prog.wideKeysFrom ·)) = true:=by kernel_rfl
theorem j19 : (Rows.fordSmallSpec.vars.all (Tryz.pinned.checked.prog.varReadable ·)) = true:=by kernel_rfl
theorem j20 : (Tryz.f3.resultTypes.all (fun t=>Tryz.pinned.checked.prog.readableRec t && decide (t < Tryz.pinned.checked.prog.types.size))) = true:=by kernel_rfl
theorem j21 : (Rows.fordSmallRow.ifacesOut == Tryz.f3.resultTypes.toList.any (Tryz.pinned.checked.prog.ifacesRec ·)) = true:=by kernel_rfl
theorem j22 : (Rows.fordSmallRow.loopsOut == Tryz.f3.resultTypes.toList.any (Tryz.pinned.checked.prog.loopsFrom ·)) = true:=by kernel_rfl
theorem j23 : (Rows.fordSmallRow.plainKeys == Tryz.pinned.checked.prog.plainKeys) = true:=by kernel_rfl
theorem j24 : (Rows.fordSmallRow.shortTexts.isNone) = true:=by kernel_rfl
theorem j25 : (Tryz.pinned.checked.prog.stopsHeard) = true:=by kernel_rfl
theorem j26 : (Tryz.pinned.checked.prog.mayEnter) = true:=by kernel_rfl
theorem j27 : (Rows.fordSmallRow.lifted == Tryz.pinned.checked.prog.liftsFinal) = true:=by kernel_rfl
theorem j28 : (Tryz.pinned.checked.prog.make == some Rows.fordSmallRow.make) = true:=by kernel_rfl
theorem j29 : (Rows.fordSmallRow.kinds == (if Rows.fordSmallRow.domain.isEmpty then [] else Tryz.f3.params.toList.map fun t=>match Tryz.pinned.checked.prog.underlying t with | some (.int k)=>some k | _=>none)) = true:=by kernel_rfl
theorem j30 : (Rows.fordSmallRow.pinned == Rows.fordSmallRow.pinnedBy) = true:=by kernel_rfl
theorem j31 : (Rows.fordSmallRow.veiled == (Tryz.f3.params.toList ++ Rows.fordSmallSpec.plain.varTypes Tryz.pinned.checked.prog ++ Tryz.f3.resultTypes.toList).any (Tryz.pinned.checked.prog.veiledRec ·)) = true:=by kernel_rfl
theorem j32 : (Rows.fordSmallRow.veiledFits Tryz.pinned.checked.prog Tryz.f3.params.toList (Tryz.f3.params.toList ++ Rows.fordSmallSpec.plain.varTypes Tryz.pinned.checked.prog ++ Tryz.f3.resultTypes.toList)) = true:=by kernel_rfl
set_option maxRecDepth 100000 in
theorem joined : joinedFacts Tryz.pinned.checked.prog 3 Tryz.f3 Rows.fordSmallSpec Rows.fordSmallRow = true:=by
 unfold joinedFacts
 exact and_tt (and_tt (and_tt (and_tt (and_tt (and_tt (and_tt (and_tt (and_tt (and_tt (and_tt (and_tt (and_tt (and_tt (and_tt (and_tt (and_tt (and_tt (and_tt (and_tt (and_tt (and_tt (and_tt (and_tt (and_tt (and_tt (and_tt (and_tt (and_tt (and_tt (and_tt (j1) j2) j3) j4) j5) j6) j7) j8) j9) j10) j11) j12) j13) j14) j15) j16) j17) j18) j19) j20) j21) j22) j23) j24) j25) j26) j27) j28) j29) j30) j31) j32
theorem inst : Tryz.f3.isInstance Tryz.pinned.checked.prog Rows.fordSmallRow.origin Rows.fordSmallRow.targs:=of_decide_eq_true (by kernel_rfl)
theorem wrap : Tryz.f3.isWrapper Tryz.pinned.checked.prog Rows.fordSmallRow.wrapper Rows.fordSmallRow.mainSum:=by unfold Func.isWrapper;first|(rw [if_pos (by decide +kernel)];kernel_rfl)|(rw [if_neg (by decide +kernel)];exact ⟨rfl,rfl⟩)
theorem over : Rows.fordSmallRow.holds Tryz.pinned (OpenSpec.ofChange Rows.fordSmallSpec):=
 OpenClaim.holds_of_wide 3 Tryz.f3 rfl rfl rfl rfl rfl rfl rfl ⟨rfl,rfl,rfl,rfl,rfl⟩ rfl rfl rfl rfl rfl (by kernel_rfl) Tryz.func3 joined
  inst wrap
  (fun os started H enc _=>lifted os started H enc)

theorem proved : Rows.FordSmallSaid:=over
#print axioms proved
end Go.Proofs.YtdeocemmlagnhaaGreat.fordSmall
