/- TopBoiled returns true: whatever the numbers and the three bytes. No condition. -/
import Derived.Test.YtdeocemmlagnhaaGreatP7
namespace Go.Proofs.YtdeocemmlagnhaaGreat.topBoiled
open Go Go.RowKit Go.ChangeShapes Go.WideShapes Go.ChangeAt GA
set_option linter.unusedVariables false

set_option maxRecDepth 100000 in
theorem contract (H : Type) (enc : TypeId × Value → H) (W : World) (base : Nat) (args : Array Value) (ds gs : List (DataW H)) (before : List MemPlace)
  (hval : ∀ (j : Nat) t v,Tryz.f6.params[j]? = some t → args[j]? = some v → Value.okWide Tryz.prog W .any base t v)
  (hW : DataW.Whole enc Tryz.prog Tryz.f6.params.toList Rows.topBoiledSpec.vars false W args.toList ds gs before) :
  Calls Tryz.prog 6 args W fun e W'=>∃ v,e = .returned v ∧ Rows.topBoiledSpec.post enc Tryz.prog Tryz.f6 false true false false W args v W':=by
 have hW':=hW
 obtain ⟨p,q,hA,hV,rfl,hfz,_⟩:=hW
 rw [Tryz.params6] at hA hval
 obtain ⟨v0,vs0,d0,ds0,p0,q0,hargs,rfl,rfl,h0,r0⟩:=trodAll_cons hA
 obtain ⟨v1,vs1,d1,ds1,p1,q1,rfl,rfl,rfl,h1,r1⟩:=trodAll_cons r0
 obtain ⟨v2,vs2,d2,ds2,p2,q2,rfl,rfl,rfl,h2,r2⟩:=trodAll_cons r1
 obtain ⟨v3,vs3,d3,ds3,p3,q3,rfl,rfl,rfl,h3,r3⟩:=trodAll_cons r2
 obtain ⟨rfl,rfl,rfl⟩:=trodAll_nil r3
 obtain rfl : args = #[v0,v1,v2,v3]:=Array.ext' hargs
 obtain ⟨a0,len0,cap0,rfl,hl0⟩:=zbv Tryz.underlying85 (hval 0 85 v0 rfl rfl)
 obtain ⟨⟨nl0,xs0⟩,hx0⟩:=oBytes.arg (g:=fun p : Bool × List Int=>AV.sl p.1 (GA.bytes p.2)) rfl h0
 have hn0 : xs0.length < 9223372036854775808:=by have:=rep_len hx0;rw [List.length_map] at this;dsimp only at this;omega
 obtain ⟨n1,rfl,hb1⟩:=wy Tryz.underlying5 (hval 1 5 v1 rfl rfl)
 obtain ⟨n2,rfl,hb2⟩:=wy Tryz.underlying5 (hval 2 5 v2 rfl rfl)
 obtain ⟨n3,rfl,hb3⟩:=wy Tryz.underlying5 (hval 3 5 v3 rfl rfl)
 refine (Comp.law (zaT nl0 xs0 n1 n2 n3 hn0 hb1 hb2 hb3) (W:=W) (args:=_) (.cons hx0 (.cons (.int _ _) (.cons (.int _ _) (.cons (.int _ _) .nil))))).mono ?_
 rintro e W' ⟨rfl,he,hk⟩
 exact ⟨_,rfl,post_true (tb:=4) rfl Tryz.underlying4 (by kernel_rfl) (by decide +kernel) rfl hW' (fun hg=>by subst hg;rfl) he hk⟩

set_option maxRecDepth 100000 in
theorem lifted (os : Os) (started : os.Started) (H : Type) (enc : TypeId × Value → H) :
  ReturnsInHanded {} Tryz.checked os 6 .any (Rows.topBoiledSpec.pre6 enc Tryz.prog Tryz.f6 Rows.topBoiledRow.domain false) (Rows.topBoiledSpec.post enc Tryz.prog Tryz.f6 false true false false):=by
 refine returnsInHanded_of_change (C:=Tryz.checked) ownK started (by kernel_rfl) Tryz.func6
  (ChangeSpec.witness6 (enc:=enc) (C:=Tryz.checked) false ⟨#[],#[.slice none 0 0,.int .u8 0,.int .u8 0,.int .u8 0],[]⟩ 8 (by kernel_rfl) (by kernel_rfl) (by kernel_rfl) (by kernel_rfl)) ?_
 intro W base args ds gs before hval0 hW hcnd _
 exact contract H enc W base args ds gs before hval0 hW

theorem and_tt {a b : Bool} (h1 : a = true) (h2 : b = true) : (a && b) = true:=by rw [h1,h2];rfl
theorem j1 : (Rows.topBoiledRow.wf (OpenSpec.ofChange Rows.topBoiledSpec)) = true:=by kernel_rfl
theorem j2 : (laidOutB Tryz.pinned.checked.prog) = true:=by kernel_rfl
theorem j3 : (mapsRowed Tryz.pinned.checked.prog) = true:=by kernel_rfl
theorem j4 : (Tryz.f6.params.all (Tryz.pinned.checked.prog.readableRec ·)) = true:=by kernel_rfl
theorem j5 : (namedTie Tryz.pinned.checked.prog Rows.topBoiledRow.named Rows.topBoiledSpec.vars) = true:=by kernel_rfl
theorem j6 : (Rows.topBoiledRow.stops == []) = true:=by kernel_rfl
theorem j7 : (Tryz.pinned.checked.prog.stops == []) = true:=by kernel_rfl
theorem j8 : (Rows.topBoiledRow.knobs == []) = true:=by kernel_rfl
theorem j9 : (Tryz.pinned.checked.prog.stopKnobs == []) = true:=by kernel_rfl
theorem j10 : (Rows.topBoiledRow.inPlace == Tryz.pinned.checked.prog.inPlace 6) = true:=by kernel_rfl
theorem j11 : (Rows.topBoiledRow.unfollowed == Tryz.pinned.checked.prog.unfollowed 6) = true:=by kernel_rfl
theorem j12 : (Rows.topBoiledRow.recurses == Tryz.pinned.checked.prog.recurses 6) = true:=by kernel_rfl
theorem j13 : (Rows.topBoiledRow.named == Tryz.pinned.checked.prog.varsNamed 6) = true:=by kernel_rfl
theorem j14 : (Rows.topBoiledRow.maps == (Tryz.f6.params.toList ++ Rows.topBoiledSpec.plain.varTypes Tryz.pinned.checked.prog).any (Tryz.pinned.checked.prog.mapsRec ·)) = true:=by kernel_rfl
theorem j15 : (Rows.topBoiledRow.ifaces == (Tryz.f6.params.toList ++ Rows.topBoiledSpec.plain.varTypes Tryz.pinned.checked.prog).any (Tryz.pinned.checked.prog.ifacesRec ·)) = true:=by kernel_rfl
theorem j16 : (Rows.topBoiledRow.mapsOut == Tryz.pinned.checked.prog.mapsAmong Tryz.f6.resultTypes.toList) = true:=by kernel_rfl
theorem j17 : (Rows.topBoiledRow.loops == (Tryz.f6.params.toList ++ Rows.topBoiledSpec.plain.varTypes Tryz.pinned.checked.prog).any (Tryz.pinned.checked.prog.loopsFrom ·)) = true:=by kernel_rfl
theorem j18 : (Rows.topBoiledRow.wideKeys == (Tryz.f6.params.toList ++ Rows.topBoiledSpec.plain.varTypes Tryz.pinned.checked.prog ++ Tryz.f6.resultTypes.toList).any (Tryz.pinned.checked.prog.wideKeysFrom ·)) = true:=by kernel_rfl
theorem j19 : (Rows.topBoiledSpec.vars.all (Tryz.pinned.checked.prog.varReadable ·)) = true:=by kernel_rfl
theorem j20 : (Tryz.f6.resultTypes.all (fun t=>Tryz.pinned.checked.prog.readableRec t && decide (t < Tryz.pinned.checked.prog.types.size))) = true:=by kernel_rfl
theorem j21 : (Rows.topBoiledRow.ifacesOut == Tryz.f6.resultTypes.toList.any (Tryz.pinned.checked.prog.ifacesRec ·)) = true:=by kernel_rfl
theorem j22 : (Rows.topBoiledRow.loopsOut == Tryz.f6.resultTypes.toList.any (Tryz.pinned.checked.prog.loopsFrom ·)) = true:=by kernel_rfl
theorem j23 : (Rows.topBoiledRow.plainKeys == Tryz.pinned.checked.prog.plainKeys) = true:=by kernel_rfl
theorem j24 : (Rows.topBoiledRow.shortTexts.isNone) = true:=by kernel_rfl
theorem j25 : (Tryz.pinned.checked.prog.stopsHeard) = true:=by kernel_rfl
theorem j26 : (Tryz.pinned.checked.prog.mayEnter) = true:=by kernel_rfl
theorem j27 : (Rows.topBoiledRow.lifted == Tryz.pinned.checked.prog.liftsFinal) = true:=by kernel_rfl
theorem j28 : (Tryz.pinned.checked.prog.make == some Rows.topBoiledRow.make) = true:=by kernel_rfl
theorem j29 : (Rows.topBoiledRow.kinds == (if Rows.topBoiledRow.domain.isEmpty then [] else Tryz.f6.params.toList.map fun t=>match Tryz.pinned.checked.prog.underlying t with | some (.int k)=>some k | _=>none)) = true:=by kernel_rfl
theorem j30 : (Rows.topBoiledRow.pinned == Rows.topBoiledRow.pinnedBy) = true:=by kernel_rfl
theorem j31 : (Rows.topBoiledRow.veiled == (Tryz.f6.params.toList ++ Rows.topBoiledSpec.plain.varTypes Tryz.pinned.checked.prog ++ Tryz.f6.resultTypes.toList).any (Tryz.pinned.checked.prog.veiledRec ·)) = true:=by kernel_rfl
theorem j32 : (Rows.topBoiledRow.veiledFits Tryz.pinned.checked.prog Tryz.f6.params.toList (Tryz.f6.params.toList ++ Rows.topBoiledSpec.plain.varTypes Tryz.pinned.checked.prog ++ Tryz.f6.resultTypes.toList)) = true:=by kernel_rfl
set_option maxRecDepth 100000 in
theorem joined : joinedFacts Tryz.pinned.checked.prog 6 Tryz.f6 Rows.topBoiledSpec Rows.topBoiledRow = true:=by
 unfold joinedFacts
 exact and_tt (and_tt (and_tt (and_tt (and_tt (and_tt (and_tt (and_tt (and_tt (and_tt (and_tt (and_tt (and_tt (and_tt (and_tt (and_tt (and_tt (and_tt (and_tt (and_tt (and_tt (and_tt (and_tt (and_tt (and_tt (and_tt (and_tt (and_tt (and_tt (and_tt (and_tt (j1) j2) j3) j4) j5) j6) j7) j8) j9) j10) j11) j12) j13) j14) j15) j16) j17) j18) j19) j20) j21) j22) j23) j24) j25) j26) j27) j28) j29) j30) j31) j32
theorem inst : Tryz.f6.isInstance Tryz.pinned.checked.prog Rows.topBoiledRow.origin Rows.topBoiledRow.targs:=of_decide_eq_true (by kernel_rfl)
theorem wrap : Tryz.f6.isWrapper Tryz.pinned.checked.prog Rows.topBoiledRow.wrapper Rows.topBoiledRow.mainSum:=by unfold Func.isWrapper;first|(rw [if_pos (by decide +kernel)];kernel_rfl)|(rw [if_neg (by decide +kernel)];exact ⟨rfl,rfl⟩)
theorem over : Rows.topBoiledRow.holds Tryz.pinned (OpenSpec.ofChange Rows.topBoiledSpec):=
 OpenClaim.holds_of_wide 6 Tryz.f6 rfl rfl rfl rfl rfl rfl rfl ⟨rfl,rfl,rfl,rfl,rfl⟩ rfl rfl rfl rfl rfl (by kernel_rfl) Tryz.func6 joined
  inst wrap
  (fun os started H enc _=>lifted os started H enc)

theorem proved : Rows.TopBoiledSaid:=over
#print axioms proved
end Go.Proofs.YtdeocemmlagnhaaGreat.topBoiled
