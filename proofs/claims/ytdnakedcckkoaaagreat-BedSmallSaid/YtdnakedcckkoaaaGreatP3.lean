/- Part 3 of a proof: Abs18, Tab, Abs19, Abs20, Abs21, Abs22, Abs23, Abs24, Abs25, Abs26, Abs27, Abs28, Abs29, Abs30, Abs31, Abs32, Abs34, AbsS, Abs35, AbsI. -/
import Derived.Test.YtdnakedcckkoaaaGreatP2
import Derived.Test.YtdnakedcckkoaaaGreatProg
import Derived.KernelRfl
import Derived.OrdersIn
import Derived.WalkKit
import Derived.ProofKit
import Derived.OpenShut
import Derived.ChangeArms
import Derived.WideKeyArgs
import Derived.Deep.Slices
import Derived.Shelf.Spec.SlicesInsert
import Derived.Shelf.Spec.SlicesInsertGrow
set_option linter.unusedVariables false
set_option linter.unusedSimpArgs false
set_option maxRecDepth 8000
section
namespace GA
open Go Go.RowKit
section
variable {P : Program} {t : TypeId} {ag : Bool} {n : Nat} {z : Option AV} {q : Option Nat}
def fu (P : Program) (t : TypeId) : Nat -> List (Nat × Bool × Nat) -> Prop
 | _, [] => True
 | i, x :: l => fldK P t i = some x /\ fu P t (i + 1) l
theorem fu.get : ∀ {fs : List (Nat × Bool × Nat)} {j i : Nat} {x : Nat × Bool × Nat}, fu P t j fs -> lget fs i = some x -> fldK P t (j + i) = some x
 | _ :: _, j, 0, x, h, e => by cases e; exact h.1
 | _ :: l, j, i + 1, x, h, e => by
   have := fu.get (fs := l) (j := j + 1) (i := i) h.2 e
   rwa [show j + 1 + i = j + (i + 1) by omega] at this
def isStT (P : Program) (t : TypeId) : Bool := match P.underlying t with | some (.struct _) => true | _ => false
theorem place_st (hu : isStT P t = true) {i : Nat} {x : Nat × Bool × Nat} (h : fldK P t i = some x) : kQ P t i = some (x.1, x.2.2) := by
 unfold isStT at hu; split at hu
 ·rename_i e; unfold kQ; rw [e]; simp [h]
 ·cases hu
theorem TeOk.st {fs : List (Nat × Bool × Nat)} (h1 : tyK P t = some (ag, n)) (h2 : sz P t = n) (h3 : ∀ z', z = some z' -> yg P t = some z') (hu : isStT P t = true) (hf : fu P t 0 fs) (ha : allK P t = true) (hq : ∀ n, q = some n -> wG P t = some n) : TeOk P t ⟨ag, n, z, .st fs, q⟩ :=
 ⟨h1, h2, h3, ⟨fun i x e => by have := hf.get e; rw [Nat.zero_add] at this; exact ⟨this, place_st hu this⟩, ha⟩, hq⟩
theorem TeOk.ar {m : Nat} {el : TypeId} {ag' : Bool} {w : Nat} (h1 : tyK P t = some (ag, n)) (h2 : sz P t = n) (h3 : ∀ z', z = some z' -> yg P t = some z') (hu : P.underlying t = some (.array m el)) (hf : arK P t = some (m, ag', w)) (ha : allK P t = true) (hq : ∀ n, q = some n -> wG P t = some n) : TeOk P t ⟨ag, n, z, .ar m ag' w, q⟩ :=
 ⟨h1, h2, h3, ⟨hf, ha, fun i => by unfold kQ; rw [hu]; simp [hf]⟩, hq⟩
theorem qsome {n n' : Nat} (h : wG P t = some n) : some n = some n' -> wG P t = some n' := fun e => e ▸ h
theorem qnone {n' : Nat} : none = some n' -> wG P t = some n' := nofun
theorem zsome {z z' : AV} (h : yg P t = some z) : some z = some z' -> yg P t = some z' := fun e => e ▸ h
theorem znone {z' : AV} : none = some z' -> yg P t = some z' := nofun
end
end GA
end
section
namespace GA
open Go Go.Proofs
set_option maxRecDepth 100000
@[irreducible] def rep (n : Nat) (x : AV) : List AV := List.replicate n x
section
variable {P : Program} {t n : Nat} {ag : Bool} {z : AV}
theorem TeOk.c (h1 : tyK P t = some (ag, n) := by kernel_rfl) (h2 : sz P t = n := by kernel_rfl) (h3 : yg P t = some z := by kernel_rfl) : TeOk P t ⟨ag, n, some z, .oth, none⟩ := ⟨h1, h2, fun _ => zsome h3, trivial, fun _ => qnone⟩
theorem TeOk.c0 (h1 : tyK P t = some (ag, n) := by kernel_rfl) (h2 : sz P t = n := by kernel_rfl) : TeOk P t ⟨ag, n, none, .oth, none⟩ := ⟨h1, h2, fun _ => znone, trivial, fun _ => qnone⟩
theorem TeOk.i {q : IntKind} (h1 : tyK P t = some (ag, n) := by kernel_rfl) (h2 : sz P t = n := by kernel_rfl) (h3 : yg P t = some z := by kernel_rfl) (h4 : P.underlying t = some (.int q) := by kernel_rfl) : TeOk P t ⟨ag, n, some z, .int q, none⟩ := ⟨h1, h2, fun _ => zsome h3, h4, fun _ => qnone⟩
theorem TeOk.bo (h1 : tyK P t = some (ag, n) := by kernel_rfl) (h2 : sz P t = n := by kernel_rfl) (h3 : yg P t = some z := by kernel_rfl) (h4 : vP P t := by (unfold vP; kernel_rfl)) : TeOk P t ⟨ag, n, some z, .bool, none⟩ := ⟨h1, h2, fun _ => zsome h3, h4, fun _ => qnone⟩
theorem TeOk.s (e : TypeId) {el w b : Nat} {ze : AV} (h1 : tyK P t = some (ag, n) := by kernel_rfl) (h2 : sz P t = n := by kernel_rfl) (h3 : yg P t = some z := by kernel_rfl) (h4 : slE P t = some (el, w, b) := by kernel_rfl) (h5 : slK P t = some w := by kernel_rfl) (h6 : P.underlying t = some (.slice e) := by kernel_rfl) (h7 : yg P el = some ze := by kernel_rfl) : TeOk P t ⟨ag, n, some z, .sl el w b ze, none⟩ := ⟨h1, h2, fun _ => zsome h3, ⟨h4, h5, ⟨e, h6⟩, h7⟩, fun _ => qnone⟩
theorem TeOk.m {ze : AV} (h1 : tyK P t = some (ag, n) := by kernel_rfl) (h2 : sz P t = n := by kernel_rfl) (h3 : yg P t = some z := by kernel_rfl) (h4 : mapT P t = some ze := by kernel_rfl) : TeOk P t ⟨ag, n, some z, .mp ze, none⟩ := ⟨h1, h2, fun _ => zsome h3, h4, fun _ => qnone⟩
theorem TeOk.a (el : TypeId) {m w : Nat} {ag' : Bool} (h1 : tyK P t = some (ag, n) := by kernel_rfl) (h2 : sz P t = n := by kernel_rfl) (h3 : yg P t = some z := by kernel_rfl) (h4 : P.underlying t = some (.array m el) := by kernel_rfl) (h5 : arK P t = some (m, ag', w) := by kernel_rfl) (h6 : allK P t = true := by kernel_rfl) : TeOk P t ⟨ag, n, some z, .ar m ag' w, none⟩ := .ar h1 h2 (fun _ => zsome h3) h4 h5 h6 fun _ => qnone
theorem TeOk.aq (el : TypeId) {m w q : Nat} {ag' : Bool} (h1 : tyK P t = some (ag, n) := by kernel_rfl) (h2 : sz P t = n := by kernel_rfl) (h3 : yg P t = some z := by kernel_rfl) (h4 : P.underlying t = some (.array m el) := by kernel_rfl) (h5 : arK P t = some (m, ag', w) := by kernel_rfl) (h6 : allK P t = true := by kernel_rfl) (h7 : wG P t = some q := by kernel_rfl) : TeOk P t ⟨ag, n, some z, .ar m ag' w, some q⟩ := .ar h1 h2 (fun _ => zsome h3) h4 h5 h6 fun _ => qsome h7
theorem TeOk.u {fs : List (Nat × Bool × Nat)} (h1 : tyK P t = some (ag, n) := by kernel_rfl) (h2 : sz P t = n := by kernel_rfl) (h3 : yg P t = some z := by kernel_rfl) (h4 : isStT P t = true := by kernel_rfl) (h5 : fu P t 0 fs := by (repeat' first | exact trivial | refine And.intro ?_ ?_ | kernel_rfl)) (h6 : allK P t = true := by kernel_rfl) : TeOk P t ⟨ag, n, some z, .st fs, none⟩ := .st h1 h2 (fun _ => zsome h3) h4 h5 h6 fun _ => qnone
theorem TeOk.uq {fs : List (Nat × Bool × Nat)} {q : Nat} (h1 : tyK P t = some (ag, n) := by kernel_rfl) (h2 : sz P t = n := by kernel_rfl) (h3 : yg P t = some z := by kernel_rfl) (h4 : isStT P t = true := by kernel_rfl) (h5 : fu P t 0 fs := by (repeat' first | exact trivial | refine And.intro ?_ ?_ | kernel_rfl)) (h6 : allK P t = true := by kernel_rfl) (h7 : wG P t = some q := by kernel_rfl) : TeOk P t ⟨ag, n, some z, .st fs, some q⟩ := .st h1 h2 (fun _ => zsome h3) h4 h5 h6 fun _ => qsome h7
end
def te1 : TE := ⟨false, 1, some (.nilf), .oth, none⟩
theorem te1_ok : TeOk Tryz.prog 1 te1 := .c
def te2 : TE := ⟨false, 1, some (.int .i64 0), .int .i64, none⟩
theorem te2_ok : TeOk Tryz.prog 2 te2 := .i
def te3 : TE := ⟨false, 1, some (.int .i64 0), .int .i64, none⟩
theorem te3_ok : TeOk Tryz.prog 3 te3 := .i
def te4 : TE := ⟨false, 1, some (.bool false), .bool, none⟩
theorem te4_ok : TeOk Tryz.prog 4 te4 := .bo
def te5 : TE := ⟨false, 1, some (.int .u8 0), .int .u8, none⟩
theorem te5_ok : TeOk Tryz.prog 5 te5 := .i
def te7 : TE := ⟨true, 4, some (.agg [.int .i64 0, .int .i64 0, .bool false, .int .u8 0]), .st [(0, false, 1), (1, false, 1), (2, false, 1), (3, false, 1)], none⟩
theorem te7_ok : TeOk Tryz.prog 7 te7 := .u
def te18 : TE := ⟨true, 1, some (.agg [.nilp]), .st [(0, false, 1)], none⟩
theorem te18_ok : TeOk Tryz.prog 18 te18 := .u
def te22 : TE := ⟨false, 1, some (.sl true []), .sl 3 1 8 (.int .i64 0), none⟩
theorem te22_ok : TeOk Tryz.prog 22 te22 := .s 3
def te23 : TE := ⟨false, 1, some (.sl true []), .sl 22 1 24 (.sl true []), none⟩
theorem te23_ok : TeOk Tryz.prog 23 te23 := .s 22
def te36 : TE := ⟨false, 1, some (.int .i64 0), .int .i64, none⟩
theorem te36_ok : TeOk Tryz.prog 36 te36 := .i
def te39 : TE := ⟨false, 1, some (.nilp), .oth, none⟩
theorem te39_ok : TeOk Tryz.prog 39 te39 := .c
def te41 : TE := ⟨true, 2, some (.agg [.int .i64 0, .int .i64 0]), .st [(0, false, 1), (1, false, 1)], some 2⟩
theorem te41_ok : TeOk Tryz.prog 41 te41 := .uq
def te42 : TE := ⟨true, 2, some (.agg [.int .i64 0, .int .i64 0]), .st [(0, false, 1), (1, false, 1)], some 2⟩
theorem te42_ok : TeOk Tryz.prog 42 te42 := .uq
def te43 : TE := ⟨false, 1, some (.sl true []), .sl 42 2 16 (.agg [.int .i64 0, .int .i64 0]), none⟩
theorem te43_ok : TeOk Tryz.prog 43 te43 := .s 42
def te47 : TE := ⟨false, 1, some (.sl true []), .sl 39 1 8 (.nilp), none⟩
theorem te47_ok : TeOk Tryz.prog 47 te47 := .s 39
def te58 : TE := ⟨true, 6, some (.agg [.int .i64 0, .int .i64 0, .int .i64 0, .int .i64 0, .int .i64 0, .int .i64 0]), .st [(0, false, 1), (1, false, 1), (2, true, 2), (4, true, 2)], some 6⟩
theorem te58_ok : TeOk Tryz.prog 58 te58 := .uq
def te59 : TE := ⟨true, 6, some (.agg [.int .i64 0, .int .i64 0, .int .i64 0, .int .i64 0, .int .i64 0, .int .i64 0]), .st [(0, false, 1), (1, false, 1), (2, true, 2), (4, true, 2)], some 6⟩
theorem te59_ok : TeOk Tryz.prog 59 te59 := .uq
def te60 : TE := ⟨false, 1, some (.sl true []), .sl 59 6 48 (.agg [.int .i64 0, .int .i64 0, .int .i64 0, .int .i64 0, .int .i64 0, .int .i64 0]), none⟩
theorem te60_ok : TeOk Tryz.prog 60 te60 := .s 59
def te61 : TE := ⟨true, 3, some (.agg [.int .i64 0, .int .i64 0, .int .i64 0]), .st [(0, false, 1), (1, true, 2)], some 3⟩
theorem te61_ok : TeOk Tryz.prog 61 te61 := .uq
def te62 : TE := ⟨true, 3, some (.agg [.int .i64 0, .int .i64 0, .int .i64 0]), .st [(0, false, 1), (1, true, 2)], some 3⟩
theorem te62_ok : TeOk Tryz.prog 62 te62 := .uq
def te64 : TE := ⟨false, 1, some (.sl true []), .sl 62 3 24 (.agg [.int .i64 0, .int .i64 0, .int .i64 0]), none⟩
theorem te64_ok : TeOk Tryz.prog 64 te64 := .s 62
def te65 : TE := ⟨true, 5, some (.agg [.int .i64 0, .int .i64 0, .int .i64 0, .sl true [], .sl true []]), .st [(0, false, 1), (1, false, 1), (2, false, 1), (3, false, 1), (4, false, 1)], none⟩
theorem te65_ok : TeOk Tryz.prog 65 te65 := .u
def te66 : TE := ⟨true, 5, some (.agg [.int .i64 0, .int .i64 0, .int .i64 0, .sl true [], .sl true []]), .st [(0, false, 1), (1, false, 1), (2, false, 1), (3, false, 1), (4, false, 1)], none⟩
theorem te66_ok : TeOk Tryz.prog 66 te66 := .u
def te67 : TE := ⟨true, 2, some (.agg [.int .i64 0, .int .i64 0]), .st [(0, false, 1), (1, false, 1)], some 2⟩
theorem te67_ok : TeOk Tryz.prog 67 te67 := .uq
def te68 : TE := ⟨true, 2, some (.agg [.int .i64 0, .int .i64 0]), .st [(0, false, 1), (1, false, 1)], some 2⟩
theorem te68_ok : TeOk Tryz.prog 68 te68 := .uq
def te108 : TE := ⟨false, 1, some (.nilf), .oth, none⟩
theorem te108_ok : TeOk Tryz.prog 108 te108 := .c
def te157 : TE := ⟨false, 1, some (.nilf), .oth, none⟩
theorem te157_ok : TeOk Tryz.prog 157 te157 := .c
def te158 : TE := ⟨false, 1, some (.nilf), .oth, none⟩
theorem te158_ok : TeOk Tryz.prog 158 te158 := .c
def te163 : TE := ⟨false, 1, some (.nilp), .oth, none⟩
theorem te163_ok : TeOk Tryz.prog 163 te163 := .c
def te164 : TE := ⟨false, 1, some (.nilm), .mp (.sl true []), none⟩
theorem te164_ok : TeOk Tryz.prog 164 te164 := .m
def te165 : TE := ⟨true, 6, some (.agg [.int .i64 0, .int .i64 0, .int .i64 0, .sl true [], .sl true [], .nilm]), .st [(0, true, 5), (5, false, 1)], none⟩
theorem te165_ok : TeOk Tryz.prog 165 te165 := .u
def te166 : TE := ⟨true, 6, some (.agg [.int .i64 0, .int .i64 0, .int .i64 0, .sl true [], .sl true [], .nilm]), .st [(0, true, 5), (5, false, 1)], none⟩
theorem te166_ok : TeOk Tryz.prog 166 te166 := .u
def te167 : TE := ⟨false, 1, some (.sl true []), .sl 173 121 121 (.agg (List.replicate 121 (.bool false))), none⟩
theorem te167_ok : TeOk Tryz.prog 167 te167 := .s 173
def te169 : TE := ⟨true, 1, some (.agg [.nilf]), .st [(0, false, 1)], none⟩
theorem te169_ok : TeOk Tryz.prog 169 te169 := .u
def te170 : TE := ⟨true, 1, some (.agg [.nilf]), .st [(0, false, 1)], none⟩
theorem te170_ok : TeOk Tryz.prog 170 te170 := .u
def te172 : TE := ⟨true, 121, some (.agg (List.replicate 121 (.bool false))), .ar 121 false 1, some 1048697⟩
theorem te172_ok : TeOk Tryz.prog 172 te172 := .aq 4
def te173 : TE := ⟨true, 121, some (.agg (List.replicate 121 (.bool false))), .ar 121 false 1, some 1048697⟩
theorem te173_ok : TeOk Tryz.prog 173 te173 := .aq 4
def te175 : TE := ⟨false, 1, some (.nilf), .oth, none⟩
theorem te175_ok : TeOk Tryz.prog 175 te175 := .c
def te176 : TE := ⟨false, 1, some (.nilf), .oth, none⟩
theorem te176_ok : TeOk Tryz.prog 176 te176 := .c
def te180 : TE := ⟨false, 1, some (.sl true []), .sl 181 121 968 (.agg (List.replicate 121 (.int .i64 0))), none⟩
theorem te180_ok : TeOk Tryz.prog 180 te180 := .s 181
def te181 : TE := ⟨true, 121, some (.agg (List.replicate 121 (.int .i64 0))), .ar 121 false 1, some 121⟩
theorem te181_ok : TeOk Tryz.prog 181 te181 := .aq 3
def te186 : TE := ⟨false, 1, some (.sl true []), .sl 284 6 48 (.agg [.int .i64 0, .int .i64 0, .int .i64 0, .int .i64 0, .int .i64 0, .int .i64 0]), none⟩
theorem te186_ok : TeOk Tryz.prog 186 te186 := .s 284
def te187 : TE := ⟨false, 1, some (.sl true []), .sl 285 3 24 (.agg [.int .i64 0, .int .i64 0, .int .i64 0]), none⟩
theorem te187_ok : TeOk Tryz.prog 187 te187 := .s 285
def te188 : TE := ⟨true, 5, some (.agg [.int .i64 0, .int .i64 0, .int .i64 0, .sl true [], .sl true []]), .st [(0, false, 1), (1, false, 1), (2, false, 1), (3, false, 1), (4, false, 1)], none⟩
theorem te188_ok : TeOk Tryz.prog 188 te188 := .u
def te189 : TE := ⟨true, 5, some (.agg [.int .i64 0, .int .i64 0, .int .i64 0, .sl true [], .sl true []]), .st [(0, false, 1), (1, false, 1), (2, false, 1), (3, false, 1), (4, false, 1)], none⟩
theorem te189_ok : TeOk Tryz.prog 189 te189 := .u
def te194 : TE := ⟨true, 2, some (.agg [.int .i64 0, .int .i64 0]), .st [(0, false, 1), (1, false, 1)], some 2⟩
theorem te194_ok : TeOk Tryz.prog 194 te194 := .uq
def te195 : TE := ⟨false, 1, some (.sl true []), .sl 198 1 24 (.sl true []), none⟩
theorem te195_ok : TeOk Tryz.prog 195 te195 := .s 198
def te196 : TE := ⟨false, 1, some (.sl true []), .sl 195 1 24 (.sl true []), none⟩
theorem te196_ok : TeOk Tryz.prog 196 te196 := .s 195
def te198 : TE := ⟨false, 1, some (.sl true []), .sl 4 1 1 (.bool false), none⟩
theorem te198_ok : TeOk Tryz.prog 198 te198 := .s 4
def te211 : TE := ⟨false, 1, some (.sl true []), .sl 68 2 16 (.agg [.int .i64 0, .int .i64 0]), none⟩
theorem te211_ok : TeOk Tryz.prog 211 te211 := .s 68
def te215 : TE := ⟨false, 1, some (.sl true []), .sl 194 2 16 (.agg [.int .i64 0, .int .i64 0]), none⟩
theorem te215_ok : TeOk Tryz.prog 215 te215 := .s 194
def te231 : TE := ⟨false, 1, some (.nilf), .oth, none⟩
theorem te231_ok : TeOk Tryz.prog 231 te231 := .c
def te234 : TE := ⟨false, 1, some (.nilf), .oth, none⟩
theorem te234_ok : TeOk Tryz.prog 234 te234 := .c
def te284 : TE := ⟨true, 6, some (.agg [.int .i64 0, .int .i64 0, .int .i64 0, .int .i64 0, .int .i64 0, .int .i64 0]), .st [(0, false, 1), (1, false, 1), (2, true, 2), (4, true, 2)], some 6⟩
theorem te284_ok : TeOk Tryz.prog 284 te284 := .uq
def te285 : TE := ⟨true, 3, some (.agg [.int .i64 0, .int .i64 0, .int .i64 0]), .st [(0, false, 1), (1, true, 2)], some 3⟩
theorem te285_ok : TeOk Tryz.prog 285 te285 := .uq
def te315 : TE := ⟨false, 1, some (.nilf), .oth, none⟩
theorem te315_ok : TeOk Tryz.prog 315 te315 := .c
def te319 : TE := ⟨false, 1, some (.int .u64 0), .int .u64, none⟩
theorem te319_ok : TeOk Tryz.prog 319 te319 := .i
def te326 : TE := ⟨false, 1, some (.int .u32 0), .int .u32, none⟩
theorem te326_ok : TeOk Tryz.prog 326 te326 := .i
def te329 : TE := ⟨false, 1, some (.int .u64 0), .int .u64, none⟩
theorem te329_ok : TeOk Tryz.prog 329 te329 := .i
def tab : Tab := [none, some te1, some te2, some te3, some te4, some te5, none, some te7, none, none, none, none, none, none, none, none, none, none, some te18, none, none, none, some te22, some te23, none, none, none, none, none, none, none, none, none, none, none, none, some te36, none, none, some te39, none, some te41, some te42, some te43, none, none, none, some te47, none, none, none, none, none, none, none, none, none, none, some te58, some te59, some te60, some te61, some te62, none, some te64, some te65, some te66, some te67, some te68, none, none, none, none, none, none, none, none, none, none, none, none, none, none, none, none, none, none, none, none, none, none, none, none, none, none, none, none, none, none, none, none, none, none, none, none, none, none, none, some te108, none, none, none, none, none, none, none, none, none, none, none, none, none, none, none, none, none, none, none, none, none, none, none, none, none, none, none, none, none, none, none, none, none, none, none, none, none, none, none, none, none, none, none, none, none, none, none, none, some te157, some te158, none, none, none, none, some te163, some te164, some te165, some te166, some te167, none, some te169, some te170, none, some te172, some te173, none, some te175, some te176, none, none, none, some te180, some te181, none, none, none, none, some te186, some te187, some te188, some te189, none, none, none, none, some te194, some te195, some te196, none, some te198, none, none, none, none, none, none, none, none, none, none, none, none, some te211, none, none, none, some te215, none, none, none, none, none, none, none, none, none, none, none, none, none, none, none, some te231, none, none, some te234, none, none, none, none, none, none, none, none, none, none, none, none, none, none, none, none, none, none, none, none, none, none, none, none, none, none, none, none, none, none, none, none, none, none, none, none, none, none, none, none, none, none, none, none, none, none, none, none, none, some te284, some te285, none, none, none, none, none, none, none, none, none, none, none, none, none, none, none, none, none, none, none, none, none, none, none, none, none, none, none, none, none, some te315, none, none, none, some te319, none, none, none, none, none, none, some te326, none, none, some te329]
theorem zb : zE Tryz.prog tab := ⟨te1_ok, te2_ok, te3_ok, te4_ok, te5_ok, te7_ok, te18_ok, te22_ok, te23_ok, te36_ok, te39_ok, te41_ok, te42_ok, te43_ok, te47_ok, te58_ok, te59_ok, te60_ok, te61_ok, te62_ok, te64_ok, te65_ok, te66_ok, te67_ok, te68_ok, te108_ok, te157_ok, te158_ok, te163_ok, te164_ok, te165_ok, te166_ok, te167_ok, te169_ok, te170_ok, te172_ok, te173_ok, te175_ok, te176_ok, te180_ok, te181_ok, te186_ok, te187_ok, te188_ok, te189_ok, te194_ok, te195_ok, te196_ok, te198_ok, te211_ok, te215_ok, te231_ok, te234_ok, te284_ok, te285_ok, te315_ok, te319_ok, te326_ok, te329_ok, trivial⟩
end GA
end
section
namespace GA
open Go Go.RowKit
def xPend (P : Program) (T : Tab) (N : Nat) (own : List Nat) (Q : Post) (D : List Nat) (σ : St) (H : List Blk) (pend : Option Code) : Prop :=
 match pend with
 | none => Q .normal D σ H
 | some c => XRun P T N none own c Q D σ H
def zaV (P : Program) (T : Tab) (N : Nat) (own : List Nat) (Q : Post) (D : List Nat) (σ : St) (i : Nat) (H : List Blk) : Prop :=
 match lget H i with
 | some (.lp st pend _ _ _ _ _ _) => match st with
   | .busy => False
   | _ => hset H i .dead fun H' => xPend P T N own Q D σ H' pend
 | _ => False
def xPuts : List Nat -> List AV -> St -> Option St
 | [], [], σ => some σ
 | t :: ts, r :: rs, σ => xPuts ts rs (updX σ t r)
 | _, _, _ => none
def xRound (i : Nat) (K : AV -> List Blk -> Prop) : Post := fun e _ _ H =>
 match lget H i with
 | some (.lp _ _ f tm ps x y n) => match e with
   | .normal => hset H i (.lp .ready none f tm ps x y n) fun H' => K (.bool true) H'
   | .ret => hset H i (.lp .done (some .ret) f tm ps x y n) fun H' => K (.bool false) H'
   | .exit id => hset H i (.lp .done (some (.exit id)) f tm ps x y n) fun H' => K (.bool false) H'
   | _ => False
 | _ => False
def xBegin (P : Program) (T : Tab) (own : List Nat) (i : Nat) (K : AV -> List Blk -> Prop) (ρ : Option Nat) : Post := fun e D σ H =>
 match e, lget H i with
 | .normal, some (.lp .ready pend f tm ps x y n) => hset H i (.lp .busy pend f tm ps x y n) fun H' => XRun P T n ρ own y (xRound i K) D σ H'
 | _, _ => False
section
variable {P : Program} {T : Tab} {N : Nat} {ρ : Option Nat} {own : List Nat} {E : Env} {h : Nat -> Option Obj} {β : Nat -> Value} {H : List Blk} {w : World} {σ : St} {a : Act} {D : List Nat}
theorem fT : ∀ {ts : List Nat} {rs : List AV} {vs : List Value} {σ σ' : St} {tmps : Array Value}, xPuts ts rs σ = some σ' -> RepL P h β H rs vs -> (∀ t ∈ ts, t < tmps.size) ->
  (∀ t r, σ t = some r -> ∃ v, tmps[t]? = some v /\ Rep P h β H r v) -> vs.length = ts.length /\
  ∀ t r, σ' t = some r -> ∃ v, ((ts.zip vs).foldl (fun (tmps : Array Value) (x : Nat × Value) => tmps.setIfInBounds x.1 x.2) tmps)[t]? = some v /\ Rep P h β H r v
 | [], [], vs, σ, σ', tmps, e, hr, _, F => by
   cases e
   have : vs = [] := List.eq_nil_of_length_eq_zero hr.1
   subst this; exact ⟨rfl, F⟩
 | t :: ts, r :: rs, vs, σ, σ', tmps, e, hr, hb, F => by
   cases vs with
   | nil => have := hr.1; simp at this
   | cons v vs =>
     obtain ⟨v', e1, e2⟩ := hr.2 0 r rfl
     simp at e1; subst e1
     have hr' : RepL P h β H rs vs := ⟨by have := hr.1; simpa using this, fun j x ex => by have := hr.2 (j + 1) x (by simpa using ex); simpa using this⟩
     have F' : ∀ u x, updX σ t r u = some x -> ∃ y, (tmps.setIfInBounds t v)[u]? = some y /\ Rep P h β H x y := by
      intro u x ex
      rw [yV] at ex; unfold upd at ex
      by_cases hu : u = t
      ·subst hu; simp at ex; subst ex
       exact ⟨v, by simp [hb u (by simp)], e2⟩
      ·simp [hu] at ex
       obtain ⟨y, g1, g2⟩ := F u x ex
       exact ⟨y, by rw [Array.getElem?_setIfInBounds_ne (Ne.symm hu)]; exact g1, g2⟩
     obtain ⟨g1, g2⟩ := fT (tmps := tmps.setIfInBounds t v) (show xPuts ts rs (updX σ t r) = some σ' from e) hr' (fun u hu => by simpa using hb u (by simp [hu])) F'
     exact ⟨by simp [g1], by simpa using g2⟩
 | [], _ :: _, _, _, _, _, e, _, _, _ => by cases e
 | _ :: _, [], _, _, _, _, e, _, _, _ => by cases e
theorem Walk.range {g : Operand} {ps : Array Tmp} {assign body : Code} {Q : Post} {f : FuncId} {caps : List AV} (ok : zE P T) (tm : List (Nat × AV)) (hg : ev σ g = some (.fn f caps)) (ht : SubX tm σ)
  (x : ∀ fn, za P f (.yld (H.length + 1) :: caps) (H ++ [.raw (.deferred (some []))] ++ [.lp .ready none fn tm ps assign body N]) fun _ H' => zaV P T N own Q (H.length :: D) σ (H.length + 1) H') :
  Walk P N none (.rangeFunc g ps assign body) Q D σ H := by
 constructor
 intro E h β a w s
 refine wpIn_rangeFunc fun fn _ => ?_
 have hf := s.fits.ev hg
 generalize hv : a.eval g = fval at hf
 cases hf with
 | @fn _ _ vs us hs hc hr =>
   obtain ⟨hent, hcall⟩ := (x fn).o
   let w1 := (w.alloc (.deferred (some []))).alloc (.loop { state := .ready, pending := none, fn, tmps := a.tmps, params := ps, assign, body, defers := w.heap.size })
   -- the blocks
   obtain ⟨s1, X1⟩ := s.sr.push (w' := w.alloc (.deferred (some []))) s.sr.env (fun k hk => Below.heap_alloc _ _ _ hk) (.pointer (some ⟨w.heap.size, 0, none⟩)) (.raw (.deferred (some []))) (by intro b hb; simp [anchor] at hb; omega)
    (fun X => ⟨w.heap.size, by simp [upb], heap_alloc_new w _⟩)
   have hsz : (w.alloc (.deferred (some []))).heap.size = w.heap.size + 1 := World.size_alloc _ _
   obtain ⟨s2, X2⟩ := s1.push (w' := w1) s.sr.env (fun k hk => Below.heap_alloc _ _ _ hk) (.pointer (some ⟨w.heap.size + 1, 0, none⟩)) (.lp .ready none fn tm ps assign body N) (by intro b hb; simp [anchor] at hb; omega)
    (fun X => ⟨w.heap.size + 1, w.heap.size, a.tmps, by simp [upb], by rw [<- hsz]; exact heap_alloc_new _ _, s.size, fun t r e => by
     have : σ t = some r := by
      have : ∀ (l : List (Nat × AV)), SubX l σ -> (t, r) ∈ l -> σ t = some r := by
       intro l; induction l with
       | nil => intro _ h; cases h
       | cons p l ih => intro h1 h2; rcases List.mem_cons.1 h2 with h2 | h2
                        ·subst h2; exact h1.1
                        ·exact ih h1.2 h2
      exact this tm ht e
     obtain ⟨v, e1, e2⟩ := s.fits t r this
     exact ⟨v, e1, X.rep (X1.rep e2)⟩⟩)
   have hl2 : (H ++ [Blk.raw (.deferred (some []))]).length = H.length + 1 := by simp
   rw [hl2] at s2 X2
   have X := X1.trans X2
   have hlp : (H ++ [Blk.raw (.deferred (some []))] ++ [Blk.lp .ready none fn tm ps assign body N])[H.length + 1]? = some (.lp .ready none fn tm ps assign body N) := by
    rw [List.getElem?_append_right (by simp)]; simp
   have hraw : (H ++ [Blk.raw (.deferred (some []))] ++ [Blk.lp .ready none fn tm ps assign body N])[H.length]? = some (.raw (.deferred (some []))) := by
    rw [List.getElem?_append_left (by simp), List.getElem?_append_right (by simp)]; simp
   have hy : Rep P h (upb (upb β H.length (.pointer (some ⟨w.heap.size, 0, none⟩))) (H.length + 1) (.pointer (some ⟨w.heap.size + 1, 0, none⟩))) (H ++ [.raw (.deferred (some []))] ++ [.lp .ready none fn tm ps assign body N]) (.yld (H.length + 1)) (.func (.yield (w.heap.size + 1)) #[] #[]) :=
    .yld (.of hlp rfl) fun y _ _ => by simp [upb]
   have hmk : Rep P h (upb (upb β H.length (.pointer (some ⟨w.heap.size, 0, none⟩))) (H.length + 1) (.pointer (some ⟨w.heap.size + 1, 0, none⟩))) (H ++ [.raw (.deferred (some []))] ++ [.lp .ready none fn tm ps assign body N]) (.yld H.length) (.func (.yield w.heap.size) #[] #[]) :=
    .yld (.of hraw rfl) fun y _ _ => by simp [upb]
   have hargs : RepL P h (upb (upb β H.length (.pointer (some ⟨w.heap.size, 0, none⟩))) (H.length + 1) (.pointer (some ⟨w.heap.size + 1, 0, none⟩))) (H ++ [.raw (.deferred (some []))] ++ [.lp .ready none fn tm ps assign body N]) (.yld (H.length + 1) :: caps) (.func (.yield (w.heap.size + 1)) #[] #[] :: vs.toList) :=
    .cons hy ⟨by simpa using hs, fun j y e => ⟨us j, by simpa using hc j y e, X.rep (hr j y e)⟩⟩
   have hres : (resolve a.eval (rangeCall g (w.heap.size + 1)) 0).run P w1 = .ok { target := .fn (.func f) vs, args := #[.func (.yield (w.heap.size + 1)) #[] #[]] } w1 := by
    have hcst : ∀ v, a.eval (.const v) = v := fun _ => rfl
    simp [resolve, hv, Deferred.ofValue, hcst]
   have hinv : (invoke (.fn (.func f) vs) #[.func (.yield (w.heap.size + 1)) #[] #[]]).run P w1 = .ok (.enter f (.func (.yield (w.heap.size + 1)) #[] #[] :: vs.toList).toArray) w1 := by
    have : (#[Value.func (.yield (w.heap.size + 1)) #[] #[]] ++ vs) = (.func (.yield (w.heap.size + 1)) #[] #[] :: vs.toList).toArray := by apply Array.ext'; simp
    simp only [invoke, wq hent, this]
   refine ⟨w.heap.size + 1, _, w1, _, w1, f, _, w1, run_enterLoop_outer fn a.tmps ps assign body, hres, fun _ _ => trivial, hinv, fun h => by simp at h, ?_⟩
   have hc2 := hcall E h _ w1 _ s2 hargs
   refine (show CallsIn (FW none) (0 - 1) P f _ w1 _ from hc2.mono ?_)
   rintro e w' ⟨r, H', h', β', v, rfl, hk, X', s', _⟩
   -- the end
   unfold zaV at hk
   split at hk
   case h_2 => exact hk.elim
   rename_i st pend f' tm' ps' as' bo' n' hl
   rw [zu] at hl
   have hto := X'.to _ _ _ hlp hl
   rcases hto with hd | ⟨st2, pend2, he, hβ⟩
   ·cases hd
   ·cases he
    have hβ1 : β' (H.length + 1) = .pointer (some ⟨w.heap.size + 1, 0, none⟩) := by rw [hβ]; simp [upb]
    obtain ⟨b, dfr, tmps, h1, h2, h3, h4⟩ := s'.blk _ _ hl
    rw [hβ1] at h1; cases h1
    have hnb : st ≠ .busy := by rintro rfl; exact hk
    have hk2 : hset H' (H.length + 1) .dead fun H' => xPend P T N own Q (H.length :: D) σ H' pend := by
     cases st with
     | busy => exact hk.elim
     | ready => exact hk
     | done => exact hk
     | exhausted => exact hk
    obtain ⟨hlt, hk3⟩ := z5 hk2
    have hbo : blkOf β' H' (H.length + 1) = some (w.heap.size + 1) := by simp only [blkOf, hl, hβ1]; rfl
    obtain ⟨s3, X3⟩ := s'.modify (β' := β') (w' := w'.putObj (w.heap.size + 1) (.loop { state := .exhausted, pending := pend, fn := fn, tmps := tmps, params := ps, assign := assign, body := body, defers := dfr })) (x' := .dead) hl (fun _ _ => rfl) (.inl rfl) s'.env
     (fun q _ hn => World.putObj_heap_other (fun e => hn (by rw [hbo, e]))) (fun b e => .inl (by rw [hbo]; rw [hβ1] at e; exact e)) (fun _ => trivial)
    have Xall := X.trans (X'.trans X3)
    have hst : kj P E N h' β' (H.length :: D) σ (H'.set (H.length + 1) .dead) { a with defers := [{ target := .collected w.heap.size, args := #[] }] ++ a.defers } (w'.putObj (w.heap.size + 1) (.loop { state := .exhausted, pending := pend, fn := fn, tmps := tmps, params := ps, assign := assign, body := body, defers := dfr })) := by
     exact ⟨s3, s.fits.ext Xall, s.size, ⟨(s.df.ext Xall).en, .own ((X'.trans X3).rep hmk) (s.df.ext Xall).l⟩⟩
    refine ⟨pend, _, run_endLoop h2 hnb, ?_⟩
    cases pend with
    | none => exact ⟨_, _, _, _, _, hk3, Xall, hst⟩
    | some c => exact wpIn_mono (XRun.sound ok hk3 E h' β' _ _ hst) fun _ _ _ => Conc.ext Xall
theorem jH.go {i : Nat} {rs : List AV} {K : AV -> List Blk -> Prop} {pend : Option Code} {f : FuncId} {tm : List (Nat × AV)} {ps : Array Tmp} {assign body : Code} {σ0 : St} (ok : zE P T) (hl : lget H i = some (.lp .ready pend f tm ps assign body N)) (hp : xPuts ps.toList rs (stX tm) = some σ0)
  (hb : ∀ t ∈ ps.toList, t < N) (x : ∀ ρ, XRun P T N ρ own assign (xBegin P T own i K ρ) [] σ0 H) : jH P i rs H K := by
 rw [zu] at hl
 refine ⟨(List.getElem?_eq_some_iff.1 hl).1, fun E h β w b vs s hr hβ => ?_⟩
 have hβ := hβ _ hl rfl
 obtain ⟨b', dfr, tmps, h1, h2, h3, h4⟩ := s.blk _ _ hl
 rw [hβ] at h1; cases h1
 obtain ⟨hlen, F⟩ := fT (tmps := tmps) hp hr (fun t ht => by rw [h3]; exact hb t ht) (fun t r e => by
  have : ∀ (l : List (Nat × AV)), stX l t = some r -> (t, r) ∈ l := by
   intro l; induction l with
   | nil => intro h; cases h
   | cons p l ih =>
     obtain ⟨u, x⟩ := p
     intro h; simp only [stX, yV, upd] at h
     split at h
     ·rename_i e; cases h; subst e; exact List.mem_cons_self
     ·exact List.mem_cons_of_mem _ (ih h)
  exact h4 t r (this tm e))
 have hzip : ((ps.zip vs.toArray).foldl (fun (tmps : Array Value) (x : Nat × Value) => tmps.setIfInBounds x.1 x.2) tmps) = ((ps.toList.zip vs).foldl (fun (tmps : Array Value) (x : Nat × Value) => tmps.setIfInBounds x.1 x.2) tmps) := by
  rw [<- Array.foldl_toList]; simp
 refine ⟨f, _, assign, body, run_yield h2 (by simp [hlen]), ?_⟩
 refine roundIn_of_wpIn trivial ?_
 have hF : (FW none).inRound b = FW (some b) := rfl
 rw [hF]
 have hsz : ∀ (l : List (Nat × Value)) (tmps : Array Value), (l.foldl (fun (tmps : Array Value) (x : Nat × Value) => tmps.setIfInBounds x.1 x.2) tmps).size = tmps.size := by
  intro l; induction l with
  | nil => intro _; rfl
  | cons p l ih => intro tmps; simp [ih]
 have st0 : kj P ⟨E.b, E.fr, h⟩ N h β [] σ0 H { tmps := (ps.zip vs.toArray).foldl (fun (tmps : Array Value) (x : Nat × Value) => tmps.setIfInBounds x.1 x.2) tmps, defers := [] } w :=
  ⟨s.en h, fun t r e => by rw [hzip]; exact F t r e, by rw [hzip]; exact (hsz _ _).trans h3, ⟨fun _ _ e => e, .nil⟩⟩
 refine wpIn_mono (XRun.sound ok (x (some b)) ⟨E.b, E.fr, h⟩ h β _ w st0) ?_
 rintro e a1 w1 ⟨D1, σ1, H1, h1', β1, q, X1, s1⟩
 have hq : e = .normal /\ ∃ pend' f' tm' ps' x' y' n', lget H1 i = some (.lp .ready pend' f' tm' ps' x' y' n') /\ hset H1 i (.lp .busy pend' f' tm' ps' x' y' n') fun H' => XRun P T n' (some b) own y' (xRound i K) D1 σ1 H' := by
  unfold xBegin at q; split at q
  ·rename_i hh; exact ⟨rfl, _, _, _, _, _, _, _, hh, q⟩
  ·exact q.elim
 obtain ⟨rfl, pend', f', tm', ps', x', y', n', g1, g2⟩ := hq
 rw [zu] at g1
 have hβ1 : β1 i = β i /\ body = y' /\ N = n' := by
  rcases X1.to _ _ _ hl g1 with hd | ⟨_, _, he, hb1⟩
  ·cases hd
  ·cases he; exact ⟨hb1, rfl, rfl⟩
 obtain ⟨hβ1, rfl, rfl⟩ := hβ1
 rw [hβ] at hβ1
 obtain ⟨b', dfr', tmps', k1, k2, k3, k4⟩ := s1.sr.blk _ _ g1
 rw [hβ1] at k1; cases k1
 obtain ⟨hlt, g3⟩ := z5 g2
 refine ⟨_, run_beginRound k2 rfl, ?_⟩
 have hbo : blkOf β1 H1 i = some b := by simp only [blkOf, g1, hβ1]; rfl
 have hbs : b < w1.heap.size := (Array.getElem?_eq_some_iff.1 k2).1
 obtain ⟨s2, X2⟩ := s1.sr.modify (β' := β1) (w' := w1.putObj b (.loop { state := .busy, pending := pend', fn := f', tmps := tmps', params := ps', assign := x', body := body, defers := dfr' })) (x' := .lp .busy pend' f' tm' ps' x' body N) g1 (fun _ _ => rfl) (.inr ⟨_, _, rfl, rfl⟩) s1.sr.env
  (fun q _ hn => World.putObj_heap_other (fun e => hn (by rw [hbo, e]))) (fun b e => .inl (by rw [hbo]; rw [hβ1] at e; exact e)) (fun X => ⟨b, dfr', tmps', hβ1, World.putObj_heap_same hbs, k3, fun t r e => let ⟨v, p1, p2⟩ := k4 t r e; ⟨v, p1, X.rep p2⟩⟩)
 refine wpIn_mono (XRun.sound ok g3 ⟨E.b, E.fr, h⟩ _ _ _ _ ⟨s2, s1.fits.ext X2, s1.size, s1.df.ext X2⟩) ?_
 rintro e a3 w3 ⟨D3, σ3, H3, h3', β3, q3, X3, s3⟩
 unfold xRound at q3
 split at q3
 case h_2 => exact q3.elim
 rename_i st4 pend4 f4 tm4 ps4 x4 y4 n4 m1
 rw [zu] at m1
 have hg2 : (H1.set i (.lp .busy pend' f' tm' ps' x' body N))[i]? = some (.lp .busy pend' f' tm' ps' x' body N) := by simp [hlt]
 have hβ3 : β3 i = .pointer (some ⟨b, 0, none⟩) := by
  rcases X3.to _ _ _ hg2 m1 with hd | ⟨_, _, he, hb1⟩
  ·cases hd
  ·rw [hb1, hβ1]
 obtain ⟨b', dfr4, tmps4, o1, o2, o3, o4⟩ := s3.sr.blk _ _ m1
 rw [hβ3] at o1; cases o1
 have hbo3 : blkOf β3 H3 i = some b := by simp only [blkOf, m1, hβ3]; rfl
 have hbs3 : b < w3.heap.size := (Array.getElem?_eq_some_iff.1 o2).1
 have Xto := X1.trans (X2.trans X3)
 have fin : ∀ (jump : Option Code) (st' : LoopState), st' = (if jump.isNone then .ready else .done) -> (hset H3 i (.lp st' jump f4 tm4 ps4 x4 y4 n4) fun H' => K (.bool jump.isNone) H') ->
   ∃ v w', (Instr.endRound b jump).run P w3 = .ok v w' /\ Ends P E h β H K (.returned v) w' := by
  intro jump st' hst hk
  subst hst
  obtain ⟨_, hk2⟩ := z5 hk
  obtain ⟨s4, X4⟩ := s3.sr.modify (β' := β3) (w' := w3.putObj b (.loop { state := (if jump.isNone then .ready else .done), pending := jump, fn := f4, tmps := tmps4, params := ps4, assign := x4, body := y4, defers := dfr4 })) (x' := .lp (if jump.isNone then .ready else .done) jump f4 tm4 ps4 x4 y4 n4) m1 (fun _ _ => rfl) (.inr ⟨_, _, rfl, rfl⟩) s3.sr.env
   (fun q _ hn => World.putObj_heap_other (fun e => hn (by rw [hbo3, e]))) (fun b e => .inl (by rw [hbo3]; rw [hβ3] at e; exact e)) (fun X => ⟨b, dfr4, tmps4, hβ3, World.putObj_heap_same hbs3, o3, fun t r e => let ⟨v, p1, p2⟩ := o4 t r e; ⟨v, p1, X.rep p2⟩⟩)
  refine ⟨_, _, run_endRound jump o2, .bool jump.isNone, _, _, _, _, rfl, hk2, Xto.trans X4, ?_, .bool _⟩
  exact s4.unen
 cases e with
 | normal => exact fin none .ready rfl q3
 | ret => exact fin (some .ret) .done rfl q3
 | exit id => exact fin (some (.exit id)) .done rfl q3
 | _ => exact q3.elim
end
end GA
end
section
namespace GA
open Go Go.RowKit
def qD : List Nat -> List Blk -> (List Blk -> Prop) -> Prop
 | [], H, k => k H
 | i :: D, H, k => match lget H i with
   | some (.raw (.deferred (some []))) => hset H i (.raw (.deferred none)) fun H' => qD D H' k
   | _ => False
def XIn (T : Tab) (res : List ResultVar) (k : AV -> List Blk -> Prop) : Post := fun e D σ H =>
 match e with
 | .normal | .ret => qD D H fun H' => xRes T σ H' res fun rs => k (pack rs) H'
 | _ => False
section
variable {P : Program} {T : Tab} {N : Nat} {ρ : Option Nat} {own : List Nat} {E : Env} {h : Nat -> Option Obj} {β : Nat -> Value} {H : List Blk} {w : World} {σ : St} {a : Act}
theorem gU {fn : Func} {k : AV -> List Blk -> Prop} {h0 : Nat -> Option Obj} {β0 : Nat -> Value} {H0 : List Blk} (ok : zE P T) (hen : ∀ b, E.en b = none -> h0 b = none) : ∀ (ds : List Deferred) (D : List Nat) (h : Nat -> Option Obj) (β : Nat -> Value) (H : List Blk) (w : World), Ext h0 β0 H0 h β H -> SR P E h β H w -> Fits P h β H σ a -> DfOk P E h β H D ds ->
   qD D H (fun H' => xRes T σ H' fn.results.toList fun rs => k (pack rs) H') -> LeavesInM (FW none) 0 P fn a.tmps (Ends P E h0 β0 H0 k) ds .returning w
 | [], D, h, β, H, w, X, s, F, df, hk => by
   obtain ⟨_, df⟩ := df
   cases df
   obtain ⟨v, rs, e1, e2, e3⟩ := gt (fn := fn) s F (wp ok hk)
   exact ⟨v, e1, pack rs, H, h, β, v, rfl, e3, X, s, e2⟩
 | d :: ds, D, h, β, H, w, X, s, F, ⟨hen2, df⟩, hk => by
   cases df with
   | @lost b _ _ hb he nd t =>
     have h4 := s.imm _ _ hb
     have htake := run_takeDeferred (P := P) h4
     refine ⟨by simp, .inl ⟨b, _, rfl, htake, ?_⟩⟩
     exact gU ok hen ds D _ β H _ (X.hid (hen _ he)) (s.hid hb _) (F.hid hb) (DfOk.hid hb he ⟨hen2, t⟩ nd) hk
   | @own i b D _ h2 t =>
     unfold qD at hk
     split at hk
     case h_2 => exact hk.elim
     rename_i hl
     rw [zu] at hl
     obtain ⟨hlt, hk2⟩ := z5 hk
     cases h2 with
     | yld hlv hb =>
       have hb' := hb _ hl rfl
       obtain ⟨b', h3, h4⟩ := s.blk i _ hl
       rw [hb'] at h3; cases h3
       have htake := run_takeDeferred (P := P) h4
       have hbo : blkOf β H i = some b := by simp only [blkOf, hl, hb']; rfl
       obtain ⟨s', X'⟩ := s.modify (β' := β) (w' := w.putObj b (.deferred none)) (x' := .raw (.deferred none)) hl (fun _ _ => rfl) (.inr ⟨_, rfl, rfl⟩) s.env
        (fun q _ hn => World.putObj_heap_other (fun e => hn (by rw [hbo, e]))) (fun b0 e => .inl (by rw [hbo]; rw [hb'] at e; exact e))
        (fun _ => ⟨b, hb', World.putObj_heap_same (Array.getElem?_eq_some_iff.1 h4).1⟩)
       refine ⟨by simp, .inl ⟨b, _, rfl, htake, ?_⟩⟩
       exact gU ok hen ds D h β _ _ (X.trans X') s' (F.ext X') (DfOk.ext ⟨hen2, t⟩ X') hk2
theorem yb.inl {f : FuncId} {fn : Func} {c : Code} {rs : List AV} {res : List ResultVar} {k : AV -> List Blk -> Prop} (ok : zE P T) (own : List Nat) (hf : P.funcs[f]? = some fn) (hb : fn.body = some c) (hn : (fn.name == "runtime.NumGoroutine") = false)
  (hN : fn.ntmps = N) (hr : fn.results = res.toArray) (hl : rs.length <= N) (x : XRun P T N none own c (XIn T res k) [] (argX rs) H) : yb P f rs H k := by
 refine ⟨⟨fn, hf, hn, by rw [hb]; rfl⟩, fun E h β w vs s hrs => ?_⟩
 refine (show CallsIn (FW none) 0 P f vs.toArray w (Ends P ⟨E.b, E.fr, h⟩ h β H k) from ?_).mono fun _ _ => Ends.unen
 refine callsIn_of_wp_marks hf hb trivial ?_ rfl
 have hsz : (vs.toArray ++ Array.replicate (fn.ntmps - vs.toArray.size) undef).size = N := by simp [hrs.1]; omega
 refine wpIn_mono (XRun.sound (own := own) ok x ⟨E.b, E.fr, h⟩ h β _ w ⟨s.en h, fun t r e => ?_, hsz, ⟨fun _ _ e => e, .nil⟩⟩) ?_
 ·rw [zb5] at e
  obtain ⟨v, h1, h2⟩ := hrs.2 t r e
  refine ⟨v, ?_, h2⟩
  rw [Array.getElem?_append_left (by simpa using (List.getElem?_eq_some_iff.1 h1).1)]; simpa using h1
 ·rintro e a' w' ⟨D', σ', H', h', β', q, X, s'⟩
  have hq : (e = .normal \/ e = .ret) /\ qD D' H' fun H' => xRes T σ' H' fn.results.toList fun rs => k (pack rs) H' := by
   rw [hr]
   unfold XIn at q; split at q
   ·exact ⟨.inl rfl, q⟩
   ·exact ⟨.inr rfl, q⟩
   ·exact q.elim
  obtain ⟨he, q⟩ := hq
  have hL : LeavesInM (FW none) 0 P fn a'.tmps (Ends P ⟨E.b, E.fr, h⟩ h β H k) a'.defers .returning w' :=
   gU ok (fun _ e => e) a'.defers D' h' β' H' w' X s'.sr s'.fits s'.df q
  rcases he with rfl | rfl <;> exact hL
theorem XRun.monoX (ok : zE P T) {c : Code} {Q Q' : Post} {D : List Nat} (hq : ∀ e D σ H, Q e D σ H -> Q' e D σ H) (x : XRun P T N ρ own c Q D σ H) : AWp P N ρ c Q' D σ H := (XRun.sound ok x).mono hq
theorem yb.inl0 {f : FuncId} {fn : Func} {c : Code} {rs : List AV} {res : List ResultVar} {k : AV -> List Blk -> Prop} (ok : zE P T) (own : List Nat) (hf : P.funcs[f]? = some fn) (hb : fn.body = some c) (hn : (fn.name == "runtime.NumGoroutine") = false)
  (hN : fn.ntmps = N) (hr : fn.results = res.toArray) (hl : rs.length <= N) (x : AWp P N none c (XIn T res k) [] (argX rs) H) : yb P f rs H k := by
 refine ⟨⟨fn, hf, hn, by rw [hb]; rfl⟩, fun E h β w vs s hrs => ?_⟩
 refine (show CallsIn (FW none) 0 P f vs.toArray w (Ends P ⟨E.b, E.fr, h⟩ h β H k) from ?_).mono fun _ _ => Ends.unen
 refine callsIn_of_wp_marks hf hb trivial ?_ rfl
 have hsz : (vs.toArray ++ Array.replicate (fn.ntmps - vs.toArray.size) undef).size = N := by simp [hrs.1]; omega
 refine wpIn_mono (x ⟨E.b, E.fr, h⟩ h β _ w ⟨s.en h, fun t r e => ?_, hsz, ⟨fun _ _ e => e, .nil⟩⟩) ?_
 ·rw [zb5] at e
  obtain ⟨v, h1, h2⟩ := hrs.2 t r e
  refine ⟨v, ?_, h2⟩
  rw [Array.getElem?_append_left (by simpa using (List.getElem?_eq_some_iff.1 h1).1)]; simpa using h1
 ·rintro e a' w' ⟨D', σ', H', h', β', q, X, s'⟩
  have hq : (e = .normal \/ e = .ret) /\ qD D' H' fun H' => xRes T σ' H' fn.results.toList fun rs => k (pack rs) H' := by
   rw [hr]
   unfold XIn at q; split at q
   ·exact ⟨.inl rfl, q⟩
   ·exact ⟨.inr rfl, q⟩
   ·exact q.elim
  obtain ⟨he, q⟩ := hq
  have hL : LeavesInM (FW none) 0 P fn a'.tmps (Ends P ⟨E.b, E.fr, h⟩ h β H k) a'.defers .returning w' :=
   gU ok (fun _ e => e) a'.defers D' h' β' H' w' X s'.sr s'.fits s'.df q
  rcases he with rfl | rfl <;> exact hL
theorem Comp.body {f : FuncId} {fn : Func} {c : Code} {rs : List AV} {res : List ResultVar} {r0 : AV} (ok : zE P T) (own : List Nat) (hf : P.funcs[f]? = some fn) (hb : fn.body = some c) (hn : (fn.name == "runtime.NumGoroutine") = false)
  (hN : fn.ntmps = N) (hr : fn.results = res.toArray) (hl : rs.length <= N) (hlo : lowL 0 rs = true) (x : XRun P T N none own c (XFn P T res r0) [] (argX rs) []) : Comp P f rs r0 := by
 refine ⟨hlo, ?_⟩
 obtain ⟨h1, h2⟩ := yb.inl0 (k := fun r H => XOut P H r r0) ok own hf hb hn hN hr hl (XRun.monoX ok (fun e D σ H q => by
  unfold XFn at q
  split at q
  ·exact q
  ·exact q
  ·exact q.elim) x)
 refine ⟨h1, fun E h β w vs s hrs => (h2 E h β w vs s hrs).mono ?_⟩
 rintro e w' ⟨r, H', h', β', v, rfl, hk, X, s', hrep⟩
 exact ⟨r0, [], hall h' β' H' w', β', v, rfl, ⟨rfl, rfl⟩, ⟨fun b o eb => w8 s' (X.imm b o eb), Nat.le_refl _, by simp⟩, s'.all, hk.o E h' β' w' s' v hrep⟩
theorem za.inl {f : FuncId} {fn : Func} {c : Code} {rs : List AV} {res : List ResultVar} {k : AV -> List Blk -> Prop} (ok : zE P T) (own : List Nat) (hf : P.funcs[f]? = some fn) (hb : fn.body = some c) (hn : (fn.name == "runtime.NumGoroutine") = false)
  (hN : fn.ntmps = N) (hr : fn.results = res.toArray) (hl : rs.length <= N) (x : XRun P T N none own c (XIn T res k) [] (argX rs) H) : za P f rs H k :=
 ⟨.inl ok own hf hb hn hN hr hl x⟩
theorem Walk.nilgr {c : Code} {Q : Post} {D : List Nat} (t : Nat) (te : TypeId) (ht : σ t = some (.sl true [])) (x : Walk P N ρ c Q D (updX σ t (.gr H.length 0)) (H ++ [.grow te true []])) : Walk P N ρ c Q D σ H := by
 constructor
 intro E h β a w s
 obtain ⟨s', X⟩ := s.sr.push (w' := w) s.sr.env (fun _ _ => rfl) (.slice none 0 0) (.grow te true []) (by intro b hb; simp [anchor] at hb) (fun _ => .inl ⟨rfl, rfl, by simp [upb]⟩)
 refine wpIn_mono (x.o E h _ a w ⟨s', fun u r e => ?_, s.size, s.df.ext X⟩) fun _ _ _ => Conc.ext X
 rw [yV] at e; unfold upd at e
 split at e
 ·rename_i hu; subst hu; cases e
  obtain ⟨v, h1, h2⟩ := s.fits u _ ht
  cases h2
  refine ⟨_, h1, .gr rfl (.push rfl) fun t' nl els e => ?_⟩
  rw [List.getElem?_append_right (Nat.le_refl _)] at e; simp at e; obtain ⟨_, _, rfl⟩ := e
  exact ⟨Nat.le_refl _, fun _ => by simp [upb]⟩
 ·obtain ⟨v, h1, h2⟩ := s.fits u r e
  exact ⟨v, h1, X.rep h2⟩
end
end GA
end
section
namespace GA
open Go Go.RowKit
section
variable {P : Program} {T : Tab} {N : Nat} {ρ : Option Nat} {own : List Nat} {E : Env} {h : Nat -> Option Obj} {β : Nat -> Value} {H : List Blk} {w : World} {σ σ' : St} {a : Act}
def wH (σ σ' : St) (l : List Operand) : Prop := ∀ t, Operand.tmp t ∈ l -> ∀ r, σ t = some r -> σ' t = some r
theorem wH.ev {l : List Operand} (k : wH σ σ' l) {x : Operand} (hx : x ∈ l) {r : AV} (e : ev σ x = some r) : ev σ' x = some r := by
 cases x with
 | tmp t => exact k t hx r e
 | _ => exact e
theorem wH.evL {l : List Operand} (k : wH σ σ' l) : ∀ {xs : List Operand} {rs : List AV}, (∀ x ∈ xs, x ∈ l) -> evL σ xs = some rs -> evL σ' xs = some rs
 | [], _, _, e => e
 | x :: xs, rs, hx, e => by
   unfold GA.evL at e ⊢
   split at e <;> cases e
   rename_i h1 h2
   rw [k.ev (hx x (by simp)) h1, k.evL (fun y hy => hx y (by simp [hy])) h2]
theorem wH.evP {l : List Operand} (k : wH σ σ' l) : ∀ {xs : List (Nat × Operand)} {rs : List (Nat × AV)}, (∀ x ∈ xs.map (·.2), x ∈ l) -> evP σ xs = some rs -> evP σ' xs = some rs
 | [], _, _, e => e
 | (i, x) :: xs, rs, hx, e => by
   unfold GA.evP at e ⊢
   split at e <;> cases e
   rename_i h1 h2
   rw [k.ev (hx x (by simp)) h1, k.evP (fun y hy => hx y (by simp at hy ⊢; exact .inr hy)) h2]
theorem wH.evO {l : List Operand} (k : wH σ σ' l) {x : Option Operand} {r : Option AV} (hx : ∀ y, x = some y -> y ∈ l) (e : evO σ x = some r) : evO σ' x = some r := by
 cases x with
 | none => exact e
 | some y =>
   simp only [GA.evO] at e ⊢
   cases h1 : GA.ev σ y with
   | none => rw [h1] at e; cases e
   | some z => rw [h1] at e; rw [k.ev (hx y rfl) h1]; exact e
theorem wH.b {l : List Operand} (k : wH σ σ' l) {x : Operand} (hx : x ∈ l) {K : AV -> Prop} (e : bnd (GA.ev σ x) K) : bnd (GA.ev σ' x) K := by
 obtain ⟨r, h1, h2⟩ := zf e; rw [k.ev hx h1]; exact h2
theorem AOp_look {op : Op} {d : Option Nat} {K : AV -> List Blk -> Prop} (k : wH σ σ' op.operands.toList) (x : AOp P own d σ H K op) : AOp P own d σ' H K op := by
 cases op with
 | move a => exact k.b (by simp [Op.operands]) x
 | assign a => exact k.b (by simp [Op.operands]) x
 | pick c a b =>
   refine zl (k.b (x := c) (by simp [Op.operands]) x) fun r _ h => ?_
   split at h
   ·exact ⟨fun e => k.b (by simp [Op.operands]) (h.1 e), fun e => k.b (by simp [Op.operands]) (h.2 e)⟩
   ·exact h
 | alloc t => exact x
 | box t a => exact k.b (by simp [Op.operands]) x
 | build t ps => obtain ⟨r, h1, h2⟩ := zf x; show bnd _ _; rw [k.evP (by simp [Op.operands]) h1]; exact h2
 | buildSlice t n ps => obtain ⟨r, h1, h2⟩ := zf x; show bnd _ _; rw [k.evP (by simp [Op.operands]) h1]; exact h2
 | load t a => exact k.b (by simp [Op.operands]) x
 | store t a v => exact zl (k.b (x := a) (by simp [Op.operands]) x) fun r _ h => k.b (by simp [Op.operands]) h
 | nilCheck a => exact k.b (by simp [Op.operands]) x
 | binOp op t a b y => exact zl (k.b (x := a) (by simp [Op.operands]) x) fun r _ h => k.b (by simp [Op.operands]) h
 | unOp op t a => exact k.b (by simp [Op.operands]) x
 | convert s d a => exact k.b (by simp [Op.operands]) x
 | makeFunc fn first caps =>
   cases fn with
   | func f =>
     rcases x with ⟨h0, h⟩ | ⟨h0, h⟩
     ·obtain ⟨r, h1, h2⟩ := zf h
      refine .inl ⟨h0, ?_⟩
      rw [k.evL (by simp [Op.operands]; exact fun _ h => .inr h) h1]; exact h2
     ·obtain ⟨r, h1, h2⟩ := zf h
      refine .inr ⟨h0, ?_⟩
      rw [k.evL (by simp [Op.operands]; exact fun _ h => .inl h) h1]; exact h2
   | _ => exact x
 | makeSlice t a b => exact zl (k.b (x := a) (by simp [Op.operands]) x) fun r _ h => k.b (by simp [Op.operands]) h
 | slice t a lo hi mx =>
   refine zl (k.b (x := a) (by simp [Op.operands]) x) fun r _ h => ?_
   obtain ⟨l1, g1, h⟩ := zf h
   obtain ⟨l2, g2, h⟩ := zf h
   obtain ⟨l3, g3, h⟩ := zf h
   rw [k.evO (by rintro y rfl; simp [Op.operands]) g1, zt, k.evO (by rintro y rfl; simp [Op.operands]) g2, zt, k.evO (by rintro y rfl; simp [Op.operands]) g3, zt]
   exact h
 | fieldAddr t a f => exact k.b (by simp [Op.operands]) x
 | field t a f => exact k.b (by simp [Op.operands]) x
 | indexAddr t a b => exact zl (k.b (x := a) (by simp [Op.operands]) x) fun r _ h => k.b (by simp [Op.operands]) h
 | index t a b => exact zl (k.b (x := a) (by simp [Op.operands]) x) fun r _ h => k.b (by simp [Op.operands]) h
 | extract a i => exact k.b (by simp [Op.operands]) x
 | makeMap t r => exact x
 | lookup t a b ok => exact zl (k.b (x := a) (by simp [Op.operands]) x) fun r _ h => k.b (by simp [Op.operands]) h
 | mapUpdate t m a b => exact zl (k.b (x := m) (by simp [Op.operands]) x) fun r _ h => zl (k.b (x := a) (by simp [Op.operands]) h) fun r _ h => k.b (by simp [Op.operands]) h
 | insert t m a b => exact zl (k.b (x := m) (by simp [Op.operands]) x) fun r _ h => zl (k.b (x := a) (by simp [Op.operands]) h) fun r _ h => k.b (by simp [Op.operands]) h
 | call c =>
   obtain ⟨callee, args, argTypes⟩ := c
   change jr P σ H _ K at x
   change jr P σ' H _ K
   unfold jr at x ⊢
   cases callee with
   | value f =>
     refine zl (k.b (x := f) (by simp [Op.operands, Call.operands]) x) fun fv _ h => ?_
     obtain ⟨rs, h1, h2⟩ := zf h
     rw [k.evL (by simp [Op.operands, Call.operands]; exact fun _ h => .inr h) h1]; exact h2
   | builtin b =>
     obtain ⟨rs, h1, h2⟩ := zf x
     simp only
     rw [k.evL (by simp [Op.operands, Call.operands]) h1]; exact h2
   | invoke r m => exact x
 | _ => exact x
end
end GA
end
section
namespace GA
open Go Go.RowKit
def dep (o : Oper) (j : Nat) : Bool := o.after.toList.any fun e => Region.binds .any e && Nat.beq e.on j
def zP (eff : List Nat) (listed : Array Bool) : List Bool := eff.map fun j => listed.getD j false
def setF (eff : List Nat) (i : Nat) (fl : List Bool) : List Bool := List.zipWith (fun j b => b || Nat.beq j i) eff fl
def opAt (ops : List Oper) (j : Nat) (f : Oper -> Bool) : Bool := match lget ops j with | some o => f o | none => true
def compat (ops : List Oper) (eff : List Nat) (i : Nat) (fl : List Bool) : Bool :=
 (eff.zip fl).all fun (j, b) =>
  (opAt ops i fun o => !dep o j || b) && (!Nat.beq j i || !b) && (opAt ops j fun o => !dep o i || !b) &&
  (!b || (eff.zip fl).all fun (j', b') => opAt ops j fun o => !dep o j' || b')
structure zd (r : AV) (H : List Blk) (r0 : AV) (H0 : List Blk) : Prop where
 r : r = r0
 h : H = H0
section
variable (P : Program) (T : Tab) (N : Nat) (own : List Nat) (ops : List Oper) (eff : List Nat) (HS : List Bool -> List Blk)
def Chk (i : Nat) (o : Oper) (σ : St) (r : AV) (fl : List Bool) : Prop :=
 xGate ops σ o.guard (fun σ => XOp P T own o.dst σ (HS fl) (fun r' H' => zd r' H' r (HS (setF eff i fl))) o.op) (fun _ => zd (.tup []) (HS fl) r (HS (setF eff i fl)))
def wT : Nat -> List Oper -> List AV -> St -> Prop
 | _, [], [], _ => True
 | i, o :: l, r :: R, σ => (∀ fl, fl.length = eff.length -> compat ops eff i fl = true -> Chk P T own ops eff HS i o σ r fl) /\ wT (i + 1) l R (putX N σ o.dst r)
 | _, _, _, _ => False
end
def fe (N : Nat) : List Oper -> List AV -> St -> St
 | o :: l, r :: R, σ => fe N l R (putX N σ o.dst r)
 | _, _, σ => σ
section
variable {P : Program} {T : Tab} {N : Nat} {ρ : Option Nat} {own : List Nat} {E : Env} {h : Nat -> Option Obj} {β : Nat -> Value} {H : List Blk} {w : World} {σ σ' : St} {a : Act} {ops : List Oper} {eff : List Nat} {HS : List Bool -> List Blk}
theorem wT.get : ∀ {l : List Oper} {R : List AV} {i : Nat} {σ : St}, wT P T N own ops eff HS i l R σ -> l.length = R.length /\ ∀ (j : Nat) o, l[j]? = some o -> ∃ r, R[j]? = some r /\
   ∀ fl, fl.length = eff.length -> compat ops eff (i + j) fl = true -> Chk P T own ops eff HS (i + j) o (fe N (l.take j) (R.take j) σ) r fl
 | [], [], _, _, _ => ⟨rfl, by simp⟩
 | o :: l, r :: R, i, σ, h => by
   obtain ⟨h1, h2⟩ := h
   obtain ⟨h3, h4⟩ := wT.get h2
   refine ⟨by simp [h3], fun j o' e => ?_⟩
   cases j with
   | zero => simp at e; subst e; exact ⟨r, rfl, h1⟩
   | succ j =>
     obtain ⟨r', e1, e2⟩ := h4 j o' (by simpa using e)
     refine ⟨r', by simpa using e1, fun fl hf hc => ?_⟩
     have := e2 fl hf (by rwa [show i + 1 + j = i + (j + 1) by omega])
     rw [show i + 1 + j = i + (j + 1) by omega] at this
     exact this
 | [], _ :: _, _, _, h => h.elim
 | _ :: _, [], _, _, h => h.elim
theorem putX_get {N : Nat} {σ : St} {d : Option Nat} {r x : AV} {t : Nat} (e : putX N σ d r t = some x) : (d = some t /\ t < N /\ x = r) \/ ((d ≠ some t \/ ¬ t < N) /\ σ t = some x) := by
 rw [zb7] at e
 cases d with
 | none => exact .inr ⟨.inl (by simp), e⟩
 | some d =>
   simp only [putO] at e
   split at e
   ·rename_i hd; unfold upd at e; split at e
    ·rename_i ht; subst ht; cases e; exact .inl ⟨rfl, hd, rfl⟩
    ·rename_i ht; exact .inr ⟨.inl (by intro hh; cases hh; exact ht rfl), e⟩
   ·rename_i hd
    by_cases ht : d = t
    ·subst ht; exact .inr ⟨.inr hd, e⟩
    ·exact .inr ⟨.inl (by intro hh; cases hh; exact ht rfl), e⟩
theorem qM {N : Nat} : ∀ {l : List Oper} {R : List AV} {σ : St} {t : Nat} {x : AV}, l.length = R.length -> fe N l R σ t = some x ->
  (∃ (j : Nat) (o : Oper), l[j]? = some o /\ o.dst = some t /\ t < N /\ R[j]? = some x /\ ∀ (k : Nat) o', l[k]? = some o' -> j < k -> o'.dst ≠ some t) \/
  ((∀ (k : Nat) o', l[k]? = some o' -> o'.dst ≠ some t \/ ¬ t < N) /\ σ t = some x)
 | [], R, σ, t, x, hl, e => by
   right; refine ⟨by simp, ?_⟩
   cases R <;> exact e
 | o :: l, [], _, _, _, hl, _ => by simp at hl
 | o :: l, r :: R, σ, t, x, hl, e => by
   rcases qM (l := l) (R := R) (by simpa using hl) e with ⟨j, o', h1, h2, h3, h4, h5⟩ | ⟨h1, h2⟩
   ·left
    refine ⟨j + 1, o', by simpa using h1, h2, h3, by simpa using h4, fun k o'' hk hj => ?_⟩
    cases k with
    | zero => omega
    | succ k => exact h5 k o'' (by simpa using hk) (by omega)
   ·rcases putX_get h2 with ⟨g1, g2, g3⟩ | ⟨g1, g2⟩
    ·left
     refine ⟨0, o, rfl, g1, g2, by simp [g3], fun k o' hk hj => ?_⟩
     cases k with
     | zero => omega
     | succ k =>
       rcases h1 k o' (by simpa using hk) with h | h
       ·exact h
       ·exact absurd g2 h
    ·right
     refine ⟨fun k o' hk => ?_, g2⟩
     cases k with
     | zero => simp at hk; subst hk; exact g1
     | succ k => exact h1 k o' (by simpa using hk)
theorem zdg {ops : Array Oper} : ∀ (fuel k : Nat) (listed : Array Bool), listed.size = ops.size -> (∀ j, listed.getD j true = false ↔ k <= j /\ j < ops.size) -> k + fuel = ops.size -> Region.lexFrom .any ops fuel k listed = true ->
  ∀ i o, k <= i -> ops[i]? = some o -> (∀ e ∈ o.after, Region.binds .any e = true -> e.on < i) /\ ∀ (j : Nat) oj, i < j -> ops[j]? = some oj -> (∀ e ∈ oj.after, Region.binds .any e = true -> e.on ≠ i) -> o.apart ops oj = true
 | 0, k, listed, _, _, hk, _, i, o, hi, ho => by have := (Array.getElem?_eq_some_iff.1 ho).1; omega
 | fuel + 1, k, listed, hs, hl, hk, hB, i, o, hi, ho => by
   simp only [Region.lexFrom, Bool.and_eq_true] at hB
   obtain ⟨⟨hr, hf⟩, hB'⟩ := hB
   rcases Nat.lt_or_eq_of_le hi with hlt | rfl
   ·refine zdg fuel (k + 1) (listed.setIfInBounds k true) (by simpa using hs) (fun j => ?_) (by omega) hB' i o (by omega) ho
    by_cases hjk : k = j
    ·subst hjk
     have : k < listed.size := by omega
     simp [this]; omega
    ·rw [getD_set_ne true hjk, hl j]; omega
   ·have hr' : k ∈ Region.ready .any ops listed := by simpa using hr
    obtain ⟨_, o', ho', hall⟩ := mem_ready.1 hr'
    rw [ho] at ho'; cases ho'
    refine ⟨fun e he hb => ?_, fun j oj hj hoj hno => Region.free_spec ho hf j oj hoj (by omega) ((hl j).2 ⟨by omega, (Array.getElem?_eq_some_iff.1 hoj).1⟩) hno⟩
    have h1 := hall e he hb
    rcases Nat.lt_or_ge e.on k with h | h
    ·exact h
    ·exfalso
     rcases Nat.lt_or_ge e.on ops.size with h' | h'
     ·have h2 := (hl e.on).2 ⟨h, h'⟩
      simp at h1 h2
      rcases Nat.lt_or_ge e.on listed.size with h3 | h3
      ·simp [h3] at h1 h2; rw [h2] at h1; cases h1
      ·simp [Array.getElem?_eq_none h3] at h1
     ·have h3 : listed.size <= e.on := by omega
      simp [Array.getElem?_eq_none h3] at h1
end
end GA
end
section
namespace GA
open Go Go.RowKit
section
variable {P : Program} {T : Tab} {N : Nat} {ρ : Option Nat} {own : List Nat} {E : Env} {h : Nat -> Option Obj} {β : Nat -> Value} {H : List Blk} {w : World} {σ σ' : St} {a : Act} {ops : List Oper} {eff : List Nat} {HS : List Bool -> List Blk}
def isL (listed : Array Bool) (j : Nat) : Prop := listed.getD j false = true
def Closed (ops : List Oper) (listed : Array Bool) : Prop := ∀ (j : Nat) o, ops[j]? = some o -> isL listed j -> ∀ e ∈ o.after, Region.binds .any e = true -> isL listed e.on
structure DInv (P : Program) (E : Env) (N : Nat) (ops : List Oper) (eff : List Nat) (HS : List Bool -> List Blk) (R : List AV) (σ : St) (a0 : Act) (h0 : Nat -> Option Obj) (β0 : Nat -> Value) (H0 : List Blk) (listed : Array Bool) (a : Act) (w : World) : Prop where
 size : listed.size = ops.length
 closed : Closed ops listed
 st : ∃ h β, Ext h0 β0 H0 h β (HS (zP eff listed)) /\ SR P E h β (HS (zP eff listed)) w /\
  (∀ t r, σ t = some r -> (∀ (j : Nat) o, ops[j]? = some o -> isL listed j -> o.dst ≠ some t \/ ¬ t < N) -> ∃ v, a.tmps[t]? = some v /\ Rep P h β (HS (zP eff listed)) r v) /\
  (∀ (j : Nat) o d r, ops[j]? = some o -> isL listed j -> o.dst = some d -> d < N -> R[j]? = some r -> (∀ (k : Nat) ok, ops[k]? = some ok -> isL listed k -> j < k -> ok.dst ≠ some d) -> ∃ v, a.tmps[d]? = some v /\ Rep P h β (HS (zP eff listed)) r v)
 keeps : Keeps a0 a
theorem zcg {o : Oper} {j : Nat} : dep o j = true ↔ ∃ e ∈ o.after, Region.binds .any e = true /\ e.on = j := by
 unfold dep; rw [List.any_eq_true]
 constructor
 ·rintro ⟨e, h1, h2⟩
  simp only [Bool.and_eq_true] at h2
  exact ⟨e, by simpa using h1, h2.1, Nat.eq_of_beq_eq_true h2.2⟩
 ·rintro ⟨e, h1, h2, h3⟩
  exact ⟨e, by simpa using h1, by subst h3; simp [h2]⟩
theorem qU {listed : Array Bool} {p : Nat × Bool} : ∀ {eff : List Nat}, p ∈ eff.zip (zP eff listed) -> p.2 = listed.getD p.1 false
 | [], h => by simp at h
 | j :: eff, h => by
   simp only [zP, List.map_cons, List.zip_cons_cons] at h
   rcases List.mem_cons.1 h with h | h
   ·subst h; rfl
   ·exact qU h
theorem qP {j : Nat} {f : Oper -> Bool} (h : ∀ o, ops[j]? = some o -> f o = true) : opAt ops j f = true := by
 unfold opAt; rw [zu]; split
 ·rename_i e; exact h _ e
 ·rfl
theorem zb9 {listed : Array Bool} {i : Nat} (hc : Closed ops listed) (hi : ¬ isL listed i) (hr : ∀ o, ops[i]? = some o -> ∀ e ∈ o.after, Region.binds .any e = true -> isL listed e.on) : compat ops eff i (zP eff listed) = true := by
 unfold compat
 rw [List.all_eq_true]
 rintro ⟨j, b⟩ hp
 have hb := qU hp
 simp only at hb; subst hb
 simp only [Bool.and_eq_true]
 refine ⟨⟨⟨qP fun o ho => ?_, ?_⟩, qP fun o ho => ?_⟩, ?_⟩
 ·cases hd : dep o j with
  | false => rfl
  | true => obtain ⟨e, h1, h2, h3⟩ := zcg.1 hd; have := hr o ho e h1 h2; rw [h3] at this; simpa [isL] using this
 ·cases hd : Nat.beq j i with
  | false => rfl
  | true => have := Nat.eq_of_beq_eq_true hd; subst this; simpa [isL] using hi
 ·cases hd : dep o i with
  | false => rfl
  | true =>
    obtain ⟨e, h1, h2, h3⟩ := zcg.1 hd
    cases hl : listed.getD j false with
    | false => rfl
    | true => exact absurd (h3 ▸ hc j o ho hl e h1 h2) hi
 ·cases hl : listed.getD j false with
  | false => rfl
  | true =>
    simp only [Bool.not_true, Bool.false_or]
    rw [List.all_eq_true]
    rintro ⟨j', b'⟩ hp'
    have hb' := qU hp'
    simp only at hb'; subst hb'
    refine qP fun o ho => ?_
    cases hd : dep o j' with
    | false => rfl
    | true => obtain ⟨e, h1, h2, h3⟩ := zcg.1 hd; have := hc j o ho hl e h1 h2; rw [h3] at this; simpa [isL] using this
theorem va {listed : Array Bool} {i j : Nat} (hi : i < listed.size) : isL (listed.setIfInBounds i true) j ↔ j = i \/ isL listed j := by
 unfold isL
 by_cases h : i = j
 ·subst h; simp [hi]
 ·rw [getD_set_ne false h]; simp [Ne.symm h]
theorem j4 {listed : Array Bool} {i : Nat} (hi : i < listed.size) : ∀ (eff : List Nat), zP eff (listed.setIfInBounds i true) = setF eff i (zP eff listed)
 | [] => rfl
 | j :: eff => by
   simp only [zP, setF, List.map_cons, List.zipWith_cons_cons]
   congr 1
   ·by_cases h : i = j
    ·subst h; simp [hi]
    ·rw [getD_set_ne false h]
     cases hb : Nat.beq j i with
     | true => exact absurd (Nat.eq_of_beq_eq_true hb).symm h
     | false => simp
   ·exact j4 hi eff
theorem DInv.step {R : List AV} {a0 : Act} {h0 : Nat -> Option Obj} {β0 : Nat -> Value} {H0 : List Blk} {Q : Exit -> Act -> World -> Prop} (ok : zE P T) (hN : a0.tmps.size = N)
  (hlex : ∀ (i : Nat) o, ops[i]? = some o -> ∀ (j : Nat) oj, i < j -> ops[j]? = some oj -> (∀ e ∈ oj.after, Region.binds .any e = true -> e.on ≠ i) -> o.apart ops.toArray oj = true)
  (hchk : wT P T N own ops eff HS 0 ops R σ) {listed : Array Bool} {a : Act} {w : World} (I : DInv P E N ops eff HS R σ a0 h0 β0 H0 listed a w) {i : Nat} (hi : i ∈ Region.ready .any ops.toArray listed) :
  wpOpIn (FW ρ) 0 P ops.toArray Q i (DInv P E N ops eff HS R σ a0 h0 β0 H0 (listed.setIfInBounds i true)) a w := by
 obtain ⟨hnot, o, ho, hall⟩ := mem_ready.1 hi
 have ho' : ops[i]? = some o := by simpa using ho
 have hilt : i < ops.length := (List.getElem?_eq_some_iff.1 ho').1
 have hils : i < listed.size := by rw [I.size]; exact hilt
 have hni : ¬ isL listed i := by unfold isL; simp [hils] at hnot ⊢; exact hnot
 obtain ⟨hRl, hget⟩ := hchk.get
 obtain ⟨r, hr, hc⟩ := hget i o ho'
 rw [Nat.zero_add] at hc
 have hC := hc (zP eff listed) (by simp [zP]) (zb9 I.closed hni fun o' h e he hb => by rw [ho'] at h; cases h; exact hall e he hb)
 obtain ⟨h, β, X, s, K1, K2⟩ := I.st
 -- edges
 have edge : ∀ (j : Nat) oj, ops[j]? = some oj -> i < j -> isL listed j -> o.apart ops.toArray oj = true := fun j oj hj hij hl =>
  hlex i o ho' j oj hij hj fun e he hb heq => hni (heq ▸ I.closed j oj hj hl e he hb)
 have edge' : ∀ (j : Nat) oj, ops[j]? = some oj -> j < i -> ¬ isL listed j -> oj.apart ops.toArray o = true := fun j oj hj hij hl =>
  hlex j oj hj i o hij ho' fun e he hb heq => hl (heq ▸ hall e he hb)
 -- what is looked at
 let σ₁ := fe N (ops.take i) (R.take i) σ
 let σ₂ : St := fun t => if t ∈ o.looksAt ops.toArray then σ₁ t else none
 have hF : Fits P h β (HS (zP eff listed)) σ₂ a := by
  intro t x ex
  simp only [σ₂] at ex
  split at ex
  ·rename_i hlook
   rcases qM (by simp [hRl]) ex with ⟨j, oj, h1, h2, h3, h4, h5⟩ | ⟨h1, h2⟩
   ·have hji : j < i := by have := (List.getElem?_eq_some_iff.1 h1).1; simp at this; omega
    have h1' : ops[j]? = some oj := by rw [List.getElem?_take, if_pos hji] at h1; exact h1
    have h4' : R[j]? = some x := by rw [List.getElem?_take, if_pos hji] at h4; exact h4
    have hjl : isL listed j := by
     by_cases hl : isL listed j
     ·exact hl
     ·exact absurd hlook ((Oper.apart_spec (edge' j oj h1' hji hl)).1 t h2)
    refine K2 j oj t x h1' hjl h2 h3 h4' fun k ok hk hkl hjk => ?_
    rcases Nat.lt_trichotomy k i with hki | rfl | hki
    ·exact h5 k ok (by rw [List.getElem?_take, if_pos hki]; exact hk) hjk
    ·exact absurd hkl hni
    ·intro hd; exact (Oper.apart_spec (edge k ok hk hki hkl)).2.2 t hd hlook
   ·refine K1 t x h2 fun j oj hj hjl => ?_
    rcases Nat.lt_trichotomy j i with hji | rfl | hji
    ·exact h1 j oj (by rw [List.getElem?_take, if_pos hji]; exact hj)
    ·exact absurd hjl hni
    ·left; intro hd; exact (Oper.apart_spec (edge j oj hj hji hjl)).2.2 t hd hlook
  ·cases ex
 have hk2 : wH σ₁ σ₂ o.op.operands.toList := by
  intro t ht x ex
  have : t ∈ o.looksAt ops.toArray := by
   unfold Oper.looksAt; rw [List.mem_append]; left; rw [List.mem_filterMap]; exact ⟨.tmp t, ht, rfl⟩
  simp only [σ₂]; rw [if_pos this]; exact ex
 have hg1 := fM hC
 have hg2 : gate ops σ₂ o.guard (XOp P T own o.dst σ₁ (HS (zP eff listed)) (fun r' H' => zd r' H' r (HS (setF eff i (zP eff listed)))) o.op) (zd (.tup []) (HS (zP eff listed)) r (HS (setF eff i (zP eff listed)))) := by
  unfold gate at hg1 ⊢
  cases hgd : o.guard with
  | none => rw [hgd] at hg1; exact hg1
  | some p =>
    obtain ⟨j, want⟩ := p
    rw [hgd] at hg1
    obtain ⟨d, e1, e2⟩ := zf hg1
    obtain ⟨x, e3, e4⟩ := zf e2
    have : d ∈ o.looksAt ops.toArray := by
     unfold Oper.looksAt; rw [List.mem_append]; right; rw [hgd]; simp only [List.getElem?_toArray, e1]; simp
    have e5 : σ₂ d = some x := by simp only [σ₂]; rw [if_pos this]; exact e3
    simp only [e1, zt, e5]; exact e4
 -- the next state
 have next : ∀ (v : Value) h' β' w', Ext h β (HS (zP eff listed)) h' β' (HS (setF eff i (zP eff listed))) -> SR P E h' β' (HS (setF eff i (zP eff listed))) w' -> Rep P h' β' (HS (setF eff i (zP eff listed))) r v ->
   DInv P E N ops eff HS R σ a0 h0 β0 H0 (listed.setIfInBounds i true) (a.put o.dst v) w' := by
  intro v h' β' w' X' s' hrep
  have hsz : a.tmps.size = N := I.keeps.size.trans hN
  refine ⟨by simpa using I.size, fun j oj hj hl e he hb => ?_, ⟨h', β', ?_, ?_, ?_, ?_⟩, ⟨(w5 _ _ _).trans I.keeps.size, (vH _ _ _).trans I.keeps.defers⟩⟩
  ·rw [va hils] at hl ⊢
   rcases hl with rfl | hl
   ·rw [ho'] at hj; cases hj; exact .inr (hall e he hb)
   ·exact .inr (I.closed j oj hj hl e he hb)
  ·rw [j4 hils]; exact X.trans X'
  ·rw [j4 hils]; exact s'
  ·rw [j4 hils]
   intro t x ex hno
   obtain ⟨u, g1, g2⟩ := K1 t x ex fun j oj hj hl => hno j oj hj ((va hils).2 (.inr hl))
   refine ⟨u, ?_, X'.rep g2⟩
   have hd := hno i o ho' ((va hils).2 (.inl rfl))
   cases hdst : o.dst with
   | none => exact g1
   | some d =>
     simp only [Act.put]
     by_cases hdt : d = t
     ·subst hdt
      rcases hd with hd | hd
      ·exact absurd hdst hd
      ·rw [Array.setIfInBounds_eq_of_size_le (by omega)]; exact g1
     ·rw [Array.getElem?_setIfInBounds_ne hdt]; exact g1
  ·rw [j4 hils]
   intro j oj d x hj hl hd hdN hx hlast
   rw [va hils] at hl
   by_cases hji : j = i
   ·subst hji
    rw [ho'] at hj; cases hj
    rw [hr] at hx; cases hx
    exact ⟨v, by rw [hd]; simp [Act.put, hsz, hdN], hrep⟩
   ·have hl : isL listed j := hl.resolve_left hji
    obtain ⟨u, g1, g2⟩ := K2 j oj d x hj hl hd hdN hx fun k ok hk hkl hjk => hlast k ok hk ((va hils).2 (.inr hkl)) hjk
    refine ⟨u, ?_, X'.rep g2⟩
    have hne : o.dst ≠ some d := by
     intro hod
     rcases Nat.lt_trichotomy j i with hlt | heq | hlt
     ·exact hlast i o ho' ((va hils).2 (.inl rfl)) hlt hod
     ·exact hji heq
     ·exact (Oper.apart_spec (edge j oj hj hlt hl)).2.1 d hod hd
    cases hdst : o.dst with
    | none => exact g1
    | some d' =>
      simp only [Act.put]
      rw [Array.getElem?_setIfInBounds_ne (fun e => hne (by rw [hdst, e]))]; exact g1
 unfold wpOpIn
 simp only [ho]
 rcases gw hF hg2 with ⟨hw, hA⟩ | ⟨hw, hB⟩
 ·rw [if_pos hw]
  refine AOp.sound (AOp_look hk2 (hA.sound ok)) s hF ?_
  intro r' H' h' β' w' v hk' X' s' hrep
  obtain ⟨e1, e2⟩ := hk'
  subst e1; subst e2
  exact next v h' β' w' X' s' hrep
 ·rw [if_neg (by rw [hw]; simp)]
  refine ⟨fun _ _ => trivial, ?_⟩
  obtain ⟨e1, e2⟩ := hB
  refine next undef h β w ?_ ?_ ?_
  ·rw [<- e2]; exact Ext.refl _ _ _
  ·rw [<- e2]; exact s
  ·rw [<- e1]; exact zbo
theorem unl_zero {listed : Array Bool} (h : (List.range listed.size).countP (fun j => !listed.getD j false) = 0) {j : Nat} (hj : j < listed.size) : isL listed j := by
 rw [List.countP_eq_zero] at h
 have := h j (by simpa using hj)
 simpa [isL] using this
theorem unl_set {listed : Array Bool} {i : Nat} (hi : i < listed.size) (hn : ¬ isL listed i) :
  (List.range (listed.setIfInBounds i true).size).countP (fun j => !(listed.setIfInBounds i true).getD j false) + 1 = (List.range listed.size).countP (fun j => !listed.getD j false) := by
 have e : ∀ n, n <= listed.size -> (List.range n).countP (fun j => !(listed.setIfInBounds i true).getD j false) + (if i < n then 1 else 0) = (List.range n).countP (fun j => !listed.getD j false) := by
  intro n
  induction n with
  | zero => intro _; simp
  | succ n ih =>
    intro hn'
    have ih := ih (by omega)
    rw [List.range_succ, List.countP_append, List.countP_append, <- ih]
    by_cases h : i = n
    ·subst h
     have h1 : listed.getD i false = false := by unfold isL at hn; simpa using hn
     have h2 : (listed.setIfInBounds i true).getD i false = true := by simp [hi]
     simp only [List.countP_cons, List.countP_nil, h1, h2]
     simp
    ·rw [show List.countP (fun j => !(listed.setIfInBounds i true).getD j false) [n] = List.countP (fun j => !listed.getD j false) [n] by simp only [List.countP_cons, List.countP_nil, getD_set_ne false h]]
     split <;> split <;> omega
 have := e listed.size (Nat.le_refl _)
 rw [if_pos hi] at this
 simpa using this
theorem DInv.any {R : List AV} {a0 : Act} {h0 : Nat -> Option Obj} {β0 : Nat -> Value} {H0 : List Blk} {Q : Exit -> Act -> World -> Prop} (ok : zE P T) (hN : a0.tmps.size = N) (hs : Region.lexB .any ops.toArray = true)
  (hchk : wT P T N own ops eff HS 0 ops R σ) (hQ : ∀ listed a w, DInv P E N ops eff HS R σ a0 h0 β0 H0 listed a w -> (∀ j, j < ops.length -> isL listed j) -> Q .normal a w) :
  ∀ (fuel : Nat) (listed : Array Bool) (a : Act) (w : World), (List.range listed.size).countP (fun j => !listed.getD j false) = fuel -> DInv P E N ops eff HS R σ a0 h0 β0 H0 listed a w -> wpAnyIn (FW ρ) 0 P .any ops.toArray Q fuel listed a w := by
 simp only [Region.lexB, Bool.and_eq_true] at hs
 have hspec := zdg (ops := ops.toArray) ops.toArray.size 0 (Array.replicate ops.toArray.size false) (by simp) (fun j => by
  simp only [Array.getD_eq_getD_getElem?, Array.getElem?_replicate]
  split <;> simp_all) (by simp) hs.2
 have hlex : ∀ (i : Nat) o, ops[i]? = some o -> ∀ (j : Nat) oj, i < j -> ops[j]? = some oj -> (∀ e ∈ oj.after, Region.binds .any e = true -> e.on ≠ i) -> o.apart ops.toArray oj = true :=
  fun i o ho j oj hij hj hno => (hspec i o (Nat.zero_le _) (by simpa using ho)).2 j oj hij (by simpa using hj) hno
 -- who is ready when nobody is
 have hready : ∀ listed a w, DInv P E N ops eff HS R σ a0 h0 β0 H0 listed a w -> Region.ready .any ops.toArray listed = [] -> ∀ j, j < ops.length -> isL listed j := by
  intro listed a w I hr j
  induction j using Nat.strongRecOn with
  | _ j ih =>
    intro hj
    by_cases hl : isL listed j
    ·exact hl
    ·exfalso
     have : j ∈ Region.ready .any ops.toArray listed := by
      rw [mem_ready]
      refine ⟨?_, ops[j], by simp [hj], fun e he hb => ?_⟩
      ·have hjs : j < listed.size := by rw [I.size]; exact hj
       unfold isL at hl; simp [hjs] at hl ⊢; exact hl
      ·have h1 := (hspec j ops[j] (Nat.zero_le _) (by simp [hj])).1 e he hb
       exact ih e.on h1 (by omega)
     rw [hr] at this; cases this
 intro fuel
 induction fuel with
 | zero =>
   intro listed a w hc I
   have hall : ∀ j, j < ops.length -> isL listed j := fun j hj => unl_zero hc (by rw [I.size]; exact hj)
   refine ⟨?_, hQ listed a w I hall⟩
   cases hr : Region.ready .any ops.toArray listed with
   | nil => rfl
   | cons j l =>
     have : j ∈ Region.ready .any ops.toArray listed := by rw [hr]; simp
     obtain ⟨h1, o, h2, _⟩ := mem_ready.1 this
     have hj : j < ops.length := by have := (Array.getElem?_eq_some_iff.1 h2).1; simpa using this
     have hjs : j < listed.size := by rw [I.size]; exact hj
     have := hall j hj
     unfold isL at this; simp [hjs] at h1 this; rw [h1] at this; cases this
 | succ fuel ih =>
   intro listed a w hc I
   refine ⟨fun hr => hQ listed a w I (hready listed a w I hr), fun i hi => ?_⟩
   obtain ⟨h1, o, h2, _⟩ := mem_ready.1 hi
   have hj : i < ops.length := by have := (Array.getElem?_eq_some_iff.1 h2).1; simpa using this
   have hjs : i < listed.size := by rw [I.size]; exact hj
   have hn : ¬ isL listed i := by unfold isL; simp [hjs] at h1 ⊢; exact h1
   refine wpOpIn_mono (fun a' w' I' => ih _ a' w' ?_ I') (DInv.step ok hN hlex hchk I hi)
   have := unl_set hjs hn
   omega
theorem Walk.draw {id : Nat} {Q : Post} {D : List Nat} (ok : zE P T) (hm : P.follows .mixedOrders = true) (own : List Nat) (eff : List Nat) (HS : List Bool -> List Blk) (R : List AV) (hs : Region.lexB .any ops.toArray = true)
  (hH : HS (eff.map fun _ => false) = H) (hchk : wT P T N own ops eff HS 0 ops R σ) (hk : Q .normal D (fe N ops R σ) (HS (eff.map fun j => Nat.blt j ops.length))) : Walk P N ρ (.region id ops.toArray true) Q D σ H := by
 constructor
 intro E h β a w s
 have hfl0 : zP eff (Array.replicate ops.toArray.size false) = eff.map fun _ => false := by
  unfold zP; apply List.map_congr_left; intro j _
  simp only [Array.getD_eq_getD_getElem?, Array.getElem?_replicate]; split <;> rfl
 have hnl : ∀ j, ¬ isL (Array.replicate ops.toArray.size false) j := by
  intro j; unfold isL
  simp only [Array.getD_eq_getD_getElem?, Array.getElem?_replicate]; split <;> simp
 have I0 : DInv P E N ops eff HS R σ a h β H (Array.replicate ops.toArray.size false) a { w with drawn := w.drawn + 1 } := by
  refine ⟨by simp, fun j o _ hl => absurd hl (hnl j), ⟨h, β, ?_, ?_, fun t r e _ => ?_, fun j o d r _ hl => absurd hl (hnl j)⟩, ⟨rfl, rfl⟩⟩
  ·rw [hfl0, hH]; exact Ext.refl _ _ _
  ·rw [hfl0, hH]; exact s.sr.drew
  ·rw [hfl0, hH]; exact s.fits t r e
 have hcnt : (List.range (Array.replicate ops.toArray.size false).size).countP (fun j => !(Array.replicate ops.toArray.size false).getD j false) = ops.toArray.size := by
  rw [List.countP_eq_length.2]
  ·simp
  ·intro j _; have := hnl j; unfold isL at this; simpa using this
 refine wpIn_region_any hm (DInv.any ok s.size hs hchk (fun listed a' w' I hall => ?_) _ _ a _ hcnt I0)
 obtain ⟨h', β', X, s', K1, K2⟩ := I.st
 have hfl : zP eff listed = eff.map fun j => Nat.blt j ops.length := by
  unfold zP; apply List.map_congr_left; intro j _
  rcases Nat.lt_or_ge j ops.length with hj | hj
  ·have := hall j hj; unfold isL at this; rw [this]; symm; rw [Nat.blt_eq]; exact hj
  ·have h1 : listed.getD j false = false := by simp [Array.getElem?_eq_none (show listed.size <= j by rw [I.size]; exact hj)]
   rw [h1]; cases hb : Nat.blt j ops.length with
   | false => rfl
   | true => rw [Nat.blt_eq] at hb; omega
 rw [hfl] at X s' K1 K2
 refine ⟨D, _, _, h', β', hk, X, s', fun t x ex => ?_, I.keeps.size.trans s.size, by rw [I.keeps.defers]; exact s.df.ext X⟩
 rcases qM hchk.get.1 ex with ⟨j, oj, h1, h2, h3, h4, h5⟩ | ⟨h1, h2⟩
 ·exact K2 j oj t x h1 (hall j (List.getElem?_eq_some_iff.1 h1).1) h2 h3 h4 fun k ok hk _ hjk => h5 k ok hk hjk
 ·exact K1 t x h2 fun j o hj _ => h1 j o hj
end
end GA
end
section
namespace GA
open Go Go.RowKit
structure XAnd (A B : Prop) : Prop where
 l : A
 r : B
def allF : Nat -> List (List Bool)
 | 0 => [[]]
 | n + 1 => (allF n).flatMap fun l => [l ++ [false], l ++ [true]]
def za8 : List Bool -> List Bool -> Bool
 | [], [] => true
 | true :: l, true :: m => za8 l m
 | false :: l, false :: m => za8 l m
 | _, _ => false
theorem fi : ∀ {l m : List Bool}, za8 l m = true -> l = m
 | [], [], _ => rfl
 | true :: l, true :: m, h => by rw [fi (l := l) (m := m) h]
 | false :: l, false :: m, h => by rw [fi (l := l) (m := m) h]
 | [], _ :: _, h => by cases h
 | _ :: _, [], h => by simp [za8] at h
 | true :: _, false :: _, h => by cases h
 | false :: _, true :: _, h => by cases h
theorem zc5 : ∀ {n : Nat} {fl : List Bool}, fl.length = n -> fl ∈ allF n
 | 0, fl, h => by simp [allF, List.eq_nil_of_length_eq_zero h]
 | n + 1, fl, h => by
   have hne : fl ≠ [] := by intro e; rw [e] at h; simp at h
   have h1 : fl.dropLast ++ [fl.getLast hne] = fl := List.dropLast_concat_getLast hne
   have h2 := zc5 (n := n) (fl := fl.dropLast) (by simp [h])
   simp only [allF, List.mem_flatMap]
   refine ⟨fl.dropLast, h2, ?_⟩
   cases hb : fl.getLast hne with
   | true => rw [hb] at h1; rw [h1]; simp
   | false => rw [hb] at h1; rw [h1]; simp
section
variable (P : Program) (T : Tab) (N : Nat) (own : List Nat) (ops : List Oper) (eff : List Nat) (HS : List Bool -> List Blk)
def textF (i : Nat) : List Bool := eff.map fun j => Nat.blt j i
def ChkA : Nat -> List Oper -> List AV -> St -> Prop
 | _, [], [], _ => True
 | i, o :: l, r :: R, σ => XAnd (Chk P T own ops eff HS i o σ r (textF eff i)) (ChkA (i + 1) l R (putX N σ o.dst r))
 | _, _, _, _ => False
def ChkF (fl : List Bool) : Nat -> List Oper -> List AV -> St -> Prop
 | i, o :: l, r :: R, σ => match compat ops eff i fl && !za8 fl (textF eff i) with
   | true => XAnd (Chk P T own ops eff HS i o σ r fl) (ChkF fl (i + 1) l R (putX N σ o.dst r))
   | false => ChkF fl (i + 1) l R (putX N σ o.dst r)
 | _, _, _, _ => True
def ChkB (R : List AV) (σ : St) : List (List Bool) -> Prop
 | [] => True
 | fl :: fls => XAnd (ChkF P T N own ops eff HS fl 0 ops R σ) (ChkB R σ fls)
end
section
variable {P : Program} {T : Tab} {N : Nat} {own : List Nat} {ops : List Oper} {eff : List Nat} {HS : List Bool -> List Blk}
theorem ChkF.all : ∀ {l : List Oper} {R : List AV} {i : Nat} {σ : St}, ChkA P T N own ops eff HS i l R σ -> (∀ fl, fl.length = eff.length -> ChkF P T N own ops eff HS fl i l R σ) -> wT P T N own ops eff HS i l R σ
 | [], [], _, _, _, _ => trivial
 | o :: l, r :: R, i, σ, hA, hB => by
   refine ⟨fun fl hf hc => ?_, ChkF.all hA.r fun fl hf => ?_⟩
   ·cases hs : za8 fl (textF eff i) with
    | true => rw [fi hs]; exact hA.l
    | false =>
      have := hB fl hf
      simp only [ChkF, hc, hs] at this
      exact this.l
   ·have := hB fl hf
    simp only [ChkF] at this
    split at this
    ·exact this.r
    ·exact this
 | [], _ :: _, _, _, h, _ => h.elim
 | _ :: _, [], _, _, h, _ => h.elim
theorem ChkB.get {R : List AV} {σ : St} : ∀ {fls : List (List Bool)}, ChkB P T N own ops eff HS R σ fls -> ∀ fl ∈ fls, ChkF P T N own ops eff HS fl 0 ops R σ
 | fl :: fls, h, f, hf => by
   rcases List.mem_cons.1 hf with rfl | hf
   ·exact h.l
   ·exact ChkB.get h.r f hf
def hsC (l : List (List Blk)) (fl : List Bool) : List Blk := match lget l (fl.countP id) with | some H => H | none => []
theorem Walk.drawX {ρ : Option Nat} {id : Nat} {Q : Post} {D : List Nat} {σ : St} {H : List Blk} (ok : zE P T) (hm : P.follows .mixedOrders = true) (own : List Nat) (eff : List Nat) (HS : List Bool -> List Blk) (R : List AV) (hs : Region.lexB .any ops.toArray = true)
  (hH : HS (eff.map fun _ => false) = H) (hA : ChkA P T N own ops eff HS 0 ops R σ) (hB : ChkB P T N own ops eff HS R σ (allF eff.length)) (hk : Q .normal D (fe N ops R σ) (HS (eff.map fun j => Nat.blt j ops.length))) : Walk P N ρ (.region id ops.toArray true) Q D σ H :=
 .draw ok hm own eff HS R hs hH (ChkF.all hA fun fl hf => hB.get fl (zc5 hf)) hk
theorem ChkA.go {i : Nat} {l : List Oper} {R : List AV} {σ : St} (h : ChkA P T N own ops eff HS i l R σ) : ChkA P T N own ops eff HS i l R σ := h
theorem ChkF.go {fl : List Bool} {i : Nat} {l : List Oper} {R : List AV} {σ : St} (h : ChkF P T N own ops eff HS fl i l R σ) : ChkF P T N own ops eff HS fl i l R σ := h
theorem ChkB.go {R : List AV} {σ : St} {fls : List (List Bool)} (h : ChkB P T N own ops eff HS R σ fls) : ChkB P T N own ops eff HS R σ fls := h
theorem Chk.go {i : Nat} {o : Oper} {σ : St} {r : AV} {fl : List Bool} (h : Chk P T own ops eff HS i o σ r fl) : Chk P T own ops eff HS i o σ r fl := h
end
end GA
end
section
namespace GA
open Go Go.RowKit
section
variable {P : Program} {T : Tab} {N : Nat} {ρ : Option Nat} {D : List Nat} {σ : St} {H : List Blk} {Q : Post}
theorem AWp.loopG {c : Code} {G : Type} (st : G -> St) (hp : G -> List Blk) (μ : G -> Nat) (g0 : G) (hσ : ∀ t r, st g0 t = some r -> σ t = some r) (hH : hp g0 = H) (hD : D = [])
  (hlow : ∀ g, (∀ x ∈ hp g, x.low (hp g).length = true) /\ ∀ t r, st g t = some r -> r.low (hp g).length = true) (hlen : ∀ g, (hp g0).length <= (hp g).length)
  (round : ∀ g, AWp P N ρ c (yZ (fun D' σ' H' => D' = D /\ ∃ g' l, μ g' < μ g /\ hp g' ++ l = H' /\ ∀ t r, st g' t = some r -> σ' t = some r) Q) D (st g) (hp g)) : AWp P N ρ (.loop c) Q D σ H := by
 intro E h β a w s
 subst hH; subst hD
 let I : G -> Act -> World -> Prop := fun g a w => ∃ h' β', Ext h β (hp g0) h' β' (hp g) /\ kj P E N h' β' [] (st g) (hp g) a w
 have least : ∀ a w, (∃ g, I g a w) -> ∃ n, (∃ g, I g a w /\ μ g = n) /\ ∀ m, m < n -> ¬ ∃ g, I g a w /\ μ g = m :=
  fun a w ⟨g, hg⟩ => jm ⟨μ g, g, hg, rfl⟩
 classical
 let M : Act -> World -> Nat := fun a w => if e : ∃ g, I g a w then Classical.choose (least a w e) else 0
 have hM : ∀ a w (e : ∃ g, I g a w), (∃ g, I g a w /\ μ g = M a w) /\ ∀ g, I g a w -> M a w <= μ g := by
  intro a w e
  have hc := Classical.choose_spec (least a w e)
  have hm : M a w = Classical.choose (least a w e) := by simp only [M, dif_pos e]
  rw [hm]
  refine ⟨hc.1, fun g hg => ?_⟩
  rcases Nat.lt_or_ge (μ g) (Classical.choose (least a w e)) with hlt | hge
  ·exact absurd ⟨g, hg, rfl⟩ (hc.2 _ hlt)
  ·exact hge
 refine wpIn_loop (fun a w => ∃ g, I g a w) M ⟨g0, h, β, Ext.refl _ _ _, s.sr, fun t r e => s.fits t r (hσ t r e), s.size, s.df⟩ ?_
 intro a' w' hI
 obtain ⟨⟨g, hg, hmu⟩, _⟩ := hM a' w' hI
 obtain ⟨h', β', X, s'⟩ := hg
 refine wpIn_mono (round g E h' β' a' w' s') ?_
 rintro e a'' w'' ⟨D'', σ'', H'', h'', β'', q, X', s''⟩
 cases e with
 | normal =>
   obtain ⟨rfl, g', l, hlt, rfl, hsub⟩ := q
   have hI' : I g' a'' w'' := by
    refine ⟨h'', β'', (X.trans X').cut (hlen g'), s''.sr.cut (hlow g').1, fun t r e => ?_, s''.size, s''.df.any⟩
    obtain ⟨v, h1, h2⟩ := s''.fits t r (hsub t r e)
    exact ⟨v, h1, h2.cut ((hlow g').2 t r e)⟩
   refine ⟨⟨g', hI'⟩, ?_⟩
   have := (hM a'' w'' ⟨g', hI'⟩).2 g' hI'
   omega
 | _ => exact ⟨D'', σ'', H'', h'', β'', q, X.trans X', s''⟩
structure zp {G : Type} (I : G -> Prop) (L : G -> List (Nat × AV)) (hp : G -> List Blk) (μ : G -> Nat) (g : G) (D' : List Nat) (σ' : St) (H' : List Blk) : Prop where
 d : D' = []
 o : ∃ g' l, I g' /\ μ g' < μ g /\ hp g' ++ l = H' /\ SubX (L g') σ'
theorem Walk.loopG {c : Code} {G : Type} (ok : zE P T) (own : List Nat) (I : G -> Prop) (L : G -> List (Nat × AV)) (hp : G -> List Blk) (μ : G -> Nat) (g0 : G) (h0 : I g0) (hH : hp g0 = H) (hs : SubX (L g0) σ)
  (hlow : ∀ g, I g -> (∀ x ∈ hp g, x.low (hp g).length = true) /\ ∀ p ∈ L g, p.2.low (hp g).length = true) (hlen : ∀ g, I g -> (hp g0).length <= (hp g).length)
  (round : ∀ g, I g -> XRun P T N ρ own c (yZ (zp I L hp μ g) Q) [] (stX (L g)) (hp g)) : Walk P N ρ (.loop c) Q [] σ H := by
 constructor
 have hst : ∀ (l : List (Nat × AV)) t r, stX l t = some r -> (t, r) ∈ l := by
  intro l; induction l with
  | nil => intro t r h; cases h
  | cons p l ih =>
    obtain ⟨u, x⟩ := p
    intro t r h; simp only [stX, yV, upd] at h
    split at h
    ·rename_i e; cases h; subst e; exact List.mem_cons_self
    ·exact List.mem_cons_of_mem _ (ih t r h)
 refine AWp.loopG (G := {g : G // I g}) (fun g => stX (L g.1)) (fun g => hp g.1) (fun g => μ g.1) ⟨g0, h0⟩ (yC hs) hH rfl (fun g => ⟨(hlow g.1 g.2).1, fun t r e => (hlow g.1 g.2).2 (t, r) (hst _ _ _ e)⟩) (fun g => hlen g.1 g.2) fun g => ?_
 refine (XRun.sound ok (round g.1 g.2)).mono fun e D' σ' H' q => ?_
 cases e with
 | normal => obtain ⟨h1, g', l, h2, h3, h4, h5⟩ := q; exact ⟨h1, ⟨g', h2⟩, l, h3, h4, yC h5⟩
 | _ => exact q
theorem zp.go {G : Type} {I : G -> Prop} {L : G -> List (Nat × AV)} {hp : G -> List Blk} {μ : G -> Nat} {g : G} (g' : G) (l : List Blk) (h1 : I g') (h2 : μ g' < μ g) (h3 : hp g' ++ l = H) (h4 : SubX (L g') σ) : zp I L hp μ g [] σ H := ⟨rfl, g', l, h1, h2, h3, h4⟩
end
end GA
end
section
namespace GA
open Go Go.RowKit
mutual
def AV.ren (ρ : Nat -> Nat) : AV -> AV
 | .ptr i o => .ptr (ρ i) o
 | .gr i n => .gr (ρ i) n
 | .gp i n e o => .gp (ρ i) n e o
 | .os i m o n => .os (ρ i) m o n
 | .mp i => .mp (ρ i)
 | .yld i => .yld (ρ i)
 | .pim cs => .pim (renL ρ cs)
 | .sl nl cs => .sl nl (renL ρ cs)
 | .fn f cs => .fn f (renL ρ cs)
 | .bf f cs => .bf f (renL ρ cs)
 | .agg cs => .agg (renL ρ cs)
 | .tup cs => .tup (renL ρ cs)
 | .im ks cs => .im ks (renL ρ cs)
 | .bool b => .bool b
 | .int k n => .int k n
 | .nilp => .nilp
 | .se => .se
 | .nilm => .nilm
 | .nilf => .nilf
def renL (ρ : Nat -> Nat) : List AV -> List AV
 | [] => []
 | x :: l => x.ren ρ :: renL ρ l
end
theorem zG (ρ : Nat -> Nat) : ∀ l : List AV, renL ρ l = l.map (AV.ren ρ)
 | [] => rfl
 | x :: l => by rw [renL, zG ρ l]; rfl
def Blk.ren (ρ : Nat -> Nat) : Blk -> Blk
 | .dead => .dead
 | .free => .free
 | .cells cs => .cells (renL ρ cs)
 | .grow t nl els => .grow t nl (renL ρ els)
 | .map es => .map (es.map fun p => (p.1, p.2.ren ρ))
 | .raw o => .raw o
 | .lp st pend f tm ps x y n => .lp st pend f (tm.map fun p => (p.1, p.2.ren ρ)) ps x y n
theorem AV.ren_one (ρ : Nat -> Nat) (a : AV) : (a.ren ρ).one = a.one := by cases a <;> rfl
theorem AV.ren_cells (ρ : Nat -> Nat) (a : AV) : (a.ren ρ).cells = a.cells.map (AV.ren ρ) := by
 cases a <;> first | rfl | (simp only [AV.ren, AV.cells, zG]; rfl) | simp only [AV.ren, AV.cells, zG]
theorem jc (ρ : Nat -> Nat) (l : List AV) : flat (l.map (AV.ren ρ)) = (flat l).map (AV.ren ρ) := by
 induction l with
 | nil => rfl
 | cons x l ih =>
   simp only [flat, List.map_cons, List.flatMap_cons, List.map_append] at ih ⊢
   rw [ih, AV.ren_cells]
theorem Blk.ren_free (ρ : Nat -> Nat) (x : Blk) : (x.ren ρ).isFree = x.isFree := by cases x <;> rfl
theorem Blk.ren_rec (ρ : Nat -> Nat) (x : Blk) : (x.ren ρ).isRec = x.isRec := by cases x <;> rfl
theorem AV.ren_low {ρ : Nat -> Nat} {n : Nat} (h : ∀ i, i < n -> ρ i = i) : ∀ {a : AV}, a.low n = true -> a.ren ρ = a := by
 intro a
 refine AV.rec (motive_1 := fun a => a.low n = true -> a.ren ρ = a) (motive_2 := fun l => lowL n l = true -> renL ρ l = l) ?_ ?_ ?_ ?_ ?_ ?_ ?_ ?_ ?_ ?_ ?_ ?_ ?_ ?_ ?_ ?_ ?_ ?_ ?_ ?_ ?_ a
 all_goals try (intros; rfl)
 ·intro i o hl; simp only [AV.low, decide_eq_true_eq] at hl; rw [AV.ren, h i hl]
 ·intro cs ih hl; rw [AV.ren, ih hl]
 ·intro nl cs ih hl; rw [AV.ren, ih hl]
 ·intro i o hl; simp only [AV.low, decide_eq_true_eq] at hl; rw [AV.ren, h i hl]
 ·intro i o e f hl; simp only [AV.low, decide_eq_true_eq] at hl; rw [AV.ren, h i hl]
 ·intro i hl; simp only [AV.low, decide_eq_true_eq] at hl; rw [AV.ren, h i hl]
 ·intro f cs ih hl; rw [AV.ren, ih hl]
 ·intro f cs ih hl; rw [AV.ren, ih hl]
 ·intro i m o n hl; simp only [AV.low, decide_eq_true_eq] at hl; rw [AV.ren, h i hl]
 ·intro i hl; simp only [AV.low, decide_eq_true_eq] at hl; rw [AV.ren, h i hl]
 ·intro cs ih hl; rw [AV.ren, ih hl]
 ·intro cs ih hl; rw [AV.ren, ih hl]
 ·intro ks cs ih hl; rw [AV.ren, ih hl]
 ·intro x l ih1 ih2 hl; simp only [lowL, Bool.and_eq_true] at hl; rw [renL, ih1 hl.1, ih2 hl.2]
theorem fy {ρ : Nat -> Nat} {n : Nat} (h : ∀ i, i < n -> ρ i = i) {l : List AV} (hl : lowL n l = true) : renL ρ l = l := by
 have := AV.ren_low h (a := .agg l) hl
 simpa [AV.ren] using this
theorem vl {ρ : Nat -> Nat} {l : List AV} (hl : lowL 0 l = true) : renL ρ l = l := fy (n := 0) (fun i hi => by omega) hl
structure Ren (ρ : Nat -> Nat) (β1 : Nat -> Value) (H1 : List Blk) (β : Nat -> Value) (H : List Blk) : Prop where
 m : ∀ (i : Nat) x1, H1[i]? = some x1 -> H[ρ i]? = some (x1.ren ρ)
 b : ∀ i, i < H1.length -> β (ρ i) = β1 i
section
variable {P : Program} {E : Env} {h : Nat -> Option Obj} {β β1 : Nat -> Value} {H H1 : List Blk} {w : World} {ρ : Nat -> Nat}
theorem Ren.live (R : Ren ρ β1 H1 β H) {i : Nat} (l : live H1 i) : live H (ρ i) := let ⟨x, h1, h2⟩ := l; ⟨x.ren ρ, R.m i x h1, by rw [Blk.ren_free]; exact h2⟩
theorem Ren.unlive (R : Ren ρ β1 H1 β H) {i : Nat} (l : GA.live H (ρ i)) (hi : i < H1.length) : GA.live H1 i := by
 obtain ⟨x, h1, h2⟩ := l
 have h3 := R.m i _ (List.getElem?_eq_getElem hi)
 rw [h3] at h1; cases h1
 exact ⟨_, List.getElem?_eq_getElem hi, by rw [Blk.ren_free] at h2; exact h2⟩
theorem Ren.rep (R : Ren ρ β1 H1 β H) {a : AV} {v : Value} (x : Rep P h β1 H1 a v) : Rep P h β H (a.ren ρ) v := by
 induction x with
 | bool b => exact .bool b
 | int k n => exact .int k n
 | nilp => exact .nilp
 | @ptr i o b hi hb =>
   refine .ptr (R.live hi) fun cs e => ?_
   obtain ⟨x, hx, hf⟩ := hi
   rw [R.m i x hx] at e; rw [R.b i (List.getElem?_eq_some_iff.1 hx).1]
   cases x <;> simp only [Blk.ren, Option.some.injEq, reduceCtorEq] at e
   exact hb _ hx
 | pim us hone hb hc _ ih =>
   rw [AV.ren, zG]
   refine .pim us (fun x hx => ?_) hb (fun j x e => ?_) (fun j x e => ?_)
   ·obtain ⟨y, hy, rfl⟩ := List.mem_map.1 hx; rw [AV.ren_one]; exact hone y hy
   ·rw [List.getElem?_map] at e; cases hq : ‹List AV›[j]? with | none => simp [hq] at e | some y => exact hc j y hq
   ·rw [List.getElem?_map] at e
    cases hq : ‹List AV›[j]? with
    | none => simp [hq] at e
    | some y => simp only [hq, Option.map_some, Option.some.injEq] at e; subst e; exact ih j y hq
 | slnil => exact .slnil
 | slemp => exact .slemp
 | @sl b off cap c t fz els w n us hn hne hb hw hw0 hone hcap hc _ ih =>
   rw [AV.ren, zG]
   refine .sl (w := w) us (by rw [List.length_map]; exact hn) (by simpa using hne) hb (fun e he => ?_) hw0 (fun x hx => ?_) (by rw [List.length_map]; exact hcap) (fun j x e => ?_) (fun j x e => ?_)
   ·obtain ⟨y, hy, rfl⟩ := List.mem_map.1 he; rw [AV.ren_cells, List.length_map]; exact hw y hy
   ·rw [jc] at hx; obtain ⟨y, hy, rfl⟩ := List.mem_map.1 hx; rw [AV.ren_one]; exact hone y hy
   ·rw [jc, List.getElem?_map] at e; cases hq : (flat els)[j]? with | none => simp [hq] at e | some y => exact hc j y hq
   ·rw [jc, List.getElem?_map] at e
    cases hq : (flat els)[j]? with
    | none => simp [hq] at e
    | some y => simp only [hq, Option.map_some, Option.some.injEq] at e; subst e; exact ih j y hq
 | se => exact .se
 | @gr i n v ho hi hv =>
   refine .gr ho (R.live hi) fun t nl els e => ?_
   obtain ⟨x, hx, hf⟩ := hi
   rw [R.m i x hx] at e; rw [R.b i (List.getElem?_eq_some_iff.1 hx).1]
   cases x <;> simp only [Blk.ren, Option.some.injEq, Blk.grow.injEq, reduceCtorEq] at e
   obtain ⟨rfl, rfl, rfl⟩ := e
   rw [zG, List.length_map]; exact hv _ _ _ hx
 | @gp i n e o b q hi hv =>
   refine .gp (R.live hi) fun t nl els e => ?_
   obtain ⟨x, hx, hf⟩ := hi
   rw [R.m i x hx] at e; rw [R.b i (List.getElem?_eq_some_iff.1 hx).1]
   cases x <;> simp only [Blk.ren, Option.some.injEq, Blk.grow.injEq, reduceCtorEq] at e
   obtain ⟨rfl, rfl, rfl⟩ := e
   rw [zG, List.length_map]; exact hv _ _ _ hx
 | nilm => exact .nilm
 | @mp i r hi hb =>
   refine .mp (R.live hi) fun es e => ?_
   obtain ⟨x, hx, hf⟩ := hi
   rw [R.m i x hx] at e; rw [R.b i (List.getElem?_eq_some_iff.1 hx).1]
   cases x <;> simp only [Blk.ren, Option.some.injEq, reduceCtorEq] at e
   exact hb _ hx
 | nilf => exact .nilf
 | @yld i b hi hb =>
   refine .yld (R.live hi) fun y e hy => ?_
   obtain ⟨x, hx, hf⟩ := hi
   rw [R.m i x hx] at e; rw [R.b i (List.getElem?_eq_some_iff.1 hx).1]
   cases e
   rw [Blk.ren_rec] at hy
   exact hb _ hx hy
 | @fn f caps vs us hs hc _ ih =>
   rw [AV.ren, zG]
   refine .fn us (by rw [List.length_map]; exact hs) (fun j x e => ?_) (fun j x e => ?_)
   ·rw [List.getElem?_map] at e; cases hq : caps[j]? with | none => simp [hq] at e | some y => exact hc j y hq
   ·rw [List.getElem?_map] at e
    cases hq : caps[j]? with
    | none => simp [hq] at e
    | some y => simp only [hq, Option.map_some, Option.some.injEq] at e; subst e; exact ih j y hq
 | @bf f caps vs us hs hc _ ih =>
   rw [AV.ren, zG]
   refine .bf us (by rw [List.length_map]; exact hs) (fun j x e => ?_) (fun j x e => ?_)
   ·rw [List.getElem?_map] at e; cases hq : caps[j]? with | none => simp [hq] at e | some y => exact hc j y hq
   ·rw [List.getElem?_map] at e
    cases hq : caps[j]? with
    | none => simp [hq] at e
    | some y => simp only [hq, Option.map_some, Option.some.injEq] at e; subst e; exact ih j y hq
 | @os i m o n b q cap hi hn hc hg hz =>
   obtain ⟨x, hx, hf⟩ := id hi
   refine .os (R.live hi) hn (fun cs e hne => ?_) (fun t nl els e => ?_) fun ho t nl els e hlen => ?_
   ·rw [R.m i x hx] at e; rw [R.b i (List.getElem?_eq_some_iff.1 hx).1]
    cases x <;> simp only [Blk.ren, Option.some.injEq, reduceCtorEq] at e
    exact hc _ hx hne
   ·rw [R.m i x hx] at e; rw [R.b i (List.getElem?_eq_some_iff.1 hx).1]
    cases x <;> simp only [Blk.ren, Option.some.injEq, Blk.grow.injEq, reduceCtorEq] at e
    obtain ⟨rfl, rfl, rfl⟩ := e
    rw [zG, List.length_map]; exact hg _ _ _ hx
   ·rw [R.m i x hx] at e; rw [R.b i (List.getElem?_eq_some_iff.1 hx).1]
    cases x <;> simp only [Blk.ren, Option.some.injEq, Blk.grow.injEq, reduceCtorEq] at e
    obtain ⟨rfl, rfl, rfl⟩ := e
    rw [zG, List.length_map] at hlen; exact hz ho _ _ _ hx hlen
 | @agg caps vs us hs hone hc _ ih =>
   rw [AV.ren, zG]
   refine .agg us (by rw [List.length_map]; exact hs) (fun x hx => ?_) (fun j x e => ?_) (fun j x e => ?_)
   ·obtain ⟨y, hy, rfl⟩ := List.mem_map.1 hx; rw [AV.ren_one]; exact hone y hy
   ·rw [List.getElem?_map] at e; cases hq : caps[j]? with | none => simp [hq] at e | some y => exact hc j y hq
   ·rw [List.getElem?_map] at e
    cases hq : caps[j]? with
    | none => simp [hq] at e
    | some y => simp only [hq, Option.map_some, Option.some.injEq] at e; subst e; exact ih j y hq
 | @tup caps vs us hs hc _ ih =>
   rw [AV.ren, zG]
   refine .tup us (by rw [List.length_map]; exact hs) (fun j x e => ?_) (fun j x e => ?_)
   ·rw [List.getElem?_map] at e; cases hq : caps[j]? with | none => simp [hq] at e | some y => exact hc j y hq
   ·rw [List.getElem?_map] at e
    cases hq : caps[j]? with
    | none => simp [hq] at e
    | some y => simp only [hq, Option.map_some, Option.some.injEq] at e; subst e; exact ih j y hq
 | @im ks vs r ents clock us h0 h1 h2 h3 h4 _ ih =>
   rw [AV.ren, zG]
   refine .im us h0 (by rw [List.length_map]; exact h1) h2 h3 (fun j q x e1 e2 => ?_) (fun j x e => ?_)
   ·rw [List.getElem?_map] at e2; cases hq : vs[j]? with | none => simp [hq] at e2 | some y => exact h4 j q y e1 hq
   ·rw [List.getElem?_map] at e
    cases hq : vs[j]? with
    | none => simp [hq] at e
    | some y => simp only [hq, Option.map_some, Option.some.injEq] at e; subst e; exact ih j y hq
theorem k8 {n : Nat} {l : List AV} (hl : lowL n l = true) {j : Nat} {x : AV} (e : l[j]? = some x) : x.low n = true := zA.1 hl x (List.mem_of_getElem? e)
theorem yj {l : List AV} {j : Nat} {x : AV} (e : l[j]? = some x) : (l.map (AV.ren ρ))[j]? = some (x.ren ρ) := by rw [List.getElem?_map, e]; rfl
theorem Ren.unrep (R : Ren ρ β1 H1 β H) {r : AV} {v : Value} (x : Rep P h β H r v) : ∀ {a : AV}, a.ren ρ = r -> a.low H1.length = true -> Rep P h β1 H1 a v := by
 induction x with
 | bool b => intro a e hl; cases a <;> simp only [AV.ren, AV.bool.injEq, reduceCtorEq] at e; subst e; exact .bool _
 | int k n => intro a e hl; cases a <;> simp only [AV.ren, AV.int.injEq, reduceCtorEq] at e; obtain ⟨rfl, rfl⟩ := e; exact .int _ _
 | nilp => intro a e hl; cases a <;> simp only [AV.ren, reduceCtorEq] at e; exact .nilp
 | @ptr i o b hi hb =>
   intro a e hl; cases a <;> simp only [AV.ren, AV.ptr.injEq, reduceCtorEq] at e
   rename_i i0 o0
   obtain ⟨rfl, rfl⟩ := e
   simp only [AV.low, decide_eq_true_eq] at hl
   refine .ptr (R.unlive hi hl) fun cs e => ?_
   rw [<- R.b i0 hl]; exact hb _ (R.m _ _ e)
 | @pim b off c t fz cs us hone hb hc _ ih =>
   intro a e hl; cases a <;> simp only [AV.ren, AV.pim.injEq, reduceCtorEq] at e
   rename_i cs0
   rw [zG] at e; subst e
   refine .pim us (fun x hx => ?_) hb (fun j x e => ?_) (fun j x e => ?_)
   ·rw [<- AV.ren_one ρ]; exact hone _ (List.mem_map.2 ⟨x, hx, rfl⟩)
   ·exact hc j _ (yj e)
   ·exact ih j _ (yj e) rfl (k8 hl e)
 | slnil => intro a e hl; cases a <;> simp only [AV.ren, AV.sl.injEq, reduceCtorEq] at e; obtain ⟨rfl, e⟩ := e; rw [zG, List.map_eq_nil_iff] at e; subst e; exact .slnil
 | slemp => intro a e hl; cases a <;> simp only [AV.ren, AV.sl.injEq, reduceCtorEq] at e; obtain ⟨rfl, e⟩ := e; rw [zG, List.map_eq_nil_iff] at e; subst e; exact .slemp
 | @sl b off cap c t fz els w n us hn hne hb hw hw0 hone hcap hc _ ih =>
   intro a e hl; cases a <;> simp only [AV.ren, AV.sl.injEq, reduceCtorEq] at e
   rename_i nl cs0
   obtain ⟨rfl, e⟩ := e
   rw [zG] at e; subst e
   rw [List.length_map] at hn hcap
   rw [jc] at hone hc
   refine .sl (w := w) us hn (by simpa using hne) hb (fun e he => ?_) hw0 (fun x hx => ?_) hcap (fun j x e => hc j _ (yj e)) (fun j x e => ?_)
   ·have := hw _ (List.mem_map.2 ⟨e, he, rfl⟩); rwa [AV.ren_cells, List.length_map] at this
   ·rw [<- AV.ren_one ρ]; exact hone _ (List.mem_map.2 ⟨x, hx, rfl⟩)
   ·exact ih j _ (by rw [jc]; exact yj e) rfl (k7.1 hl x (List.mem_of_getElem? e))
 | se => intro a e hl; cases a <;> simp only [AV.ren, reduceCtorEq] at e; exact .se
 | @gr i n v ho hi hv =>
   intro a e hl; cases a <;> simp only [AV.ren, AV.gr.injEq, reduceCtorEq] at e
   rename_i i0 o0
   obtain ⟨rfl, rfl⟩ := e
   simp only [AV.low, decide_eq_true_eq] at hl
   refine .gr ho (R.unlive hi hl) fun t nl els e => ?_
   rw [<- R.b i0 hl]; have := hv _ _ _ (R.m _ _ e); rwa [zG, List.length_map] at this
 | @gp i n e o b q hi hv =>
   intro a e hl; cases a <;> simp only [AV.ren, AV.gp.injEq, reduceCtorEq] at e
   rename_i i0 n0 e0 o0
   obtain ⟨rfl, rfl, rfl, rfl⟩ := e
   simp only [AV.low, decide_eq_true_eq] at hl
   refine .gp (R.unlive hi hl) fun t nl els e => ?_
   rw [<- R.b i0 hl]; have := hv _ _ _ (R.m _ _ e); rwa [zG, List.length_map] at this
 | nilm => intro a e hl; cases a <;> simp only [AV.ren, reduceCtorEq] at e; exact .nilm
 | @mp i r hi hb =>
   intro a e hl; cases a <;> simp only [AV.ren, AV.mp.injEq, reduceCtorEq] at e
   subst e
   simp only [AV.low, decide_eq_true_eq] at hl
   refine .mp (R.unlive hi hl) fun cs e => ?_
   rw [<- R.b _ hl]; exact hb _ (R.m _ _ e)
 | nilf => intro a e hl; cases a <;> simp only [AV.ren, reduceCtorEq] at e; exact .nilf
 | @yld i b hi hb =>
   intro a e hl; cases a <;> simp only [AV.ren, AV.yld.injEq, reduceCtorEq] at e
   subst e
   simp only [AV.low, decide_eq_true_eq] at hl
   refine .yld (R.unlive hi hl) fun x e hx => ?_
   rw [<- R.b _ hl]; exact hb _ (R.m _ _ e) (by rw [Blk.ren_rec]; exact hx)
 | @fn f caps vs us hs hc _ ih =>
   intro a e hl; cases a <;> simp only [AV.ren, AV.fn.injEq, reduceCtorEq] at e
   rename_i f0 cs0
   obtain ⟨rfl, e⟩ := e
   rw [zG] at e; subst e
   exact .fn us (by rw [hs, List.length_map]) (fun j x e => hc j _ (yj e)) (fun j x e => ih j _ (yj e) rfl (k8 hl e))
 | @bf f caps vs us hs hc _ ih =>
   intro a e hl; cases a <;> simp only [AV.ren, AV.bf.injEq, reduceCtorEq] at e
   rename_i f0 cs0
   obtain ⟨rfl, e⟩ := e
   rw [zG] at e; subst e
   exact .bf us (by rw [hs, List.length_map]) (fun j x e => hc j _ (yj e)) (fun j x e => ih j _ (yj e) rfl (k8 hl e))
 | @os i m o n b q cap hi hn hc hg hz =>
   intro a e hl; cases a <;> simp only [AV.ren, AV.os.injEq, reduceCtorEq] at e
   rename_i i0 m0 o0 n0
   obtain ⟨rfl, rfl, rfl, rfl⟩ := e
   simp only [AV.low, decide_eq_true_eq] at hl
   refine .os (R.unlive hi hl) hn (fun cs e hne => ?_) (fun t nl els e => ?_) fun ho t nl els e hlen => ?_
   ·rw [<- R.b i0 hl]; exact hc _ (R.m _ _ e) hne
   ·rw [<- R.b i0 hl]; have := hg _ _ _ (R.m _ _ e); rwa [zG, List.length_map] at this
   ·rw [<- R.b i0 hl]; have := hz ho _ _ _ (R.m _ _ e); rw [zG, List.length_map] at this; exact this hlen
 | @agg caps vs us hs hone hc _ ih =>
   intro a e hl; cases a <;> simp only [AV.ren, AV.agg.injEq, reduceCtorEq] at e
   rename_i cs0
   rw [zG] at e; subst e
   exact .agg us (by rw [hs, List.length_map]) (fun x hx => by rw [<- AV.ren_one ρ]; exact hone _ (List.mem_map.2 ⟨x, hx, rfl⟩)) (fun j x e => hc j _ (yj e)) (fun j x e => ih j _ (yj e) rfl (k8 hl e))
 | @tup caps vs us hs hc _ ih =>
   intro a e hl; cases a <;> simp only [AV.ren, AV.tup.injEq, reduceCtorEq] at e
   rename_i cs0
   rw [zG] at e; subst e
   exact .tup us (by rw [hs, List.length_map]) (fun j x e => hc j _ (yj e)) (fun j x e => ih j _ (yj e) rfl (k8 hl e))
 | @im ks vs r ents clock us h0 h1 h2 h3 h4 _ ih =>
   intro a e hl; cases a <;> simp only [AV.ren, AV.im.injEq, reduceCtorEq] at e
   rename_i ks0 cs0
   obtain ⟨rfl, e⟩ := e
   rw [zG] at e; subst e
   rw [List.length_map] at h1
   exact .im us h0 h1 h2 h3 (fun j q x e1 e2 => h4 j q _ e1 (yj e2)) (fun j x e => ih j _ (yj e) rfl (k8 hl e))
theorem Ren.cells (R : Ren ρ β1 H1 β H) {cs : List AV} {c : Array Value} (k : zM P h β1 H1 cs c) : zM P h β H (cs.map (AV.ren ρ)) c := by
 obtain ⟨us, a, b⟩ := k
 refine ⟨us, fun j x e => ?_, fun j x e => ?_⟩ <;> (rw [List.getElem?_map] at e; cases hq : cs[j]? with | none => simp [hq] at e | some y => ?_)
 ·exact a j y hq
 ·simp only [hq, Option.map_some, Option.some.injEq] at e; subst e; exact R.rep (b j y hq)
theorem Ren.uncells (R : Ren ρ β1 H1 β H) {cs : List AV} {c : Array Value} (hl : lowL H1.length cs = true) (k : zM P h β H (cs.map (AV.ren ρ)) c) : zM P h β1 H1 cs c := by
 obtain ⟨us, a, b⟩ := k
 exact ⟨us, fun j x e => a j _ (yj e), fun j x e => R.unrep (b j _ (yj e)) rfl (k8 hl e)⟩
theorem Ren.blk (R : Ren ρ β1 H1 β H) {heap : Array Obj} {i : Nat} (hi : i < H1.length) {x : Blk} (k : jB P h β1 H1 heap i x) : jB P h β H heap (ρ i) (x.ren ρ) := by
 have hb := R.b i hi
 cases x with
 | dead => trivial
 | free => trivial
 | cells cs =>
   obtain ⟨b, c, t, h1, h2, h3, h4, h5⟩ := k
   rw [Blk.ren, zG]
   refine ⟨b, c, t, hb.trans h1, h2, by rw [h3, List.length_map], fun x hx => ?_, R.cells h5⟩
   obtain ⟨y, hy, rfl⟩ := List.mem_map.1 hx; rw [AV.ren_one]; exact h4 y hy
 | grow t nl els =>
   rw [Blk.ren, zG]
   rcases k with ⟨h1, h2, h3⟩ | ⟨h1, h2, a, h3⟩ | ⟨h1, b, cap, c, h2, h3, h4, h5, h6, h7, h8, h9, h10, h11⟩
   ·exact .inl ⟨h1, by rw [h2]; rfl, hb.trans h3⟩
   ·exact .inr (.inl ⟨h1, by rw [h2]; rfl, a, hb.trans h3⟩)
   ·refine .inr (.inr ⟨h1, b, cap, c, by rw [hb, h2, List.length_map], h3, h4, by rw [List.length_map]; exact h5, h6, h7, h8, fun e he => ?_, fun x hx => ?_, by rw [jc]; exact R.cells h11⟩)
    ·obtain ⟨y, hy, rfl⟩ := List.mem_map.1 he; rw [AV.ren_cells, List.length_map]; exact h9 y hy
    ·rw [jc] at hx; obtain ⟨y, hy, rfl⟩ := List.mem_map.1 hx; rw [AV.ren_one]; exact h10 y hy
 | map es =>
   obtain ⟨r, ents, clock, h1, h2, h3, h4, us, h5⟩ := k
   refine ⟨r, ents, clock, hb.trans h1, h2, ?_, by rw [h4, List.length_map], us, fun j q x e => ?_⟩
   ·rw [List.map_map]; exact h3
   ·rw [List.getElem?_map] at e
    cases hq : es[j]? with
    | none => simp [hq] at e
    | some y =>
      obtain ⟨a, b⟩ := y
      simp only [hq, Option.map_some, Option.some.injEq, Prod.mk.injEq] at e
      obtain ⟨rfl, rfl⟩ := e
      obtain ⟨h6, h7⟩ := h5 j _ _ hq
      exact ⟨R.rep h6, h7⟩
 | raw o => obtain ⟨b, h1, h2⟩ := k; exact ⟨b, hb.trans h1, h2⟩
 | lp st pend f tm ps x y n =>
   obtain ⟨b, dfr, tmps, h1, h2, h3, h4⟩ := k
   refine ⟨b, dfr, tmps, hb.trans h1, h2, h3, fun t r e => ?_⟩
   obtain ⟨⟨t', r'⟩, hm, he⟩ := List.mem_map.1 e
   simp only [Prod.mk.injEq] at he; obtain ⟨rfl, rfl⟩ := he
   obtain ⟨v, h5, h6⟩ := h4 _ _ hm
   exact ⟨v, h5, R.rep h6⟩
theorem Ren.unblk (R : Ren ρ β1 H1 β H) {heap : Array Obj} {i : Nat} (hi : i < H1.length) {x : Blk} (hl : x.low H1.length = true) (k : jB P h β H heap (ρ i) (x.ren ρ)) : jB P h β1 H1 heap i x := by
 have hb := R.b i hi
 cases x with
 | dead => trivial
 | free => trivial
 | cells cs =>
   rw [Blk.ren, zG] at k
   obtain ⟨b, c, t, h1, h2, h3, h4, h5⟩ := k
   exact ⟨b, c, t, hb.symm.trans h1, h2, by rw [h3, List.length_map], fun x hx => by rw [<- AV.ren_one ρ]; exact h4 _ (List.mem_map.2 ⟨x, hx, rfl⟩), R.uncells hl h5⟩
 | grow t nl els =>
   rw [Blk.ren, zG] at k
   rcases k with ⟨h1, h2, h3⟩ | ⟨h1, h2, a, h3⟩ | ⟨h1, b, cap, c, h2, h3, h4, h5, h6, h7, h8, h9, h10, h11⟩
   ·exact .inl ⟨h1, List.map_eq_nil_iff.1 h2, hb.symm.trans h3⟩
   ·exact .inr (.inl ⟨h1, List.map_eq_nil_iff.1 h2, a, hb.symm.trans h3⟩)
   ·rw [List.length_map] at h2 h5
    rw [jc] at h10 h11
    refine .inr (.inr ⟨h1, b, cap, c, hb.symm.trans h2, h3, h4, h5, h6, h7, h8, fun e he => ?_, fun x hx => ?_, R.uncells ?_ h11⟩)
    ·have := h9 _ (List.mem_map.2 ⟨e, he, rfl⟩); rwa [AV.ren_cells, List.length_map] at this
    ·rw [<- AV.ren_one ρ]; exact h10 _ (List.mem_map.2 ⟨x, hx, rfl⟩)
    ·exact zA.2 (k7.1 hl)
 | map es =>
   obtain ⟨r, ents, clock, h1, h2, h3, h4, us, h5⟩ := k
   refine ⟨r, ents, clock, hb.symm.trans h1, h2, ?_, by rw [h4, List.length_map], us, fun j q x e => ?_⟩
   ·rw [List.map_map] at h3; exact h3
   ·obtain ⟨h6, h7⟩ := h5 j q (x.ren ρ) (by rw [List.getElem?_map, e]; rfl)
    refine ⟨R.unrep h6 rfl ?_, h7⟩
    exact zA.1 hl x (List.mem_map.2 ⟨(q, x), List.mem_of_getElem? e, rfl⟩)
 | raw o => obtain ⟨b, h1, h2⟩ := k; exact ⟨b, hb.symm.trans h1, h2⟩
 | lp st pend f tm ps x y n =>
   obtain ⟨b, dfr, tmps, h1, h2, h3, h4⟩ := k
   refine ⟨b, dfr, tmps, hb.symm.trans h1, h2, h3, fun t r e => ?_⟩
   obtain ⟨v, h5, h6⟩ := h4 t (r.ren ρ) (List.mem_map.2 ⟨(t, r), e, rfl⟩)
   exact ⟨v, h5, R.unrep h6 rfl (zA.1 hl r (List.mem_map.2 ⟨(t, r), e, rfl⟩))⟩
theorem Ren.blkOf (R : Ren ρ β1 H1 β H) {i : Nat} (hi : i < H1.length) : GA.blkOf β H (ρ i) = GA.blkOf β1 H1 i := by
 have h1 := R.m i _ (List.getElem?_eq_getElem hi)
 unfold GA.blkOf
 rw [h1, List.getElem?_eq_getElem hi, R.b i hi]
 generalize H1[i] = x
 cases x <;> rfl
theorem Ren.to {x x' : Blk} {β' β1' : Nat -> Value} {i : Nat} (h1 : β (ρ i) = β1 i) (h2 : β' (ρ i) = β1' i) (k : x.to β1 β1' i x') : (x.ren ρ).to β β' (ρ i) (x'.ren ρ) := by
 cases x with
 | dead => simp only [Blk.to] at k; subst k; rfl
 | free => trivial
 | cells cs =>
   rcases k with rfl | ⟨cs', rfl, hb⟩
   ·exact .inl rfl
   ·exact .inr ⟨_, rfl, by rw [h1, h2]; exact hb⟩
 | grow t nl els =>
   rcases k with rfl | ⟨nl', els', rfl, hl, hb⟩
   ·exact .inl rfl
   ·exact .inr ⟨_, _, rfl, by simp only [zG, List.length_map]; exact hl, fun e => by rw [h1, h2]; simp only [zG, List.length_map] at e; exact hb e⟩
 | map es =>
   rcases k with rfl | ⟨cs', rfl, hb⟩
   ·exact .inl rfl
   ·exact .inr ⟨_, rfl, by rw [h1, h2]; exact hb⟩
 | raw o =>
   rcases k with rfl | ⟨cs', rfl, hb⟩
   ·exact .inl rfl
   ·exact .inr ⟨_, rfl, by rw [h1, h2]; exact hb⟩
 | lp st pend f tm ps x y n =>
   rcases k with rfl | ⟨st', pend', rfl, hb⟩
   ·exact .inl rfl
   ·exact .inr ⟨_, _, rfl, by rw [h1, h2]; exact hb⟩
theorem Ren.sr (R : Ren ρ β1 H1 β H) (s : SR P E h β H w) (inj : ∀ i j, i < H1.length -> j < H1.length -> ρ i = ρ j -> i = j) (lo : ∀ x ∈ H1, x.low H1.length = true) : SR P E h β1 H1 w := by
 have hlt : ∀ {i x}, GA.blkOf β1 H1 i = some x -> i < H1.length := fun e => (yl e).1
 refine ⟨s.env, s.imm, fun i x e => ?_, fun i j x e1 e2 => ?_, fun i x e => ?_, s.frm, fun i x e => ?_⟩
 ·have hi := (List.getElem?_eq_some_iff.1 e).1
  exact R.unblk hi (lo x (List.mem_of_getElem? e)) (s.blk _ _ (R.m i x e))
 ·exact inj i j (hlt e1) (hlt e2) (s.own _ _ x (by rw [R.blkOf (hlt e1)]; exact e1) (by rw [R.blkOf (hlt e2)]; exact e2))
 ·exact s.fresh (ρ i) x (by rw [R.blkOf (hlt e)]; exact e)
 ·exact s.fro (ρ i) x (by rw [R.blkOf (hlt e)]; exact e)
noncomputable def othE (E : Env) (β : Nat -> Value) (H : List Blk) (w : World) (im : Nat -> Prop) : Env := by
 classical exact ⟨E.b, fun b => if ∃ j, ¬ im j /\ GA.blkOf β H j = some b then w.heap[b]? else E.fr b, E.en⟩
theorem qb {im : Nat -> Prop} {b j : Nat} (hj : ¬ im j) (hb : GA.blkOf β H j = some b) : (othE E β H w im).fr b = w.heap[b]? := by
 simp only [othE]; rw [if_pos ⟨j, hj, hb⟩]
theorem gj {im : Nat -> Prop} {b : Nat} (hn : ∀ j, ¬ im j -> GA.blkOf β H j ≠ some b) : (othE E β H w im).fr b = E.fr b := by
 simp only [othE]; rw [if_neg (fun ⟨j, h1, h2⟩ => hn j h1 h2)]
theorem Ren.srE (R : Ren ρ β1 H1 β H) (s : SR P E h β H w) (inj : ∀ i j, i < H1.length -> j < H1.length -> ρ i = ρ j -> i = j) (lo : ∀ x ∈ H1, x.low H1.length = true) :
  SR P (othE E β H w fun j => ∃ i, i < H1.length /\ ρ i = j) h β1 H1 w := by
 have s1 := R.sr s inj lo
 refine ⟨s1.env, s1.imm, s1.blk, s1.own, s1.fresh, fun b o e => ?_, fun i x e => ?_⟩
 ·by_cases hh : ∃ j, ¬ (∃ i, i < H1.length /\ ρ i = j) /\ GA.blkOf β H j = some b
  ·obtain ⟨j, h1, h2⟩ := hh
   rw [qb h1 h2] at e
   exact ⟨e, s.fresh _ _ h2⟩
  ·rw [gj (fun j h1 h2 => hh ⟨j, h1, h2⟩)] at e; exact s.frm b o e
 ·have hi := (yl e).1
  have hb := R.blkOf hi
  rw [gj]
  ·exact s.fro (ρ i) x (by rw [hb]; exact e)
  ·intro j h1 h2
   exact h1 ⟨i, hi, s.own _ _ x (by rw [hb]; exact e) h2⟩
theorem yb.frame {f : FuncId} {rs1 : List AV} {k1 k : AV -> List Blk -> Prop} (x : yb P f rs1 H1 k1)
  (inj : ∀ i j, i < H1.length -> j < H1.length -> ρ i = ρ j -> i = j) (hm : ∀ (i : Nat) x1, H1[i]? = some x1 -> H[ρ i]? = some (x1.ren ρ))
  (lo : ∀ x ∈ H1, x.low H1.length = true) (lor : lowL H1.length rs1 = true)
  (hk : ∀ r1 H1', k1 r1 H1' -> H1'.length = H1.length /\ ∃ H', H'.length = H.length /\ (∀ (i : Nat) x1, H1'[i]? = some x1 -> H'[ρ i]? = some (x1.ren ρ)) /\ (∀ j, (∀ i, i < H1.length -> ρ i ≠ j) -> H'[j]? = H[j]?) /\ k (r1.ren ρ) H') :
  yb P f (rs1.map (AV.ren ρ)) H k := by
 refine ⟨x.1, fun E h β w vs s hr => ?_⟩
 have R : Ren ρ (fun i => β (ρ i)) H1 β H := ⟨hm, fun _ _ => rfl⟩
 have s1 := R.srE s inj lo
 have hr1 : RepL P h (fun i => β (ρ i)) H1 rs1 vs := ⟨by rw [hr.1, List.length_map], fun j r e => by
  obtain ⟨v, h1, h2⟩ := hr.2 j _ (yj e)
  exact ⟨v, h1, R.unrep h2 rfl (k8 lor e)⟩⟩
 refine (x.2 _ h _ w vs s1 hr1).mono ?_
 rintro e w' ⟨r1, H1', h', β1', v, rfl, q, X, s', hv⟩
 obtain ⟨hlen, H', hlen', hm', ho, hk'⟩ := hk r1 H1' q
 classical
 let β' : Nat -> Value := fun j => if hj : ∃ i, i < H1.length /\ ρ i = j then β1' (Classical.choose hj) else β j
 have hβ1 : ∀ i, i < H1.length -> β' (ρ i) = β1' i := by
  intro i hi
  have hj : ∃ i', i' < H1.length /\ ρ i' = ρ i := ⟨i, hi, rfl⟩
  simp only [β', dif_pos hj]
  rw [inj _ _ (Classical.choose_spec hj).1 hi (Classical.choose_spec hj).2]
 have hβ2 : ∀ j, (∀ i, i < H1.length -> ρ i ≠ j) -> β' j = β j := by
  intro j hj
  have hn : ¬ ∃ i, i < H1.length /\ ρ i = j := fun ⟨i, h1, h2⟩ => hj i h1 h2
  simp only [β', dif_neg hn]
 have R' : Ren ρ β1' H1' β' H' := ⟨hm', fun i hi => hβ1 i (by omega)⟩
 have im : ∀ j, (∃ i, i < H1.length /\ ρ i = j) \/ ∀ i, i < H1.length -> ρ i ≠ j := by
  intro j
  by_cases hj : ∃ i, i < H1.length /\ ρ i = j
  ·exact .inl hj
  ·exact .inr fun i hi e => hj ⟨i, hi, e⟩
 have X' : Ext h β H h' β' H' := by
  refine ⟨X.imm, by omega, fun j y y' e e' => ?_⟩
  rcases im j with ⟨i, hi, rfl⟩ | hj
  ·have h1 : H1[i]? = some H1[i] := List.getElem?_eq_getElem hi
   have h2 : H1'[i]? = some (H1'[i]'(by omega)) := List.getElem?_eq_getElem (by omega)
   rw [hm i _ h1] at e; cases e
   rw [hm' i _ h2] at e'; cases e'
   exact Ren.to (β1 := fun i => β (ρ i)) rfl (hβ1 i hi) (X.to i _ _ h1 h2)
  ·rw [ho j hj, e] at e'; cases e'
   have := Blk.to_refl β j y
   cases y with
   | dead => rfl
   | free => trivial
   | cells cs => exact .inr ⟨_, rfl, hβ2 j hj⟩
   | grow t nl els => exact .inr ⟨_, _, rfl, Nat.le_refl _, fun _ => hβ2 j hj⟩
   | map es => exact .inr ⟨_, rfl, hβ2 j hj⟩
   | raw o => exact .inr ⟨_, rfl, hβ2 j hj⟩
   | lp st pend f tm ps x y n => exact .inr ⟨_, _, rfl, hβ2 j hj⟩
 have hb1 : ∀ i, i < H1.length -> GA.blkOf β' H' (ρ i) = GA.blkOf β1' H1' i := fun i hi => R'.blkOf (by omega)
 have hb2 : ∀ j, (∀ i, i < H1.length -> ρ i ≠ j) -> GA.blkOf β' H' j = GA.blkOf β H j := fun j hj => yy (hβ2 j hj) (ho j hj)
 have hsome : ∀ j b, GA.blkOf β H j = some b -> ∃ o, w.heap[b]? = some o := fun j b e => ⟨_, Array.getElem?_eq_getElem (s.lt e)⟩
 have hfr : ∀ j b o, (∀ i, i < H1.length -> ρ i ≠ j) -> GA.blkOf β H j = some b -> w.heap[b]? = some o -> w'.heap[b]? = some o /\ h' b = none := by
  intro j b o hj e eo
  refine s'.frm b o ?_
  rw [qb (j := j) (fun ⟨i, h1, h2⟩ => hj i h1 h2) e]; exact eo
 have hE : ∀ b o, E.fr b = some o -> (othE E β H w fun j => ∃ i, i < H1.length /\ ρ i = j).fr b = some o := by
  intro b o e
  rw [gj]
  ·exact e
  ·intro j _ h2; rw [s.fro j b h2] at e; cases e
 refine ⟨r1.ren ρ, H', h', β', v, rfl, hk', X', ?_, R'.rep hv⟩
 refine ⟨s'.env, s'.imm, fun j y e => ?_, fun i j b e1 e2 => ?_, fun j b e => ?_, fun b o e => s'.frm b o (hE b o e), fun j b e => ?_⟩
 ·rcases im j with ⟨i, hi, rfl⟩ | hj
  ·have h2 : H1'[i]? = some (H1'[i]'(by omega)) := List.getElem?_eq_getElem (by omega)
   rw [hm' i _ h2] at e; cases e
   exact R'.blk (by omega) (s'.blk i _ h2)
  ·rw [ho j hj] at e
   refine (s.blk j y e).keep X' (hβ2 j hj) fun hd hd' b hb => ?_
   have hbo : GA.blkOf β H j = some b := by unfold GA.blkOf; rw [e]; cases y <;> first | exact absurd rfl hd | exact absurd rfl hd' | exact hb
   obtain ⟨o, ho'⟩ := hsome j b hbo
   rw [ho', (hfr j b o hj hbo ho').1]
 ·rcases im i with ⟨i0, hi, rfl⟩ | hi <;> rcases im j with ⟨j0, hj, rfl⟩ | hj
  ·rw [hb1 i0 hi] at e1; rw [hb1 j0 hj] at e2
   rw [s'.own _ _ b e1 e2]
  ·rw [hb1 i0 hi] at e1; rw [hb2 j hj] at e2
   obtain ⟨o, ho'⟩ := hsome j b e2
   have h3 := s'.fro _ _ e1
   rw [qb (j := j) (fun ⟨i, h1, h2⟩ => hj i h1 h2) e2, ho'] at h3; cases h3
  ·rw [hb2 i hi] at e1; rw [hb1 j0 hj] at e2
   obtain ⟨o, ho'⟩ := hsome i b e1
   have h3 := s'.fro _ _ e2
   rw [qb (j := i) (fun ⟨i', h1, h2⟩ => hi i' h1 h2) e1, ho'] at h3; cases h3
  ·rw [hb2 i hi] at e1; rw [hb2 j hj] at e2
   exact s.own _ _ b e1 e2
 ·rcases im j with ⟨i, hi, rfl⟩ | hj
  ·rw [hb1 i hi] at e; exact s'.fresh _ _ e
  ·rw [hb2 j hj] at e
   obtain ⟨o, ho'⟩ := hsome j b e
   exact (hfr j b o hj e ho').2
 ·rcases im j with ⟨i, hi, rfl⟩ | hj
  ·rw [hb1 i hi] at e
   have h3 := s'.fro _ _ e
   cases hx : E.fr b with
   | none => rfl
   | some o => rw [hE b o hx] at h3; cases h3
  ·rw [hb2 j hj] at e; exact s.fro _ _ e
end
end GA
end
section
namespace GA
open Go Go.RowKit
section
variable {P : Program} {T : Tab} {N : Nat} {ρ : Option Nat} {own : List Nat} {D : List Nat} {σ : St} {H : List Blk} {Q : Post} {E : Env} {h : Nat -> Option Obj} {β : Nat -> Value} {w : World}
structure RenS (f : Nat -> Nat) (base : Nat) (H1 : List Blk) (σ1 : St) (H : List Blk) (σ : St) : Prop where
 inj : ∀ i j, i < H1.length -> j < H1.length -> f i = f j -> i = j
 fix : ∀ i, i < base -> f i = i
 len : base <= H1.length
 hm : ∀ (i : Nat) x1, H1[i]? = some x1 -> H[f i]? = some (x1.ren f)
 lowb : ∀ (i : Nat) x1, i < base -> H1[i]? = some x1 -> x1.ren f = x1
 low : ∀ x ∈ H1, x.low H1.length = true
 st : ∀ t r, σ1 t = some r -> σ t = some (r.ren f) /\ r.low H1.length = true
def rnF (l : List Nat) (i : Nat) : Nat := match lget l i with | some j => j | none => i
theorem zc3 {f : Nat -> Nat} {n : Nat} {α : Type} (h : ∀ i, i < n -> f i = i) {es : List (α × AV)} (hl : lowL n (es.map (·.2)) = true) : (es.map fun p => (p.1, p.2.ren f)) = es := by
 have : ∀ p ∈ es, (fun p : α × AV => (p.1, p.2.ren f)) p = id p := fun p hp => by
  have := zA.1 hl p.2 (List.mem_map.2 ⟨p, hp, rfl⟩)
  simp only [id, AV.ren_low h this]
 rw [List.map_congr_left this, List.map_id]
theorem Blk.ren_low {f : Nat -> Nat} {n : Nat} (h : ∀ i, i < n -> f i = i) {x : Blk} (hl : x.low n = true) : x.ren f = x := by
 cases x with
 | cells cs => simp only [Blk.ren]; rw [fy h hl]
 | grow t nl els => simp only [Blk.ren]; rw [fy h hl]
 | map es => simp only [Blk.ren]; rw [zc3 h hl]
 | lp st pend f tm ps x y n => simp only [Blk.ren]; rw [zc3 h hl]
 | _ => rfl
theorem opLoad_ex {t : TypeId} {p : AV} {k : AV -> Prop} (x : kg P t H p k) : ∃ r, k r /\ ∀ k' : AV -> Prop, k' r -> kg P t H p k' := by
 unfold kg at x
 obtain ⟨ti, h1, x⟩ := zf x
 obtain ⟨cs, h2, x⟩ := zf x
 split at x
 ·rename_i e
  exact ⟨_, x.2, fun k' hk => by unfold kg; rw [h1, zt, h2, zt, if_pos e]; exact ⟨x.1, hk⟩⟩
 ·rename_i e
  obtain ⟨c, h3, x⟩ := zf x
  exact ⟨c, x, fun k' hk => by unfold kg; rw [h1, zt, h2, zt, if_neg e, h3, zt]; exact hk⟩
theorem zbX : ∀ {l : List ResultVar} {k : List AV -> Prop}, resA P σ H l k -> ∃ rs, k rs /\ ∀ k' : List AV -> Prop, k' rs -> resA P σ H l k'
 | [], k, x => ⟨[], x, fun _ h => h⟩
 | .tmp t :: l, k, x => by
   obtain ⟨r, h1, x⟩ := zf x
   obtain ⟨rs, h2, h3⟩ := zbX x
   exact ⟨r :: rs, h2, fun k' h => by simp only [resA]; rw [h1, zt]; exact h3 (fun rs => k' (r :: rs)) h⟩
 | .cell a t :: l, k, x => by
   obtain ⟨p, h1, x⟩ := zf x
   obtain ⟨r, x, h4⟩ := opLoad_ex x
   obtain ⟨rs, h2, h3⟩ := zbX x
   exact ⟨r :: rs, h2, fun k' h => by simp only [resA]; rw [h1, zt]; exact h4 _ (h3 (fun rs => k' (r :: rs)) h)⟩
structure XCut (n : Nat) (D : List Nat) (H : List Blk) (r : AV) (k : AV -> List Blk -> Prop) : Prop where
 o : ∃ H1 l, H = H1 ++ l /\ H1.length = n /\ (∀ x ∈ H1, x.low n = true) /\ D.Nodup /\ (∀ i ∈ D, n <= i /\ H[i]? = some (.raw (.deferred (some [])))) /\ r.low n = true /\ k r H1
def XFk (T : Tab) (res : List ResultVar) (n : Nat) (k : AV -> List Blk -> Prop) : Post := fun e D σ H =>
 match e with
 | .normal | .ret => xRes T σ H res fun rs => XCut n D H (pack rs) k
 | _ => False
theorem yb.bodyK {f : FuncId} {fn : Func} {c : Code} {rs : List AV} {res : List ResultVar} {k : AV -> List Blk -> Prop} (ok : zE P T) (own : List Nat) (hf : P.funcs[f]? = some fn) (hb : fn.body = some c) (hn : (fn.name == "runtime.NumGoroutine") = false)
  (hN : fn.ntmps = N) (hr : fn.results = res.toArray) (hl : rs.length <= N) (x : XRun P T N none own c (XFk T res H.length k) [] (argX rs) H) : yb P f rs H k := by
 subst hN
 refine yb.of_body hf hb hn hl ?_
 rw [hr, <- zb5]
 refine (XRun.sound ok x).mono fun e D σ H' q => ?_
 have go : xRes T σ H' res (fun rs => XCut H.length D H' (pack rs) k) -> ∃ H1 l, H' = H1 ++ l /\ H.length <= H1.length /\ (∀ x ∈ H1, x ∈ H \/ x.low H1.length = true) /\ D.Nodup /\
  (∀ i ∈ D, H1.length <= i /\ H'[i]? = some (.raw (.deferred (some [])))) /\ resA P σ H' res fun rs => (pack rs).low H1.length = true /\ k (pack rs) H1 := by
  intro x
  obtain ⟨rs, ⟨H1, l, h1, h2, h3, h4, h5, h6, h7⟩, hx⟩ := zbX (wp ok x)
  exact ⟨H1, l, h1, by omega, fun x hx => .inr (by rw [h2]; exact h3 x hx), h4, by rw [h2]; exact h5, hx _ ⟨by rw [h2]; exact h6, h7⟩⟩
 cases e <;> first | exact ⟨.inl rfl, go q⟩ | exact ⟨.inr rfl, go q⟩ | exact q.elim
theorem XCut.mk' {n : Nat} {H : List Blk} {r : AV} {k : AV -> List Blk -> Prop} (H1 l : List Blk) (h1 : H1 ++ l = H) (h2 : H1.length = n) (h3 : ∀ x ∈ H1, x.low n = true) (h4 : r.low n = true) (h5 : k r H1) : XCut n [] H r k :=
 ⟨H1, l, h1.symm, h2, h3, by simp, by simp, h4, h5⟩
end
end GA
end
section
namespace GA
open Go Go.RowKit
def hsV (H : List Blk) (l : List (List Blk -> List Blk)) (fl : List Bool) : List Blk := match lget l (fl.countP id) with | some f => f H | none => H
end GA
end
section
namespace GA
open Go Go.RowKit
section
variable {P : Program} {T : Tab} {N : Nat} {ρ : Option Nat} {own : List Nat} {D : List Nat} {σ : St} {H : List Blk} {Q : Post} {E : Env} {h : Nat -> Option Obj} {β : Nat -> Value} {w : World} {a : Act}
theorem DfL.mem {en : Nat -> Option Obj} {D : List Nat} {ds : List Deferred} (d : DfL P h β H en D ds) {b : Nat} (hb : ({ target := .collected b, args := #[] } : Deferred) ∈ ds) : (∃ j ∈ D, Rep P h β H (.yld j) (.func (.yield b) #[] #[])) \/ h b = some (.deferred (some [])) := by
 induction d with
 | nil => simp at hb
 | @own i b' D ds r t ih =>
   rcases List.mem_cons.1 hb with e | e
   ·cases e; exact .inl ⟨i, List.mem_cons_self, r⟩
   ·rcases ih e with ⟨j, h1, h2⟩ | h1
    ·exact .inl ⟨j, List.mem_cons_of_mem _ h1, h2⟩
    ·exact .inr h1
 | @lost b' D ds h1 he nd t ih =>
   rcases List.mem_cons.1 hb with e | e
   ·cases e; exact .inr h1
   ·exact ih e
theorem DfL.lose {en : Nat -> Option Obj} {h' : Nat -> Option Obj} {H' : List Blk} {i b : Nat} {D0 : List Nat} {ds : List Deferred} (s : SR P E h β H w) (X : Ext h β H h' β H') (hbo : blkOf β H i = some b) (hb' : h' b = some (.deferred (some []))) (he : en b = none) (hm : h b = none) (hi : H[i]? = some (.raw (.deferred (some []))))
  (d : DfL P h β H en D0 ds) : ∀ {D : List Nat}, D0 = i :: D -> i ∉ D -> (∀ j ∈ D, H[j]? = some (.raw (.deferred (some [])))) -> DfL P h' β H' en D ds := by
 induction d with
 | nil => intro D e; cases e
 | @own i' b' D' ds r t ih =>
   intro D e hni hD
   cases e
   have hbb : b' = b := by
    cases r with
    | yld hlv hb =>
      have hbi := hb _ hi rfl
      have : blkOf β H i = some b' := by simp only [blkOf, hi, hbi]; rfl
      rw [hbo] at this; cases this; rfl
   subst hbb
   refine .lost hb' he (fun b2 hb2 => ?_) (t.ext X)
   rintro rfl
   rcases t.mem hb2 with ⟨j, h1, h2⟩ | h1
   ·cases h2 with
    | yld hlv hb =>
      have hj := hD j h1
      have hbj := hb _ hj rfl
      have : blkOf β H j = some b2 := by simp only [blkOf, hj, hbj]; rfl
      exact hni (s.own _ _ _ hbo this ▸ h1)
   ·rw [hm] at h1; cases h1
 | @lost b' D' ds h1 he' nd t ih =>
   intro D e hni hD
   exact .lost (X.imm _ _ h1) he' nd (ih e hni hD)
theorem kj.lose : ∀ {D : List Nat} {h : Nat -> Option Obj} {H : List Blk}, kj P E N h β D σ H a w -> D.Nodup -> (∀ i ∈ D, H[i]? = some (.raw (.deferred (some [])))) ->
  ∃ h' H', kj P E N h' β [] σ H' a w /\ Ext h β H h' β H' /\ H'.length = H.length /\ ∀ j, j ∉ D -> H'[j]? = H[j]?
 | [], h, H, s, _, _ => ⟨h, H, s, Ext.refl _ _ _, rfl, fun _ _ => rfl⟩
 | i :: D, h, H, s, hnd, hD => by
   have hi := hD i List.mem_cons_self
   obtain ⟨b, hb1, hb2⟩ := s.sr.blk i _ hi
   have hbo : blkOf β H i = some b := by simp only [blkOf, hi, hb1]; rfl
   have hm := s.sr.fresh _ _ hbo
   have he : E.en b = none := by
    cases hx : E.en b with
    | none => rfl
    | some o => rw [s.df.en b o hx] at hm; cases hm
   obtain ⟨h1, s1, X1, hf⟩ := s.sr.freeze hi
   have hni := (List.nodup_cons.1 hnd).1
   have hDs : ∀ j ∈ D, H[j]? = some (.raw (.deferred (some []))) := fun j hj => hD j (List.mem_cons_of_mem _ hj)
   have d1 := DfL.lose s.sr X1 hbo (hf b _ hbo hb2) he hm hi s.df.l rfl hni hDs
   have s2 : kj P E N h1 β D σ (H.set i .dead) a w := ⟨s1, s.fits.ext X1, s.size, ⟨(s.df.ext X1).en, d1⟩⟩
   obtain ⟨h', H', s3, X3, hl, ho⟩ := kj.lose s2 (List.nodup_cons.1 hnd).2 (fun j hj => by rw [List.getElem?_set_ne (show i ≠ j from fun e => hni (by rw [e]; exact hj))]; exact hDs j hj)
   refine ⟨h', H', s3, X1.trans X3, by rw [hl]; simp, fun j hj => ?_⟩
   rw [ho j (fun h => hj (List.mem_cons_of_mem _ h)), List.getElem?_set_ne (show i ≠ j from fun e => hj (by rw [<- e]; exact List.mem_cons_self))]
theorem Walk.norm {id : Nat} {ops : Array Oper} (ok : zE P T) (own : List Nat) (L : List (Nat × AV)) (hs : SubX L σ) (x : XReg P T N own ops.toList ops.toList (stX L) H (Q .normal D)) : Walk P N ρ (.region id ops false) Q D σ H :=
 ⟨AWp.weaken (yC hs) (AWp.regionX ok x)⟩
structure MarksOk (D : List Nat) (H : List Blk) (f : Nat -> Nat) (n : Nat) : Prop where
 nd : D.Nodup
 raw : ∀ i ∈ D, H[i]? = some (.raw (.deferred (some [])))
 out : ∀ i, i < n -> f i ∉ D
theorem AWp.loopM {c : Code} {G : Type} (st : G -> St) (hp : G -> List Blk) (μ : G -> Nat) (g0 : G) (hσ : ∀ t r, st g0 t = some r -> σ t = some r) (hH : hp g0 = H) (hD : D = [])
  (round : ∀ g, AWp P N ρ c (yZ (fun D' σ' H' => ∃ g' f, μ g' < μ g /\ MarksOk D' H' f (hp g').length /\ RenS f H.length (hp g') (st g') H' σ') Q) D (st g) (hp g)) : AWp P N ρ (.loop c) Q D σ H := by
 intro E h β a w s
 subst hH; subst hD
 let I : G -> Act -> World -> Prop := fun g a w => ∃ h' β', Ext h β (hp g0) h' β' (hp g) /\ kj P E N h' β' [] (st g) (hp g) a w
 have least : ∀ a w, (∃ g, I g a w) -> ∃ n, (∃ g, I g a w /\ μ g = n) /\ ∀ m, m < n -> ¬ ∃ g, I g a w /\ μ g = m :=
  fun a w ⟨g, hg⟩ => jm ⟨μ g, g, hg, rfl⟩
 classical
 let M : Act -> World -> Nat := fun a w => if e : ∃ g, I g a w then Classical.choose (least a w e) else 0
 have hM : ∀ a w (e : ∃ g, I g a w), (∃ g, I g a w /\ μ g = M a w) /\ ∀ g, I g a w -> M a w <= μ g := by
  intro a w e
  have hc := Classical.choose_spec (least a w e)
  have hm : M a w = Classical.choose (least a w e) := by simp only [M, dif_pos e]
  rw [hm]
  refine ⟨hc.1, fun g hg => ?_⟩
  rcases Nat.lt_or_ge (μ g) (Classical.choose (least a w e)) with hlt | hge
  ·exact absurd ⟨g, hg, rfl⟩ (hc.2 _ hlt)
  ·exact hge
 refine wpIn_loop (fun a w => ∃ g, I g a w) M ⟨g0, h, β, Ext.refl _ _ _, s.sr, fun t r e => s.fits t r (hσ t r e), s.size, s.df⟩ ?_
 intro a' w' hI
 obtain ⟨⟨g, hg, hmu⟩, _⟩ := hM a' w' hI
 obtain ⟨h', β', X, s'⟩ := hg
 refine wpIn_mono (round g E h' β' a' w' s') ?_
 rintro e a'' w'' ⟨D'', σ'', H0', h0', β'', q, X0', s0''⟩
 cases e with
 | normal =>
   obtain ⟨g', f, hlt, m, r0⟩ := q
   obtain ⟨h'', H'', s'', X1, hl, ho⟩ := s0''.lose m.nd m.raw
   have X' := X0'.trans X1
   have hm : ∀ (i : Nat) x1, (hp g')[i]? = some x1 -> H''[f i]? = some (x1.ren f) := fun i x1 e => by
    rw [ho _ (m.out i (List.getElem?_eq_some_iff.1 e).1)]; exact r0.hm i x1 e
   have R : Ren f (fun i => β'' (f i)) (hp g') β'' H'' := ⟨hm, fun _ _ => rfl⟩
   have hI' : I g' a'' w'' := by
    refine ⟨h'', fun i => β'' (f i), ⟨(X.trans X').imm, r0.len, fun i x x' e e' => ?_⟩, R.sr s''.sr r0.inj r0.low, fun t r e => ?_, s''.size, s''.df.any⟩
    ·have hi := (List.getElem?_eq_some_iff.1 e).1
     have h1 := hm i x' e'
     rw [r0.fix i hi, r0.lowb i x' hi e'] at h1
     have h2 := (X.trans X').to i x x' e h1
     cases x with
     | dead => exact h2
     | free => trivial
     | _ => simpa only [Blk.to, r0.fix i hi] using h2
    ·obtain ⟨h1, h2⟩ := r0.st t r e
     obtain ⟨v, h3, h4⟩ := s''.fits t _ h1
     exact ⟨v, h3, R.unrep h4 rfl h2⟩
   refine ⟨⟨g', hI'⟩, ?_⟩
   have := (hM a'' w'' ⟨g', hI'⟩).2 g' hI'
   omega
 | _ => exact ⟨D'', σ'', H0', h0', β'', q, X.trans X0', s0''⟩
structure yk {G : Type} (I : G -> Prop) (L : G -> List (Nat × AV)) (hp : G -> List Blk) (μ : G -> Nat) (base : Nat) (g : G) (D' : List Nat) (σ' : St) (H' : List Blk) : Prop where
 o : ∃ g' f, I g' /\ μ g' < μ g /\ MarksOk D' H' f (hp g').length /\ RenS f base (hp g') (stX (L g')) H' σ'
theorem Walk.loopM {c : Code} {G : Type} (ok : zE P T) (own : List Nat) (I : G -> Prop) (L : G -> List (Nat × AV)) (hp : G -> List Blk) (μ : G -> Nat) (g0 : G) (base : Nat) (h0 : I g0) (hH : hp g0 = H) (hb : base = H.length) (hs : SubX (L g0) σ)
  (round : ∀ g, I g -> XRun P T N ρ own c (yZ (yk I L hp μ base g) Q) [] (stX (L g)) (hp g)) : Walk P N ρ (.loop c) Q [] σ H := by
 constructor
 refine AWp.loopM (G := {g : G // I g}) (fun g => stX (L g.1)) (fun g => hp g.1) (fun g => μ g.1) ⟨g0, h0⟩ (yC hs) hH rfl fun g => ?_
 refine (XRun.sound ok (round g.1 g.2)).mono fun e D' σ' H' q => ?_
 cases e with
 | normal => obtain ⟨g', f, h2, h3, h4, h5⟩ := q; exact ⟨⟨g', h2⟩, f, h3, h4, hb ▸ h5⟩
 | _ => exact q
theorem stX_mem : ∀ (l : List (Nat × AV)) t r, stX l t = some r -> (t, r) ∈ l := by
 intro l; induction l with
 | nil => intro t r h; cases h
 | cons p l ih =>
   obtain ⟨u, x⟩ := p
   intro t r h; simp only [stX, yV, upd] at h
   split at h
   ·rename_i e; cases h; subst e; exact List.mem_cons_self
   ·exact List.mem_cons_of_mem _ (ih t r h)
theorem AV.ren_id (a : AV) : a.ren id = a := by
 refine AV.rec (motive_1 := fun a => a.ren id = a) (motive_2 := fun l => renL id l = l) ?_ ?_ ?_ ?_ ?_ ?_ ?_ ?_ ?_ ?_ ?_ ?_ ?_ ?_ ?_ ?_ ?_ ?_ ?_ ?_ ?_ a
 all_goals first | (intros; rfl) | (intro cs ih; simp only [AV.ren, ih]) | (intro f cs ih; simp only [AV.ren, ih]) | (intro x l ih1 ih2; simp only [renL, ih1, ih2])
theorem Blk.ren_id (x : Blk) : x.ren id = x := by
 have hL : ∀ l : List AV, renL id l = l := fun l => by have := AV.ren_id (.agg l); simpa [AV.ren] using this
 cases x with
 | cells cs => simp only [Blk.ren, hL]
 | grow t nl els => simp only [Blk.ren, hL]
 | map es =>
   simp only [Blk.ren]
   have : ∀ p ∈ es, (fun p : Int × AV => (p.1, p.2.ren id)) p = id p := fun p _ => by simp only [AV.ren_id]; rfl
   rw [List.map_congr_left this, List.map_id]
 | lp st pend f tm ps x y n =>
   simp only [Blk.ren]
   have : ∀ p ∈ tm, (fun p : Nat × AV => (p.1, p.2.ren id)) p = id p := fun p _ => by simp only [AV.ren_id]; rfl
   rw [List.map_congr_left this, List.map_id]
 | _ => rfl
theorem yk.go {G : Type} {I : G -> Prop} {L : G -> List (Nat × AV)} {hp : G -> List Blk} {μ : G -> Nat} {base : Nat} {g : G} {D : List Nat} (g' : G) (l : List Blk) (h1 : I g') (h2 : μ g' < μ g) (h3 : hp g' ++ l = H) (h4 : SubX (L g') σ) (hb : base <= (hp g').length)
  (h5 : ∀ x ∈ hp g', x.low (hp g').length = true) (h6 : ∀ p ∈ L g', p.2.low (hp g').length = true) (hnd : D.Nodup) (hD : ∀ i ∈ D, (hp g').length <= i /\ lget H i = some (.raw (.deferred (some [])))) : yk I L hp μ base g D σ H :=
 ⟨g', id, h1, h2, ⟨hnd, fun i hi => by have := (hD i hi).2; rwa [zu] at this, fun i hi h => by have := (hD _ h).1; simp only [id] at this; omega⟩,
  ⟨fun _ _ _ _ e => e, fun _ _ => rfl, hb, fun i x1 e => by
   rw [<- h3, Blk.ren_id]; simp only [id]
   rw [List.getElem?_append_left (List.getElem?_eq_some_iff.1 e).1]; exact e, fun _ x1 _ _ => Blk.ren_id x1, h5, fun t r e => by
   refine ⟨by rw [AV.ren_id]; exact yC h4 t r e, h6 (t, r) (stX_mem _ _ _ e)⟩⟩⟩
end
end GA
end
section
namespace GA
open Go Go.RowKit Go.ChangeShapes Go.WideShapes
section
variable {P : Program} {W : World}
theorem SR.start (W : World) : SR P ⟨World.env W, fun _ => none, fun _ => none⟩ (fun b => W.heap[b]?) (fun _ => undef) [] W :=
 ⟨rfl, fun _ _ h => h, by simp, fun i j x e => by simp [blkOf] at e, fun i x e => by simp [blkOf] at e, by simp, fun i x e => by simp [blkOf] at e⟩
theorem Comp.law {f : FuncId} {rs : List AV} (x : Comp P f rs (.bool true)) {args : Array Value} (hr : RepL P (fun b => W.heap[b]?) (fun _ => undef) [] rs args.toList) :
  Calls P f args W fun e W' => e = .returned (.bool true) /\ World.env W' = World.env W /\ ∀ (b : Nat) o, W.heap[b]? = some o -> W'.heap[b]? = some o := by
 have h := (x.o.2 _ _ _ W args.toList (SR.start W) hr).calls (fun _ _ hd => by cases hd)
 have e : args.toList.toArray = args := by simp
 rw [e] at h
 refine h.mono ?_
 rintro e w' ⟨r, H', h', β', v, rfl, ⟨rfl, rfl⟩, X, s', hv⟩
 cases hv
 exact ⟨rfl, s'.env, fun b o hb => s'.imm b o (X.imm b o hb)⟩
theorem zdY {W' : World} {may : MemPlace -> Prop} (he : World.env W' = World.env W) (hk : ∀ (b : Nat) o, W.heap[b]? = some o -> W'.heap[b]? = some o) : W.keptBut W' may := by
 refine ⟨congrArg Env0.os he, congrArg Env0.out he, fun i hi => ?_⟩
 have h1 : W.heap[i]? = some W.heap[i] := Array.getElem?_eq_getElem hi
 have h2 := hk i _ h1
 rw [h1, h2]
 generalize W.heap[i] = o
 cases o <;> simp
theorem vx {H : Type} {enc : TypeId × Value -> H} (hl : laidOutB P = true) {W' : World} {sp' : Nat -> Bool} (hk : ∀ (b : Nat) o, W.heap[b]? = some o -> W'.heap[b]? = some o) (hwt : ∀ p, (∃ o, W.heap[MemPlace.block p]? = some o) -> sp' p.block = true) :
  ∀ {ts : List TypeId} {vs : List Value} {ds : List (DataW H)} {ps : List MemPlace}, (∀ t ∈ ts, P.readableRec t = true /\ t < P.types.size) -> (∀ p ∈ ps, ∃ o, W.heap[MemPlace.block p]? = some o) -> DataW.TrodAll enc P W 0 (fun _ => true) true ts vs ds ps -> DataW.TrodAll enc P W' 0 sp' true ts vs ds ps
 | [], vs, ds, ps, _, _, h => by obtain ⟨rfl, rfl, rfl⟩ := trodAll_nil h; rfl
 | t :: ts, vs, ds, ps, ht, hp, h => by
   obtain ⟨v, vs1, d, ds1, p, q, rfl, rfl, rfl, h1, h2⟩ := trodAll_cons h
   have ht0 := ht t List.mem_cons_self
   refine ⟨p, q, Go.WideElems.Trod_stays hl ht0.1 ht0.2 h1 (fun x hx => ?_) (fun x hx => hwt x (hp x (List.mem_append_left _ hx))), vx hl hk hwt (fun t' h' => ht t' (List.mem_cons_of_mem _ h')) (fun x hx => hp x (List.mem_append_right _ hx)) h2, rfl⟩
   obtain ⟨o, ho⟩ := hp x (List.mem_append_left _ hx)
   cases x with
   | cell b off => simp only [World.sameAt, World.cell?, MemPlace.block] at ho ⊢; rw [ho, hk _ _ ho]
   | map b => simp only [World.sameAt, MemPlace.block] at ho ⊢; rw [ho, hk _ _ ho]
theorem post_true {H : Type} {enc : TypeId × Value -> H} {fn : Func} {s : ChangeSpec} {tb : TypeId} {W' : World} {args : Array Value} {ds gs : List (DataW H)} {before : List MemPlace}
  (ht : fn.resultTypes = #[tb]) (hu : P.underlying tb = some .bool) (hl : laidOutB P = true) (hr : ∀ t ∈ fn.params.toList, P.readableRec t = true /\ t < P.types.size) (hv : s.vars = [])
  (hW : DataW.Whole enc P fn.params.toList s.vars false W args.toList ds gs before) (hs : gs = [] -> s.fn H (ds ++ gs) = { results := [.lit (.bool true)], args := ds })
  (he : World.env W' = World.env W) (hk : ∀ (b : Nat) o, W.heap[b]? = some o -> W'.heap[b]? = some o) : s.post enc P fn false true false false W args (.bool true) W' := by
 have hW' := hW
 obtain ⟨p, q, hA, hV, hb, hz, _⟩ := hW
 rw [hv] at hV
 obtain ⟨rfl, rfl⟩ := trodVars_none hV
 rw [List.append_nil] at hb
 subst hb
 have hs := hs rfl
 have hlt : ∀ x ∈ before, ∃ o, W.heap[MemPlace.block x]? = some o := fun x hx => ⟨_, Array.getElem?_eq_getElem (hW'.lt x hx)⟩
 refine ⟨ds, [], before, [], before, [], hW', ?_, ?_, ?_, zdY he hk, fun h => by cases h⟩
 ·rw [hs, ht]
  exact trodAll_cons_mk (shut_bool hu _) trodAll_mk0
 ·rw [hs]
  exact vx hl hk (fun x ⟨o, ho⟩ => by simpa using (Array.getElem?_eq_some_iff.1 ho).1) hr hlt hA
 ·rw [hv, hs]; rfl
end
end GA
end
section
namespace GA
open Go Go.RowKit
section
variable {P : Program} {T : Tab} {N : Nat} {ρ : Option Nat} {own : List Nat} {E : Env} {h h' : Nat -> Option Obj} {β β' : Nat -> Value} {H H' Hn : List Blk} {w w' : World} {σ : St} {D : List Nat}
structure yz (P : Program) (f : FuncId) (rs : List AV) (r : AV) (Hn : List Blk) : Prop where
 lo : lowL 0 rs = true
 lr : r.low Hn.length = true
 lH : ∀ x ∈ Hn, x.low Hn.length = true
 o : yb P f rs [] fun r' H' => r' = r /\ H' = Hn
theorem SR.beside (s : SR P E h β H w) {E' : Env} (hb : E'.b = E.b) (h1 : ∀ i b, blkOf β H i = some b -> E'.fr b = w.heap[b]?) (h2 : ∀ b, (∀ i, blkOf β H i ≠ some b) -> E'.fr b = E.fr b)
  (X : Ext h β [] h' β' Hn) (s' : SR P E' h' β' Hn w') (lo : ∀ x ∈ Hn, x.low Hn.length = true) :
  ∃ β'', Ren (H.length + ·) β' Hn β'' (H ++ Hn.map (Blk.ren (H.length + ·))) /\ Ext h β H h' β'' (H ++ Hn.map (Blk.ren (H.length + ·))) /\ SR P E h' β'' (H ++ Hn.map (Blk.ren (H.length + ·))) w' := by
 let β'' : Nat -> Value := fun i => if i < H.length then β i else β' (i - H.length)
 have b1 : ∀ i, i < H.length -> β'' i = β i := fun i hi => if_pos hi
 have b2 : ∀ i, β'' (H.length + i) = β' i := fun i => by
  show (if H.length + i < H.length then β (H.length + i) else β' (H.length + i - H.length)) = β' i
  rw [if_neg (by omega)]; congr 1; omega
 have R : Ren (H.length + ·) β' Hn β'' (H ++ Hn.map (Blk.ren (H.length + ·))) := by
  refine ⟨fun i x e => ?_, fun i hi => b2 i⟩
  rw [List.getElem?_append_right (by omega), List.getElem?_map, show H.length + i - H.length = i by omega, e]; rfl
 have hlow : ∀ i, i < H.length -> (H ++ Hn.map (Blk.ren (H.length + ·)))[i]? = H[i]? := fun i hi => List.getElem?_append_left hi
 have X' : Ext h β H h' β'' (H ++ Hn.map (Blk.ren (H.length + ·))) := by
  refine ⟨X.imm, by simp, fun i x x' e e' => ?_⟩
  have hi := (List.getElem?_eq_some_iff.1 e).1
  rw [hlow i hi, e] at e'; cases e'
  have := Blk.to_refl β i x
  cases x <;> first | exact rfl | trivial | (simp only [Blk.to, b1 i hi] at this ⊢; exact this)
 have o1 : ∀ i, i < H.length -> blkOf β'' (H ++ Hn.map (Blk.ren (H.length + ·))) i = blkOf β H i := fun i hi => by
  unfold blkOf; rw [hlow i hi, b1 i hi]
 have o2 : ∀ i, i < Hn.length -> blkOf β'' (H ++ Hn.map (Blk.ren (H.length + ·))) (H.length + i) = blkOf β' Hn i := fun i hi => R.blkOf hi
 have hsplit : ∀ i x, blkOf β'' (H ++ Hn.map (Blk.ren (H.length + ·))) i = some x -> (i < H.length /\ blkOf β H i = some x) \/ ∃ j, j < Hn.length /\ i = H.length + j /\ blkOf β' Hn j = some x := by
  intro i x e
  have hi := (yl e).1
  simp only [List.length_append, List.length_map] at hi
  by_cases hlt : i < H.length
  ·exact .inl ⟨hlt, by rw [<- o1 i hlt]; exact e⟩
  ·refine .inr ⟨i - H.length, by omega, by omega, ?_⟩
   rw [<- o2 _ (by omega), show H.length + (i - H.length) = i by omega]; exact e
 have hclash : ∀ i j b, blkOf β H i = some b -> blkOf β' Hn j = some b -> False := by
  intro i j b e1 e2
  have h3 := s'.fro j b e2
  rw [h1 i b e1, Array.getElem?_eq_getElem (s.lt e1)] at h3
  cases h3
 have hkeep : ∀ i b, blkOf β H i = some b -> w'.heap[b]? = w.heap[b]? /\ h' b = none := by
  intro i b e
  have hlt := s.lt e
  have e1 : E'.fr b = some w.heap[b] := by rw [h1 i b e, Array.getElem?_eq_getElem hlt]
  obtain ⟨e2, e3⟩ := s'.frm b _ e1
  exact ⟨by rw [e2, Array.getElem?_eq_getElem hlt], e3⟩
 refine ⟨β'', R, X', s'.env.trans hb, s'.imm, fun i x e => ?_, fun i j x e1 e2 => ?_, fun i x e => ?_, fun b o e => ?_, fun i x e => ?_⟩
 ·by_cases hlt : i < H.length
  ·rw [hlow i hlt] at e
   exact (s.blk i x e).keep X' (b1 i hlt) fun hd hd' b hb => (hkeep i b (by unfold blkOf; rw [e]; cases x <;> first | exact absurd rfl hd | exact absurd rfl hd' | exact hb)).1
  ·have hi := (List.getElem?_eq_some_iff.1 e).1
   simp only [List.length_append, List.length_map] at hi
   rw [List.getElem?_append_right (by omega), List.getElem?_map] at e
   obtain ⟨y, hy, rfl⟩ := Option.map_eq_some_iff.1 e
   have := R.blk (i := i - H.length) (by omega) (s'.blk _ _ hy)
   simp only at this
   rwa [show H.length + (i - H.length) = i by omega] at this
 ·rcases hsplit i x e1 with ⟨_, a1⟩ | ⟨i', _, rfl, a1⟩ <;> rcases hsplit j x e2 with ⟨_, a2⟩ | ⟨j', _, rfl, a2⟩
  ·exact s.own _ _ _ a1 a2
  ·exact (hclash _ _ _ a1 a2).elim
  ·exact (hclash _ _ _ a2 a1).elim
  ·rw [s'.own _ _ _ a1 a2]
 ·rcases hsplit i x e with ⟨_, a1⟩ | ⟨i', _, rfl, a1⟩
  ·exact (hkeep i x a1).2
  ·exact s'.fresh _ _ a1
 ·by_cases hh : ∃ i, blkOf β H i = some b
  ·obtain ⟨i, hi⟩ := hh
   rw [s.fro _ _ hi] at e; cases e
  ·exact s'.frm b o (by rw [h2 b (fun i hi => hh ⟨i, hi⟩)]; exact e)
 ·rcases hsplit i x e with ⟨_, a1⟩ | ⟨j, _, rfl, a1⟩
  ·exact s.fro _ _ a1
  ·have h3 := s'.fro _ _ a1
   rw [h2 x (fun i hi => hclash _ _ _ hi a1)] at h3
   exact h3
theorem yb.give {f : FuncId} {rs : List AV} {r : AV} {k : AV -> List Blk -> Prop} (x : yz P f rs r Hn) (hk : k (r.ren (H.length + ·)) (H ++ Hn.map (Blk.ren (H.length + ·)))) : yb P f rs H k := by
 refine ⟨x.o.1, fun E h β w vs s hr => ?_⟩
 classical
 let E' : Env := ⟨E.b, fun b => if ∃ i, blkOf β H i = some b then w.heap[b]? else E.fr b, E.en⟩
 have s0 : SR P E' h β [] w := by
  refine ⟨s.env, s.imm, fun i x e => by simp at e, fun i j x e => by simp [blkOf] at e, fun i x e => by simp [blkOf] at e, fun b o e => ?_, fun i x e => by simp [blkOf] at e⟩
  simp only [E'] at e
  split at e
  ·rename_i hh; obtain ⟨i, hi⟩ := hh; exact ⟨e, s.fresh _ _ hi⟩
  ·exact s.frm b o e
 have hr0 : RepL P h β [] rs vs := ⟨hr.1, fun j y e => by
  obtain ⟨v, e1, e2⟩ := hr.2 j y e
  exact ⟨v, e1, Rep.cut (H := []) (l := H) e2 ((zA.1 x.lo) y (List.mem_of_getElem? e))⟩⟩
 refine (x.o.2 E' h β w vs s0 hr0).mono ?_
 rintro e w' ⟨r1, H1, h', β', v, rfl, ⟨rfl, rfl⟩, X, s', hrep⟩
 obtain ⟨β'', R, X', s''⟩ := s.beside (E' := E') rfl (fun i b e => by simp only [E']; rw [if_pos ⟨i, e⟩]) (fun b hn => by simp only [E']; rw [if_neg (fun ⟨i, hi⟩ => hn i hi)]) X s' x.lH
 exact ⟨_, _, h', β'', v, rfl, hk, X', s'', R.rep hrep⟩
theorem za.give {f : FuncId} {rs : List AV} {r : AV} {k : AV -> List Blk -> Prop} (x : yz P f rs r Hn) (hk : k (r.ren (H.length + ·)) (H ++ Hn.map (Blk.ren (H.length + ·)))) : za P f rs H k := ⟨.give x hk⟩
theorem yz.comp {f : FuncId} {rs : List AV} {r r0 : AV} (x : yz P f rs r Hn) (hf : Froz P Hn r r0) : Comp P f rs r0 := by
 refine ⟨x.lo, x.o.1, fun E h β w vs s hr => ?_⟩
 refine (x.o.2 E h β w vs s hr).mono ?_
 rintro e w' ⟨r1, H1, h', β', v, rfl, ⟨rfl, rfl⟩, X, s', hrep⟩
 refine ⟨r0, [], hall h' β' H1 w', β, v, rfl, ⟨rfl, rfl⟩, ⟨fun b o e => w8 s' (X.imm b o e), Nat.le_refl _, fun i x x' e => by simp at e⟩, ?_, (hf _ _ _ _ s' v hrep).none⟩
 have s2 := s'.all
 exact ⟨s2.env, s2.imm, fun i x e => by simp at e, fun i j x e => by simp [blkOf] at e, fun i x e => by simp [blkOf] at e, s2.frm, fun i x e => by simp [blkOf] at e⟩
def SelR (f : Nat -> Nat) (H : List Blk) : Nat -> List Blk -> Prop
 | _, [] => True
 | i, x :: l => lget H (f i) = some (x.ren f) /\ SelR f H (i + 1) l
theorem SelR.get {f : Nat -> Nat} {H : List Blk} : ∀ {l : List Blk} {i : Nat}, SelR f H i l -> ∀ (j : Nat) x, l[j]? = some x -> lget H (f (i + j)) = some (x.ren f)
 | [], _, _, j, x, e => by simp at e
 | y :: l, i, h, 0, x, e => by simp at e; subst e; exact h.1
 | y :: l, i, h, j + 1, x, e => by
   have := SelR.get h.2 j x (by simpa using e)
   rwa [Nat.add_right_comm] at this
structure wO (H : List Blk) (r' r : AV) (Hn : List Blk) : Prop where
 o : ∃ l : List Nat, l.length = Hn.length /\ l.Nodup /\ SelR (rnF l) H 0 Hn /\ r' = r.ren (rnF l)
theorem wO.mk' {H : List Blk} {r' r : AV} {Hn : List Blk} (l : List Nat) (h1 : l.length = Hn.length) (h2 : l.Nodup) (h3 : SelR (rnF l) H 0 Hn) (h4 : r' = r.ren (rnF l)) : wO H r' r Hn := ⟨l, h1, h2, h3, h4⟩
theorem yz.body {f : FuncId} {fn : Func} {c : Code} {rs : List AV} {res : List ResultVar} {r : AV} (ok : zE P T) (own : List Nat) (hf : P.funcs[f]? = some fn) (hb : fn.body = some c) (hn : (fn.name == "runtime.NumGoroutine") = false)
  (hN : fn.ntmps = N) (hr : fn.results = res.toArray) (hl : rs.length <= N) (lo : lowL 0 rs = true) (lr : r.low Hn.length = true) (lH : ∀ x ∈ Hn, x.low Hn.length = true)
  (x : XRun P T N none own c (XIn T res fun r' H' => wO H' r' r Hn) [] (argX rs) []) : yz P f rs r Hn := by
 refine ⟨lo, lr, lH, ?_⟩
 obtain ⟨h1, h2⟩ := yb.inl ok own hf hb hn hN hr hl x
 refine ⟨h1, fun E h β w vs s hrs => (h2 E h β w vs s hrs).mono ?_⟩
 rintro e w' ⟨r', H', h', β', v, rfl, ⟨l, g1, g2, g3, g4⟩, X, s', hrep⟩
 have inj : ∀ i j, i < Hn.length -> j < Hn.length -> rnF l i = rnF l j -> i = j := by
  intro i j hi hj e
  unfold rnF at e
  rw [zu, zu, List.getElem?_eq_getElem (by omega), List.getElem?_eq_getElem (by omega)] at e
  exact (List.getElem_inj g2).1 e
 have R : Ren (rnF l) (fun i => β' (rnF l i)) Hn β' H' := ⟨fun i x e => by
  have := g3.get i x e
  rw [Nat.zero_add, zu] at this; exact this, fun _ _ => rfl⟩
 exact ⟨r, Hn, h', _, v, rfl, ⟨rfl, rfl⟩, ⟨X.imm, Nat.zero_le _, fun i x x' e => by simp at e⟩, R.sr s' inj lH, R.unrep hrep g4.symm lr⟩
theorem Walk.nilcell {c : Code} {Q : Post} (j o : Nat) (te : TypeId) {cs : List AV} (hj : lget H j = some (.cells cs)) (hc : lget cs o = some (.sl true [])) (x : Walk P N ρ c Q D σ (H.set j (.cells (cs.set o (.gr H.length 0))) ++ [.grow te true []])) : Walk P N ρ c Q D σ H := by
 constructor
 intro E h β a w s
 rw [zu] at hj hc
 have hlt := (List.getElem?_eq_some_iff.1 hj).1
 have hlo := (List.getElem?_eq_some_iff.1 hc).1
 obtain ⟨s1, X1⟩ := s.sr.push (w' := w) s.sr.env (fun _ _ => rfl) (.slice none 0 0) (.grow te true []) (by intro b hb; simp [anchor] at hb) (fun _ => .inl ⟨rfl, rfl, by simp [upb]⟩)
 have hj1 : (H ++ [Blk.grow te true []])[j]? = some (.cells cs) := by rw [List.getElem?_append_left hlt]; exact hj
 obtain ⟨s2, X2⟩ := s1.modify (β' := upb β H.length (.slice none 0 0)) (w' := w) (x' := .cells (cs.set o (.gr H.length 0))) hj1 (fun _ _ => rfl) (.inr ⟨_, rfl, rfl⟩) s1.env (fun _ _ _ => rfl) (fun b e => .inl (by unfold blkOf; rw [hj1]; exact e)) (fun X => by
  obtain ⟨b, c, t, h1, h2, h3, h4, us, h5, h6⟩ := s1.blk j _ hj1
  refine ⟨b, c, t, h1, h2, by rw [List.length_set]; exact h3, fun y hy => ?_, us, fun i y e => ?_, fun i y e => ?_⟩
  ·rcases List.mem_or_eq_of_mem_set hy with hy | rfl
   ·exact h4 y hy
   ·rfl
  ·by_cases hio : o = i
   ·subst hio; exact h5 o _ hc
   ·rw [List.getElem?_set_ne hio] at e; exact h5 i y e
  ·by_cases hio : o = i
   ·subst hio
    rw [List.getElem?_set_self hlo] at e; cases e
    have h7 := h6 o _ hc
    cases h : us o <;> rw [h] at h7 <;> cases h7
    refine .gr rfl ⟨_, by rw [List.getElem?_set_ne (by omega), List.getElem?_append_right (Nat.le_refl _), Nat.sub_self]; rfl, rfl⟩ fun t' nl els e => ?_
    rw [List.getElem?_set_ne (by omega), List.getElem?_append_right (Nat.le_refl _), Nat.sub_self] at e
    simp at e; obtain ⟨_, _, rfl⟩ := e
    exact ⟨Nat.le_refl _, fun _ => by simp [upb]⟩
   ·rw [List.getElem?_set_ne hio] at e; exact X.rep (h6 i y e))
 rw [List.set_append_left _ _ hlt] at s2 X2
 exact wpIn_mono (x.o E h _ a w ⟨s2, fun u r e => let ⟨v, h1, h2⟩ := s.fits u r e; ⟨v, h1, (X1.trans X2).rep h2⟩, s.size, s.df.ext (X1.trans X2)⟩) fun _ _ _ => Conc.ext (X1.trans X2)
noncomputable def yD (n : Nat) (h : Nat -> Option Obj) (β : Nat -> Value) (H : List Blk) (w : World) : Nat -> Option Obj := by
 classical exact fun b => if ∃ i, n <= i /\ blkOf β H i = some b then w.heap[b]? else h b
theorem zaU {n b i : Nat} (hi : n <= i) (e : blkOf β H i = some b) : yD n h β H w b = w.heap[b]? := by
 unfold yD; rw [if_pos ⟨i, hi, e⟩]
theorem kS {n : Nat} (s : SR P E h β H w) {b : Nat} {o : Obj} (e : h b = some o) : yD n h β H w b = some o := by
 unfold yD; split
 ·rename_i hh; obtain ⟨i, _, hi⟩ := hh; rw [s.fresh _ _ hi] at e; cases e
 ·exact e
theorem SR.allN {H1 l : List Blk} (s : SR P E h β (H1 ++ l) w) (lo : ∀ x ∈ H1, x.low H1.length = true) : SR P E (yD H1.length h β (H1 ++ l) w) β H1 w := by
 have s1 := s.cut lo
 have hb : ∀ i, i < H1.length -> blkOf β H1 i = blkOf β (H1 ++ l) i := fun i hi => by unfold blkOf; rw [List.getElem?_append_left hi]
 have hlt : ∀ {i x}, blkOf β H1 i = some x -> i < H1.length := fun e => (yl e).1
 have X : Ext h β H1 (yD H1.length h β (H1 ++ l) w) β H1 := ⟨fun b o e => kS s e, Nat.le_refl _, fun i x x' e e' => by rw [e] at e'; cases e'; exact Blk.to_refl _ _ _⟩
 refine ⟨s1.env, fun b o e => ?_, fun i x e => (s1.blk i x e).keep X rfl (fun _ _ _ _ => rfl), s1.own, fun i x e => ?_, fun b o e => ⟨(s.frm b o e).1, ?_⟩, s1.fro⟩
 ·unfold yD at e; split at e
  ·exact e
  ·exact s.imm b o e
 ·have hi := hlt e
  unfold yD; rw [if_neg]
  ·exact s1.fresh i x e
  ·rintro ⟨j, hj, hj2⟩
   have := s.own i j x (by rw [<- hb i hi]; exact e) hj2
   omega
 ·unfold yD; rw [if_neg]
  ·exact (s.frm b o e).2
  ·rintro ⟨j, hj, hj2⟩
   rw [s.fro _ _ hj2] at e; cases e
def zav (P : Program) (n : Nat) (H : List Blk) (r r' : AV) : Prop :=
 ∀ E h β w, SR P E h β H w -> ∀ v, Rep P h β H r v -> ∀ H1 : List Blk, Rep P (yD n h β H w) β H1 r' v
theorem zav.low {n : Nat} {r : AV} (hl : r.low 0 = true) : zav P n H r r := by
 intro E h β w s v hr H1
 have h0 : Rep P h β [] r v := Rep.cut (H := []) (l := H) hr hl
 have X : Ext h β [] (yD n h β H w) β [] := ⟨fun b o e => kS s e, Nat.le_refl _, by simp⟩
 exact (X.rep h0).none
theorem zav.grow {n i m : Nat} {t : TypeId} {nl : Bool} {els : List AV} (hi : n <= i) (hb : lget H i = some (.grow t nl els)) (hn : els.length = m) (hl : lowL 0 els = true) : zav P n H (.gr i m) (.sl nl els) := by
 have hb' := hb; rw [zu] at hb'
 intro E h β w s v hr H1
 cases hr with
 | gr ho hlv hv =>
   obtain ⟨h1, h2⟩ := hv _ _ _ hb'
   have hβ := h2 hn
   subst hβ
   rcases s.blk i _ hb' with ⟨rfl, rfl, h3⟩ | ⟨rfl, rfl, b, h3⟩ | ⟨rfl, b, cap, c, h3, h4, h5, h6, h7, h8, h9, h10, h11, us, h12, h13⟩
   ·rw [h3]; exact .slnil
   ·rw [h3]; exact .slemp
   ·rw [h3]
    cases els with
    | nil => exact .slemp
    | cons e0 l0 =>
      have hbo : blkOf β H i = some b := by simp only [blkOf, hb', h3, anchor]; rw [if_neg (by omega)]
      refine .sl us rfl (by simp) ((zaU hi hbo).trans h5) h10 h9 h11 h6 (fun j x e => ?_) (fun j x e => ?_)
      ·rw [Nat.zero_add]; exact h12 j x e
      ·exact zav.low (zA.1 (by rw [zA]; exact k7.1 hl) x (List.mem_of_getElem? e)) E h β w s _ (h13 j x e) H1
end
end GA
end
section
namespace GA
open Go Go.RowKit
section
variable {P : Program} {T : Tab} {N : Nat} {ρ : Option Nat} {H : List Blk} {σ : St} {D : List Nat}
theorem Walk.place {c : Code} {Q : Post} (x : Walk P N ρ c Q D σ (H ++ [.free])) : Walk P N ρ c Q D σ H := by
 constructor
 intro E h β a w s
 obtain ⟨s', X⟩ := s.sr.push (w' := w) s.sr.env (fun _ _ => rfl) (.pointer none) .free (by intro b hb; simp [anchor] at hb) (fun _ => trivial)
 exact wpIn_mono (x.o E h _ a w ⟨s', fun u r e => let ⟨v, h1, h2⟩ := s.fits u r e; ⟨v, h1, X.rep h2⟩, s.size, s.df.ext X⟩) fun _ _ _ => Conc.ext X
theorem zq.at {H : List Blk} {b : Blk} {k : Nat -> List Blk -> Prop} (i : Nat) (h1 : lget H i = some .free) (h2 : hset H i b fun H' => k i H') : zq H b k := ⟨i, h1, h2⟩
end
end GA
end
section
namespace GA
open Go Go.RowKit
section
variable {P : Program} {N : Nat} {ρ : Option Nat} {E : Env} {h h' : Nat -> Option Obj} {β : Nat -> Value} {H H' : List Blk} {w : World} {σ : St}
theorem fN (s : SR P E h β H w) {i n : Nat} {t : TypeId} {nl : Bool} {els : List AV} (hi : H[i]? = some (.grow t nl els)) (hn : els.length = n) {v : Value} (hr : Rep P h β H (.gr i n) v) (X : Ext h β H h' β H')
  (hfz : ∀ b o, blkOf β H i = some b -> w.heap[b]? = some o -> h' b = some o) : Rep P h' β H' (.sl nl els) v := by
 cases hr with
 | gr ho hl hv =>
   obtain ⟨_, h2⟩ := hv _ _ _ hi
   have hβ := h2 hn
   subst hβ
   rcases s.blk i _ hi with ⟨rfl, rfl, h3⟩ | ⟨rfl, rfl, b, h3⟩ | ⟨rfl, b, cap, c, h3, h4, h5, h6, h7, h8, h9, h10, h11, us, h12, h13⟩
   ·rw [h3]; exact .slnil
   ·rw [h3]; exact .slemp
   ·rw [h3]
    cases els with
    | nil => exact .slemp
    | cons e0 l0 =>
      have hbo : blkOf β H i = some b := by simp only [blkOf, hi, h3, anchor]; rw [if_neg (by omega)]
      exact .sl us rfl (by simp) (hfz b _ hbo h5) h10 h9 h11 h6 (fun j x e => by rw [Nat.zero_add]; exact h12 j x e) (fun j x e => X.rep (h13 j x e))
theorem Walk.freeze {c : Code} {Q : Post} {D : List Nat} (u i n : Nat) {t : TypeId} {nl : Bool} {els : List AV} (hu : σ u = some (.gr i n)) (hi : lget H i = some (.grow t nl els)) (hn : els.length = n) (x : Walk P N ρ c Q D (updX σ u (.sl nl els)) (H.set i .dead)) : Walk P N ρ c Q D σ H := by
 constructor
 intro E h β a w s
 rw [zu] at hi
 obtain ⟨h', s1, X, hfz⟩ := s.sr.freeze hi
 refine wpIn_mono (x.o E h' _ a w ⟨s1, fun t' r e => ?_, s.size, s.df.ext X⟩) fun _ _ _ => Conc.ext X
 rw [yV] at e; unfold upd at e
 split at e
 ·rename_i hh; subst hh; cases e
  obtain ⟨v, h1, h2⟩ := s.fits _ _ hu
  exact ⟨v, h1, fN s.sr hi hn h2 X hfz⟩
 ·obtain ⟨v, h1, h2⟩ := s.fits t' r e
  exact ⟨v, h1, X.rep h2⟩
inductive FrzV (i n : Nat) (nl : Bool) (els : List AV) : AV -> AV -> Prop
 | same {x : AV} : FrzV i n nl els x x
 | gr : FrzV i n nl els (.gr i n) (.sl nl els)
 | agg {cs cs' : List AV} (hl : cs'.length = cs.length) (hone : ∀ x ∈ cs', x.one = true) (ho : ∀ (j : Nat) x', cs'[j]? = some x' -> ∃ x, cs[j]? = some x /\ (x' = x \/ (x = .gr i n /\ x' = .sl nl els))) : FrzV i n nl els (.agg cs) (.agg cs')
structure FrzL (i n : Nat) (nl : Bool) (els : List AV) (rs rs' : List AV) : Prop where
 l : rs'.length = rs.length
 o : ∀ (j : Nat) x', rs'[j]? = some x' -> ∃ x, rs[j]? = some x /\ FrzV i n nl els x x'
section
variable {i n : Nat} {nl : Bool} {els : List AV}
theorem FrzL.nil : FrzL i n nl els [] [] := ⟨rfl, by simp⟩
theorem FrzL.cons {x y : AV} {rs rs' : List AV} (hx : FrzV i n nl els x y) (h : FrzL i n nl els rs rs') : FrzL i n nl els (x :: rs) (y :: rs') := by
 refine ⟨by simp [h.l], fun j z e => ?_⟩
 cases j with
 | zero => simp at e; subst e; exact ⟨_, rfl, hx⟩
 | succ j => exact h.o j z (by simpa using e)
theorem FrzL.same {x : AV} {rs rs' : List AV} (h : FrzL i n nl els rs rs') : FrzL i n nl els (x :: rs) (x :: rs') := .cons .same h
theorem FrzL.gr {rs rs' : List AV} (h : FrzL i n nl els rs rs') : FrzL i n nl els (.gr i n :: rs) (.sl nl els :: rs') := .cons .gr h
theorem FrzV.rep (s : SR P E h β H w) {t : TypeId} (hi : H[i]? = some (.grow t nl els)) (hn : els.length = n) (X : Ext h β H h' β H') (hfz : ∀ b o, blkOf β H i = some b -> w.heap[b]? = some o -> h' b = some o) {x y : AV} (hv : FrzV i n nl els x y) {v : Value} (hr : Rep P h β H x v) : Rep P h' β H' y v := by
 cases hv with
 | same => exact X.rep hr
 | gr => exact fN s hi hn hr X hfz
 | agg hl hone ho =>
   cases hr with
   | agg us h1 h2 h3 h4 =>
     refine .agg us (by rw [h1, hl]) hone (fun j x e => ?_) (fun j x e => ?_)
     ·obtain ⟨z, e1, _⟩ := ho j x e; exact h3 j z e1
     ·obtain ⟨z, e1, e2⟩ := ho j x e
      rcases e2 with rfl | ⟨rfl, rfl⟩
      ·exact X.rep (h4 j _ e1)
      ·exact fN s hi hn (h4 j _ e1) X hfz
end
theorem za.frz {f : FuncId} {rs rs' : List AV} {k : AV -> List Blk -> Prop} (i n : Nat) {t : TypeId} {nl : Bool} {els : List AV} (hi : lget H i = some (.grow t nl els)) (hn : els.length = n) (hv : FrzL i n nl els rs rs')
  (H' : List Blk) (hH : ∀ E h β w, SR P E h β H w -> ∀ h', SR P E h' β (H.set i .dead) w -> Ext h β H h' β (H.set i .dead) -> (∀ b o, blkOf β H i = some b -> w.heap[b]? = some o -> h' b = some o) -> SR P E h' β H' w /\ Ext h β H h' β H') (x : za P f rs' H' k) : za P f rs H k := by
 rw [zu] at hi
 refine ⟨x.o.1, fun E h β w vs s hr => ?_⟩
 obtain ⟨h', s1, X, hfz⟩ := s.freeze hi
 obtain ⟨s2, X2⟩ := hH E h β w s h' s1 X hfz
 have hr' : RepL P h' β H' rs' vs := ⟨by rw [hv.l]; exact hr.1, fun j y e => by
  obtain ⟨z, e1, e2⟩ := hv.o j y e
  obtain ⟨v, e3, e4⟩ := hr.2 j z e1
  exact ⟨v, e3, e2.rep s hi hn X2 hfz e4⟩⟩
 refine (x.o.2 E h' β w vs s2 hr').mono ?_
 rintro e w' ⟨r, H'', h'', β'', v, e1, e2, e3, e4⟩
 exact ⟨r, H'', h'', β'', v, e1, e2, X2.trans e3, e4⟩
theorem za.freeze {f : FuncId} {rs rs' : List AV} {k : AV -> List Blk -> Prop} (i n : Nat) {t : TypeId} {nl : Bool} {els : List AV} (hi : lget H i = some (.grow t nl els)) (hn : els.length = n) (hv : FrzL i n nl els rs rs')
  (x : za P f rs' (H.set i .dead) k) : za P f rs H k :=
 .frz i n hi hn hv _ (fun _ _ _ _ _ _ s X _ => ⟨s, X⟩) x
end
end GA
end
section
namespace GA
open Go Go.RowKit
section
variable {F : Fence} {n : Nat} {P : Program} {Q : Exit -> Act -> World -> Prop} {a : Act} {w : World}
theorem kz {b : Frame} {k : List Item} {cs : List Frame} {c : Code} : step P (lone (b.atR a (.code (.scope c) :: k)) cs w) = .next (lone (b.atR a (.code c :: .inScope c :: k)) cs w) :=
 step_lone_go (by simp [stepG, stepG.exec, Frame.atR])
theorem zaD {b : Frame} {k : List Item} {cs : List Frame} {c : Code} : step P (lone (b.atR a (.inScope c :: k)) cs w) = .next (lone (b.atR a k) cs w) :=
 step_lone_go (by simp [stepG, stepG.exec, Frame.atR])
theorem zdL {c : Code} (h : c.wpIn F n P (Exit.noGoto Q) a w) : (Code.scope c).wpIn F n P Q a w := by
 intro b k cs hro hb hr
 have h0 : (lone (b.atR a (.code (.scope c) :: k)) cs w).fenced P F := fenced_calm hb hr rfl
 obtain ⟨e, a₁, w₁, hq, harr⟩ := h b (.inScope c :: k) cs hro hb hr
 cases e with
 | normal => exact ⟨.normal, a₁, w₁, hq, .head h0 kz (StepsIn.trans harr (.one (fenced_calm hb hr rfl) zaD))⟩
 | exit id =>
   have hx : exitTo id (.inScope c :: k) = exitTo id k := by simp [exitTo]
   exact ⟨.exit id, a₁, w₁, hq, fun k' hk => .head h0 kz (harr.1 k' (by rw [hx]; exact hk)),
    fun hr' hk => let ⟨k₁, h1, h2⟩ := harr.2 hr' (by rw [hx]; exact hk); ⟨k₁, h1, .head h0 kz h2⟩⟩
 | goto l => exact hq.elim
 | ret => exact ⟨_, a₁, w₁, hq, .of_steps (.one h0 kz) harr⟩
 | panic ch => exact ⟨_, a₁, w₁, hq, .of_steps (.one h0 kz) harr⟩
 | outgrown => exact ⟨_, a₁, w₁, hq, .of_steps (.one h0 kz) harr⟩
end
section
variable {P : Program} {T : Tab} {N : Nat} {ρ : Option Nat} {D : List Nat} {σ : St} {H : List Blk} {Q : Post} {own : List Nat}
def scopeX (Q : Post) : Post
 | .goto _, _, _, _ => False
 | e, D, σ, H => Q e D σ H
theorem Walk.scope {c : Code} (ok : zE P T) (own : List Nat) (x : XRun P T N ρ own c (scopeX Q) D σ H) : Walk P N ρ (.scope c) Q D σ H := by
 constructor
 intro E h β a w s
 refine zdL (wpIn_mono (XRun.sound ok x E h β a w s) ?_)
 rintro e a' w' ⟨D', σ', H', h', β', q, X, s'⟩
 cases e with
 | goto l => exact q.elim
 | _ => exact ⟨D', σ', H', h', β', q, X, s'⟩
theorem Walk.label {l : Nat} (x : Q .normal D σ H) : Walk P N ρ (.label l) Q D σ H :=
 ⟨fun E h β a w s => wpIn_label ⟨D, σ, H, h, β, x, Ext.refl _ _ _, s⟩⟩
end
end GA
end
section
namespace GA
open Go Go.RowKit
section
variable {P : Program} {T : Tab} {N : Nat} {ρ : Option Nat} {D : List Nat} {σ : St} {H : List Blk} {Q : Post}
def qc (P : Program) (n : Nat) (H : List Blk) (r r' : AV) : Prop := zav P n H r r' \/ (r' = r /\ r.low n = true)
theorem qc.same {n : Nat} {r : AV} (h : r.low n = true) : qc P n H r r := .inr ⟨rfl, h⟩
theorem qc.gr {n i m : Nat} {t : TypeId} {nl : Bool} {els : List AV} (hi : n <= i) (hb : lget H i = some (.grow t nl els)) (hn : els.length = m) (hl : lowL 0 els = true) : qc P n H (.gr i m) (.sl nl els) := .inl (.grow hi hb hn hl)
def SubF (P : Program) (n : Nat) (H : List Blk) : List (Nat × AV) -> St -> Prop
 | [], _ => True
 | (t, r') :: l, σ => (∃ r, σ t = some r /\ qc P n H r r') /\ SubF P n H l σ
theorem v8 {n : Nat} : ∀ {l : List (Nat × AV)} {σ : St}, SubF P n H l σ -> ∀ t r, stX l t = some r -> ∃ r0, σ t = some r0 /\ qc P n H r0 r
 | [], _, _, _, _, e => by cases e
 | (u, x) :: l, σ, h, t, r, e => by
   simp only [stX, yV, upd] at e
   split at e
   ·rename_i h1; subst h1; cases e; exact h.1
   ·exact v8 h.2 t r e
theorem AWp.loopF {c : Code} {G : Type} (st : G -> St) (hp : G -> List Blk) (μ : G -> Nat) (g0 : G) (hσ : ∀ t r, st g0 t = some r -> σ t = some r) (hH : hp g0 = H) (hD : D = [])
  (hlow : ∀ g, ∀ x ∈ hp g, x.low (hp g).length = true) (hlen : ∀ g, (hp g0).length <= (hp g).length)
  (round : ∀ g, AWp P N ρ c (yZ (fun D' σ' H' => D' = D /\ ∃ g' l, μ g' < μ g /\ hp g' ++ l = H' /\ ∀ t r, st g' t = some r -> ∃ r0, σ' t = some r0 /\ qc P (hp g').length H' r0 r) Q) D (st g) (hp g)) : AWp P N ρ (.loop c) Q D σ H := by
 intro E h β a w s
 subst hH; subst hD
 let I : G -> Act -> World -> Prop := fun g a w => ∃ h' β', Ext h β (hp g0) h' β' (hp g) /\ kj P E N h' β' [] (st g) (hp g) a w
 have least : ∀ a w, (∃ g, I g a w) -> ∃ n, (∃ g, I g a w /\ μ g = n) /\ ∀ m, m < n -> ¬ ∃ g, I g a w /\ μ g = m :=
  fun a w ⟨g, hg⟩ => jm ⟨μ g, g, hg, rfl⟩
 classical
 let M : Act -> World -> Nat := fun a w => if e : ∃ g, I g a w then Classical.choose (least a w e) else 0
 have hM : ∀ a w (e : ∃ g, I g a w), (∃ g, I g a w /\ μ g = M a w) /\ ∀ g, I g a w -> M a w <= μ g := by
  intro a w e
  have hc := Classical.choose_spec (least a w e)
  have hm : M a w = Classical.choose (least a w e) := by simp only [M, dif_pos e]
  rw [hm]
  refine ⟨hc.1, fun g hg => ?_⟩
  rcases Nat.lt_or_ge (μ g) (Classical.choose (least a w e)) with hlt | hge
  ·exact absurd ⟨g, hg, rfl⟩ (hc.2 _ hlt)
  ·exact hge
 refine wpIn_loop (fun a w => ∃ g, I g a w) M ⟨g0, h, β, Ext.refl _ _ _, s.sr, fun t r e => s.fits t r (hσ t r e), s.size, s.df⟩ ?_
 intro a' w' hI
 obtain ⟨⟨g, hg, hmu⟩, _⟩ := hM a' w' hI
 obtain ⟨h', β', X, s'⟩ := hg
 refine wpIn_mono (round g E h' β' a' w' s') ?_
 rintro e a'' w'' ⟨D'', σ'', H'', h'', β'', q, X', s''⟩
 cases e with
 | normal =>
   obtain ⟨rfl, g', l, hlt, rfl, hsub⟩ := q
   have XA : Ext h'' β'' (hp g' ++ l) (yD (hp g').length h'' β'' (hp g' ++ l) w'') β'' (hp g' ++ l) := ⟨fun b o e => kS s''.sr e, Nat.le_refl _, fun i x x' e e' => by rw [e] at e'; cases e'; exact Blk.to_refl _ _ _⟩
   have hI' : I g' a'' w'' := by
    refine ⟨yD (hp g').length h'' β'' (hp g' ++ l) w'', β'', ((X.trans X').trans XA).cut (hlen g'), s''.sr.allN (hlow g'), fun t r e => ?_, s''.size, (s''.df.ext XA).any⟩
    obtain ⟨r0, e1, e2⟩ := hsub t r e
    obtain ⟨v, h1, h2⟩ := s''.fits t r0 e1
    rcases e2 with e2 | ⟨rfl, e2⟩
    ·exact ⟨v, h1, e2 E h'' β'' w'' s''.sr v h2 (hp g')⟩
    ·exact ⟨v, h1, (XA.rep h2).cut e2⟩
   refine ⟨⟨g', hI'⟩, ?_⟩
   have := (hM a'' w'' ⟨g', hI'⟩).2 g' hI'
   omega
 | _ => exact ⟨D'', σ'', H'', h'', β'', q, X.trans X', s''⟩
structure qo {G : Type} (P : Program) (I : G -> Prop) (L : G -> List (Nat × AV)) (hp : G -> List Blk) (μ : G -> Nat) (g : G) (D' : List Nat) (σ' : St) (H' : List Blk) : Prop where
 d : D' = []
 o : ∃ g' l, I g' /\ μ g' < μ g /\ hp g' ++ l = H' /\ SubF P (hp g').length H' (L g') σ'
theorem Walk.loopF {c : Code} {G : Type} (ok : zE P T) (own : List Nat) (I : G -> Prop) (L : G -> List (Nat × AV)) (hp : G -> List Blk) (μ : G -> Nat) (g0 : G) (h0 : I g0) (hH : hp g0 = H) (hs : SubX (L g0) σ)
  (hlow : ∀ g, I g -> ∀ x ∈ hp g, x.low (hp g).length = true) (hlen : ∀ g, I g -> (hp g0).length <= (hp g).length)
  (round : ∀ g, I g -> XRun P T N ρ own c (yZ (qo P I L hp μ g) Q) [] (stX (L g)) (hp g)) : Walk P N ρ (.loop c) Q [] σ H := by
 constructor
 refine AWp.loopF (G := {g : G // I g}) (fun g => stX (L g.1)) (fun g => hp g.1) (fun g => μ g.1) ⟨g0, h0⟩ (yC hs) hH rfl (fun g => hlow g.1 g.2) (fun g => hlen g.1 g.2) fun g => ?_
 refine (XRun.sound ok (round g.1 g.2)).mono fun e D' σ' H' q => ?_
 cases e with
 | normal => obtain ⟨h1, g', l, h2, h3, h4, h5⟩ := q; exact ⟨h1, ⟨g', h2⟩, l, h3, h4, v8 h5⟩
 | _ => exact q
theorem qo.go {G : Type} {I : G -> Prop} {L : G -> List (Nat × AV)} {hp : G -> List Blk} {μ : G -> Nat} {g : G} (g' : G) (l : List Blk) (h1 : I g') (h2 : μ g' < μ g) (h3 : hp g' ++ l = H) (h4 : SubF P (hp g').length H (L g') σ) : qo P I L hp μ g [] σ H := ⟨rfl, g', l, h1, h2, h3, h4⟩
theorem Walk.keep {c : Code} (ok : zE P T) (own : List Nat) (H1 l : List Blk) (L : List (Nat × AV)) (hH : H1 ++ l = H) (hlow : ∀ x ∈ H1, x.low H1.length = true) (hs : SubF P H1.length H L σ) (hD : D = []) (x : XRun P T N ρ own c Q D (stX L) (H1 ++ l.map fun _ => .dead)) : Walk P N ρ c Q D σ H := by
 subst hH; subst hD
 constructor
 intro E h β a w s
 have hd : ∀ (l : List Blk) (i : Nat) x, (l.map fun _ => Blk.dead)[i]? = some x -> x = .dead := fun l i x e => by
  rw [List.getElem?_map] at e
  cases hx : l[i]? with
  | none => rw [hx] at e; cases e
  | some y => rw [hx] at e; cases e; rfl
 have hlen : (l.map fun _ => Blk.dead).length = l.length := List.length_map _
 have X : Ext h β (H1 ++ l) (yD H1.length h β (H1 ++ l) w) β (H1 ++ l.map fun _ => .dead) := by
  refine ⟨fun b o e => kS s.sr e, by simp, fun i x x' e e' => ?_⟩
  by_cases hi : i < H1.length
  ·rw [List.getElem?_append_left hi] at e e'
   rw [e] at e'; cases e'; exact Blk.to_refl _ _ _
  ·rw [List.getElem?_append_right (by omega)] at e'
   have := hd _ _ _ e'
   subst this
   cases x <;> first | rfl | trivial | exact .inl rfl
 have s1 := s.sr.allN hlow
 have X1 : Ext (yD H1.length h β (H1 ++ l) w) β H1 (yD H1.length h β (H1 ++ l) w) β (H1 ++ l.map fun _ => .dead) :=
  ⟨fun _ _ e => e, by simp, fun i x x' e e' => by rw [List.getElem?_append_left (List.getElem?_eq_some_iff.1 e).1, e] at e'; cases e'; exact Blk.to_refl _ _ _⟩
 have hbo : ∀ i b, blkOf β (H1 ++ l.map fun _ => .dead) i = some b -> blkOf β H1 i = some b := fun i b e => by
  have hlt := (yl e).1
  by_cases hi : i < H1.length
  ·rw [<- e]; exact (yy rfl (List.getElem?_append_left hi)).symm
  ·exfalso
   unfold blkOf at e
   cases hx : (H1 ++ l.map fun _ => Blk.dead)[i]? with
   | none => rw [hx] at e; cases e
   | some x =>
     rw [hx] at e
     rw [List.getElem?_append_right (by omega)] at hx
     have := hd _ _ _ hx
     subst this; cases e
 have s2 : SR P E (yD H1.length h β (H1 ++ l) w) β (H1 ++ l.map fun _ => .dead) w := by
  refine s1.grown X1 s1.env s1.imm (fun i x e => ?_) (fun i j b e1 e2 => s1.own i j b (hbo _ _ e1) (hbo _ _ e2)) (fun i b e => s1.fresh i b (hbo _ _ e)) s1.frm (fun i b e => s1.fro i b (hbo _ _ e))
  by_cases hi : i < H1.length
  ·rw [List.getElem?_append_left hi] at e; exact .inl ⟨e, rfl, fun _ _ => rfl⟩
  ·rw [List.getElem?_append_right (by omega)] at e
   have := hd _ _ _ e
   subst this; exact .inr trivial
 refine wpIn_mono (XRun.sound ok x E _ β a w ⟨s2, fun t r e => ?_, s.size, s.df.ext X⟩) fun _ _ _ => Conc.ext X
 obtain ⟨r0, e1, e2⟩ := v8 hs t r e
 obtain ⟨v, h1, h2⟩ := s.fits t r0 e1
 rcases e2 with e2 | ⟨rfl, e2⟩
 ·exact ⟨v, h1, e2 E h β w s.sr v h2 _⟩
 ·refine ⟨v, h1, X1.rep (Rep.cut (l := l) ?_ e2)⟩
  have XA : Ext h β (H1 ++ l) (yD H1.length h β (H1 ++ l) w) β (H1 ++ l) := ⟨fun b o e => kS s.sr e, Nat.le_refl _, fun i x x' e e' => by rw [e] at e'; cases e'; exact Blk.to_refl _ _ _⟩
  exact XA.rep h2
end
end GA
end
section
namespace GA
open Go Go.RowKit Go.Proofs
section
variable {P : Program} {E : Env} {h : Nat -> Option Obj} {β : Nat -> Value} {H : List Blk} {w w' : World} {ρ : Go.Shelf.Ren}
theorem yU (b : Nat) : ∀ (vs : List Value) (o : Nat) (w : World), World.env (w.setCells b o vs) = World.env w
 | [], _, _ => rfl
 | v :: r, o, w => by rw [World.setCells, yU b r]; rfl
theorem yw (b : Nat) : ∀ (vs : List Value) (o : Nat) (w : World) (k : Nat), k ≠ b -> (w.setCells b o vs).heap[k]? = w.heap[k]?
 | [], _, _, _, _ => rfl
 | v :: r, o, w, k, hk => by
   rw [World.setCells, yw b r _ _ k hk]
   simp only [World.setCell, Array.getElem?_modify]
   rw [if_neg (fun e => hk e.symm)]
theorem yI (b : Nat) {t : TypeId} {fz : Nat × Nat} : ∀ (vs : List Value) (o : Nat) (w : World) (c : Array Value), w.heap[b]? = some (.cells c t fz) -> o + vs.length <= c.size ->
  ∃ c', (w.setCells b o vs).heap[b]? = some (.cells c' t fz) /\ c'.size = c.size /\ ∀ q, c'[q]? = if o <= q /\ q < o + vs.length then vs[q - o]? else c[q]?
 | [], o, w, c, hb, _ => ⟨c, hb, rfl, fun q => by rw [if_neg (fun e => by have := e.2; simp at this; omega)]⟩
 | v :: r, o, w, c, hb, hl => by
   simp only [List.length_cons] at hl
   have h1 : (w.setCell ⟨b, o, none⟩ v).heap[b]? = some (.cells (c.setIfInBounds o v) t fz) := by
    simp only [World.setCell, Array.getElem?_modify]
    simp [hb]
   obtain ⟨c', a1, a2, a3⟩ := yI b r (o + 1) _ _ h1 (by simp; omega)
   refine ⟨c', a1, by simpa using a2, fun q => ?_⟩
   rw [a3]
   by_cases h0 : q = o
   ·subst h0
    rw [if_neg (by omega), if_pos (by simp), Nat.sub_self, Array.getElem?_setIfInBounds, if_pos rfl, if_pos (by omega)]
    rfl
   ·by_cases h2 : o + 1 <= q /\ q < o + 1 + r.length
    ·rw [if_pos h2, if_pos (by simp only [List.length_cons]; omega)]
     obtain ⟨d, rfl⟩ : ∃ d, q = o + 1 + d := ⟨q - (o + 1), by omega⟩
     rw [show o + 1 + d - (o + 1) = d by omega, show o + 1 + d - o = d + 1 by omega, List.getElem?_cons_succ]
    ·rw [if_neg h2, if_neg (by simp only [List.length_cons]; omega), Array.getElem?_setIfInBounds, if_neg (fun e => h0 e.symm)]
def vS (ys : List Int) (p : Nat) (x : Int) : List Int := ys.take p ++ x :: ys.drop p
theorem zco {ys : List Int} {p : Nat} {x : Int} (hp : p <= ys.length) : (vS ys p x).length = ys.length + 1 := by
 simp only [vS, List.length_append, List.length_take, List.length_cons, List.length_drop]; omega
theorem vf {ys : List Int} {p : Nat} {x : Int} (hp : p <= ys.length) (j : Nat) : (vS ys p x)[j]? = if j < p then ys[j]? else if j = p then some x else ys[j - 1]? := by
 unfold vS
 by_cases h1 : j < p
 ·rw [if_pos h1, List.getElem?_append_left (by simp; omega), List.getElem?_take, if_pos h1]
 ·rw [if_neg h1, List.getElem?_append_right (by simp; omega), List.length_take, Nat.min_eq_left hp]
  by_cases h2 : j = p
  ·subst h2; simp
  ·rw [if_neg h2]
   obtain ⟨d, rfl⟩ : ∃ d, j = p + 1 + d := ⟨j - (p + 1), by omega⟩
   rw [show p + 1 + d - p = d + 1 by omega, List.getElem?_cons_succ, List.getElem?_drop]
   congr 1; omega
def vint (z : Int) : Value := .int .i64 z
theorem flatI (ys : List Int) : flat (ys.map (AV.int .i64)) = ys.map (AV.int .i64) := by
 induction ys with
 | nil => rfl
 | cons y r ih => simp only [flat, List.map_cons, List.flatMap_cons] at ih ⊢; rw [ih]; rfl
theorem fD {c : Array Value} {ys : List Int} (k : zM P h β H (ys.map (AV.int .i64)) c) (j : Nat) (z : Int) (e : ys[j]? = some z) : c[j]? = some (.int .i64 z) := by
 obtain ⟨us, h1, h2⟩ := k
 have e' : (ys.map (AV.int .i64))[j]? = some (.int .i64 z) := by rw [List.getElem?_map, e]; rfl
 rw [h1 j _ e', z6 (h2 j _ e')]
theorem zdS {c : Array Value} {ys : List Int} (hc : ∀ (j : Nat) z, ys[j]? = some z -> c[j]? = some (.int .i64 z)) : zM P h β H (ys.map (AV.int .i64)) c := by
 refine ⟨fun j => .int .i64 (ys.getD j 0), fun j x e => ?_, fun j x e => ?_⟩
 ·rw [List.getElem?_map, Option.map_eq_some_iff] at e
  obtain ⟨z, e1, rfl⟩ := e
  rw [hc j z e1]; simp [List.getD, e1]
 ·rw [List.getElem?_map, Option.map_eq_some_iff] at e
  obtain ⟨z, e1, rfl⟩ := e
  have e2 : ys.getD j 0 = z := by simp [List.getD, e1]
  simp only [e2]
  exact .int _ _
theorem w9 (s : SR P E h β H w) {i p cap b : Nat} {t : TypeId} {nl : Bool} {ys : List Int} {x : Int} (hi : H[i]? = some (.grow t nl (ys.map (AV.int .i64)))) (hp : p <= ys.length) (hsz : sz P t = 1)
  (hcap : ys.length + 1 <= cap) (hmax : cap <= maxLen) (he : World.env w' = World.env w) (hk : ∀ k, k < w.heap.size -> blkOf β H i ≠ some k -> w'.heap[k]? = w.heap[k]?)
  (hbo : blkOf β H i = some b \/ w.heap.size <= b) {c' : Array Value} (hb : w'.heap[b]? = some (.cells c' t (0, 0))) (hcs : c'.size = cap) (hc : ∀ (j : Nat) z, (vS ys p x)[j]? = some z -> c'[j]? = some (.int .i64 z))
  {k : AV -> List Blk -> Prop} (hq : k (.gr i (ys.length + 1)) (H.set i (.grow t false ((vS ys p x).map (AV.int .i64))))) :
  Ends P E h β H k (.returned (.slice (some ⟨b, 0, none⟩) (ys.length + 1) cap)) w' := by
 have hlt := (List.getElem?_eq_some_iff.1 hi).1
 have hpl := zco (x := x) hp
 obtain ⟨s', X⟩ := s.modify (β' := upb β i (.slice (some ⟨b, 0, none⟩) (ys.length + 1) cap)) (w' := w') (x' := .grow t false ((vS ys p x).map (AV.int .i64))) hi
  (fun j hj => by simp [upb, hj]) (.inr ⟨_, _, rfl, by simp [hpl], fun e => by simp [hpl] at e⟩) (he.trans s.env) hk
  (fun b0 hb => by simp [upb, anchor] at hb; rw [<- hb.2]; exact hbo)
  (fun X => .inr (.inr ⟨rfl, b, cap, c', by simp [upb, hpl], by omega, hb, by simpa [hpl] using hcap, hmax, by rw [hsz, hcs, Nat.mul_one], by omega,
   fun e he => by rw [hsz]; obtain ⟨z, _, rfl⟩ := List.mem_map.1 he; rfl, fun e he => by rw [flatI] at he; obtain ⟨z, _, rfl⟩ := List.mem_map.1 he; rfl, by rw [flatI]; exact zdS hc⟩))
 refine ⟨_, _, _, _, _, rfl, hq, X, s', .gr rfl (.set hlt rfl) fun t' nl' els' e => ?_⟩
 simp [hlt] at e; obtain ⟨_, _, rfl⟩ := e; exact ⟨by simp [hpl], fun _ => by simp [upb]⟩
theorem yb.insert (L : Lays2.n21 P ρ) {i j p : Nat} {nl : Bool} {ys : List Int} {x : Int} (hi : H[i]? = some (.grow (ρ.t 3) nl (ys.map (AV.int .i64)))) (hj : H[j]? = some (.grow (ρ.t 3) false [.int .i64 x])) (hij : i ≠ j)
  (hp : p <= ys.length) (hn : ys.length <= 1000000) {k : AV -> List Blk -> Prop} (hk : k (.gr i (ys.length + 1)) (H.set i (.grow (ρ.t 3) false ((vS ys p x).map (AV.int .i64))))) :
  yb P (ρ.f 21) [.gr i ys.length, .int .i64 p, .gr j 1] H k := by
 refine ⟨⟨_, L.f21, by kernel_rfl, by kernel_rfl⟩, fun E h β w vs s hr => ?_⟩
 obtain ⟨i0, hi0, hz0, hzs, hzb⟩ := info_parts L.i3
 have hsz : sz P (ρ.t 3) = 1 := by simp [sz, hi0, hzs]
 obtain ⟨hl, hr⟩ := hr
 match vs, hl, hr with
 | [v0, v1, v2], _, hr =>
 obtain ⟨_, e0, r0⟩ := hr 0 _ rfl
 obtain ⟨_, e1, r1⟩ := hr 1 _ rfl
 obtain ⟨_, e2, r2⟩ := hr 2 _ rfl
 cases e0; cases e1; cases e2
 have hv0 : v0 = β i := by cases r0 with | gr ho hii hv => exact (hv _ _ _ hi).2 (by simp)
 have hv2 : v2 = β j := by cases r2 with | gr ho hii hv => exact (hv _ _ _ hj).2 rfl
 have hv1 := z6 r1
 subst hv0 hv1 hv2
 refine callsIn_wide.2 ?_
 rcases s.blk j _ hj with ⟨_, h7, _⟩ | ⟨_, h7, _⟩ | ⟨_, vb, vc, cv, j8, j9, j10, j11, j12, j13, j14, j15, j16, j17⟩
 ·cases h7
 ·cases h7
 have hvx : cv[0]? = some (.int .i64 x) := fD (ys := [x]) (by simpa [flat, AV.cells] using j17) 0 x rfl
 have hjo : blkOf β H j = some vb := by simp [blkOf, hj, j8, anchor]; omega
 have hvs : ∀ (q : Nat) v, [vint x][q]? = some v -> w.cell? ⟨vb, 0 + q, none⟩ = some v := fun q v e => by
  have hq : q = 0 := by have := (List.getElem?_eq_some_iff.1 e).1; simp at this; exact this
  subst hq; cases e
  rw [kD j10]; exact hvx
 have hcsl : (ys.map vint).length = ys.length := by simp
 have h1c : ∀ v ∈ ys.map vint, v.oneCell' = true := fun v hv => by obtain ⟨z, _, rfl⟩ := List.mem_map.1 hv; rfl
 have h1v : ∀ v ∈ [vint x], v.oneCell' = true := fun v hv => by rw [List.mem_singleton.1 hv]; rfl
 have hzc : ∀ q, (Builtin.zeroCells (Value.int IntKind.i64 0).cells q).size = q := fun q => by rw [size_zeroCells]; exact Nat.mul_one q
 have hge := fun cap => grownCap_ge w (ys.length + 1) cap (ρ.t 3)
 have hle := fun cap => grownCap_le_maxLen w (ys.length + 1) cap (ρ.t 3) (by simp only [maxLen]; omega)
 -- the new row at the end
 have fresh_end : ∀ (base : Option Addr) (c : Nat), β i = .slice base ys.length c -> ys.length <= c -> c < ys.length + 1 -> p = ys.length -> (base = none -> ys.length = 0) ->
   (∀ a, base = some a -> ∀ (q : Nat) v, (ys.map vint)[q]? = some v -> w.cell? (a.add q) = some v) ->
   Calls P (ρ.f 21) [β i, .int .i64 p, β j].toArray w (Ends P E h β H k) := by
  intro base c hb hnc hroom hpn hnil hcs
  rw [hb, j8, hpn]
  refine (Any2.slices_Insert_int_end_grow L base ys.length c vb 0 1 vc (ys.map vint) [vint x] w (by omega) hnc hroom (by omega) hcsl rfl hnil hcs hvs h1v).mono ?_
  rintro e w' ⟨rfl, rfl⟩
  refine w9 (w' := w.drew.alloc _) s hi (by omega : p <= ys.length) hsz (hge c) (hle c) rfl (fun k hk _ => Below.heap_alloc w.drew _ _ hk) (.inr (Nat.le_refl _)) (heap_alloc_new w.drew _) ?_ ?_ hk
  ·simp only [Array.size_append, List.size_toArray, List.length_append, List.length_map, List.length_singleton, hzc]; have := hge c; omega
  ·intro q z e
   rw [vf hp] at e
   have hlq : q < ys.length + 1 := by
    split at e
    ·omega
    ·split at e
     ·omega
     ·have := (List.getElem?_eq_some_iff.1 e).1; omega
   rw [Array.getElem?_append_left (by simpa using hlq), List.getElem?_toArray]
   by_cases h1 : q < p
   ·rw [if_pos h1] at e
    rw [List.getElem?_append_left (by simp; omega), List.getElem?_map, e]; rfl
   ·rw [if_neg h1] at e
    have h2 : q = p := by omega
    rw [if_pos h2] at e; cases e
    rw [List.getElem?_append_right (by simp; omega), h2, hpn]; simp [vint]
 rcases s.blk i _ hi with ⟨h6, h7, h8⟩ | ⟨h6, h7, a0, h8⟩ | ⟨h6, b, cap, c, h8, h9, h10, h11, h12, h13, h14, h15, h16, h17⟩
 ·have h7' : ys = [] := by simpa using h7
  subst h7'
  exact fresh_end none 0 h8 (by simp) (by simp) (by simpa using hp) (fun _ => rfl) (fun a e => by cases e)
 ·have h7' : ys = [] := by simpa using h7
  subst h7'
  exact fresh_end (some a0) 0 h8 (by simp) (by simp) (by simpa using hp) (fun e => by cases e) (fun a e q v e' => by simp at e')
 ·rw [flatI] at h17
  rw [hsz, Nat.mul_one] at h13
  simp only [List.length_map] at h8 h11
  have hcell := fD h17
  have hcs : ∀ (q : Nat) v, (ys.map vint)[q]? = some v -> w.cell? ⟨b, 0 + q, none⟩ = some v := fun q v e => by
   rw [List.getElem?_map, Option.map_eq_some_iff] at e
   obtain ⟨z, e1, rfl⟩ := e
   rw [kD h10, Nat.zero_add]; exact hcell q z e1
  have hbo : blkOf β H i = some b := by simp [blkOf, hi, h8, anchor]; omega
  have hvb : vb ≠ b := fun e => hij (s.own i j b hbo (by rw [hjo, e]))
  by_cases hroom : ys.length + 1 <= cap
  ·have hsp : ∀ q, q < ys.length + 1 -> (w.cell? ⟨b, 0 + q, none⟩).isSome = true := fun q hq => by
    rw [kD h10, Nat.zero_add, Array.getElem?_eq_getElem (by omega)]; rfl
   have hfz : ∀ (q : Nat), w.frozen? ⟨b, q, none⟩ = false := fun q => by simp [World.frozen?, h10]
   by_cases hpn : p = ys.length
   ·rw [h8, j8, hpn]
    refine (Any2.slices_Insert_int_end_room L b 0 ys.length cap vb 0 1 vc [vint x] w (by omega) hroom (by simp only [maxLen] at h12; omega) rfl
     (fun q hq => by rw [Nat.zero_add, kD h10, Array.getElem?_eq_getElem (by omega)]; rfl) (fun q hq => hfz _) hvs h1v).mono ?_
    rintro e w' ⟨rfl, rfl⟩
    obtain ⟨c', g1, g2, g3⟩ := yI b [vint x] (0 + ys.length) w c h10 (by simp; omega)
    refine w9 s hi hp hsz hroom h12 (yU _ _ _ _) (fun k _ hne => yw _ _ _ _ _ (fun e => hne (by rw [hbo, e]))) (.inl hbo) g1 (by omega) ?_ hk
    intro q z e
    rw [vf hp] at e
    rw [g3]
    by_cases h1 : q < p
    ·rw [if_pos h1] at e
     rw [if_neg (by omega)]; exact hcell q z e
    ·rw [if_neg h1] at e
     by_cases h2 : q = p
     ·rw [if_pos h2] at e; cases e
      rw [if_pos (by simp; omega)]; rw [h2, hpn]; simp [vint]
     ·rw [if_neg h2] at e; have := (List.getElem?_eq_some_iff.1 e).1; omega
   ·rw [h8, j8]
    refine (Any2.slices_Insert_int_shift L b 0 ys.length cap p vb 0 1 vc (ys.map vint) [vint x] w (by omega) (by omega) hroom (by simp only [maxLen] at h12; omega) hvb hcsl rfl hcs hsp (fun q _ => hfz _) hvs h1c h1v
     (ρ.t 3) (ρ.t 3) cv.size c.size (by simp [World.shape?, j10]) (by simp [World.shape?, h10]) (by omega) (by simp [World.frozen?, j10]) (by simp [World.frozen?, j10])).mono ?_
    rintro e w' ⟨rfl, rfl⟩
    obtain ⟨c1, f1, f2, f3⟩ := yI b ((ys.map vint).drop p) (0 + (p + 1)) w.drew c h10 (by simp; omega)
    obtain ⟨c', g1, g2, g3⟩ := yI b [vint x] (0 + p) _ c1 f1 (by simp; omega)
    refine w9 (w' := (w.drew.setCells b (0 + (p + 1)) ((ys.map vint).drop p)).setCells b (0 + p) [vint x]) s hi hp hsz hroom h12 ((yU _ _ _ _).trans ((yU _ _ _ _).trans rfl)) (fun k _ hne => (yw _ _ _ _ _ (fun e => hne (by rw [hbo, e]))).trans (yw _ _ _ _ _ (fun e => hne (by rw [hbo, e])))) (.inl hbo) g1 (by omega) ?_ hk
    intro q z e
    rw [vf hp] at e
    rw [g3]
    by_cases h1 : q < p
    ·rw [if_pos h1] at e
     rw [if_neg (by omega), f3, if_neg (by omega)]; exact hcell q z e
    ·rw [if_neg h1] at e
     by_cases h2 : q = p
     ·rw [if_pos h2] at e; cases e
      rw [if_pos (by simp; omega)]; rw [h2]; simp [vint]
     ·rw [if_neg h2] at e
      have h3 := (List.getElem?_eq_some_iff.1 e).1
      rw [if_neg (by simp; omega), f3, if_pos (by simp; omega), List.getElem?_drop, List.getElem?_map, show p + (q - (0 + (p + 1))) = q - 1 by omega, e]; rfl
  ·by_cases hpn : p = ys.length
   ·exact fresh_end (some ⟨b, 0, none⟩) cap h8 h11 (by omega) hpn (fun e => by cases e) (fun a e q v e' => by cases e; have := hcs q v e'; rw [yY]; exact this)
   ·rw [h8, j8]
    refine (Any2.slices_Insert_int_grow L b 0 ys.length cap p vb 0 1 vc (ys.map vint) [vint x] w (by omega) (by omega) h11 (by omega) (by omega) hcsl rfl hcs hvs h1c h1v).mono ?_
    rintro e w' ⟨rfl, rfl⟩
    obtain ⟨R, hR⟩ : ∃ R : Array Value, R = (((ys.map vint).take p).toArray ++ Builtin.zeroCells (Value.int .i64 0).cells (ys.length + 1 - p) ++ Builtin.zeroCells (Value.int .i64 0).cells (grownCap w (ys.length + 1) cap (ρ.t 3) - (ys.length + 1))) := ⟨_, rfl⟩
    have hRs : R.size = grownCap w (ys.length + 1) cap (ρ.t 3) := by
     rw [hR]; simp only [Array.size_append, List.size_toArray, List.length_take, List.length_map, hzc]; have := hge cap; omega
    rw [<- hR]
    have hgc := hge cap
    have f0 : (w.alloc (.cells R (ρ.t 3))).drew.heap[w.heap.size]? = some (.cells R (ρ.t 3) (0, 0)) := heap_alloc_new w _
    obtain ⟨c1, f1, f2, f3⟩ := yI w.heap.size [vint x] p _ R f0 (by simp; omega)
    have f1' : ((w.alloc (.cells R (ρ.t 3))).drew.setCells w.heap.size p [vint x]).drew.heap[w.heap.size]? = some (.cells c1 (ρ.t 3) (0, 0)) := f1
    obtain ⟨c', g1, g2, g3⟩ := yI w.heap.size ((ys.map vint).drop p) (p + 1) _ c1 f1' (by simp; omega)
    refine w9 (w' := ((w.alloc (.cells R (ρ.t 3))).drew.setCells w.heap.size p [vint x]).drew.setCells w.heap.size (p + 1) ((ys.map vint).drop p)) s hi hp hsz (hge cap) (hle cap) ((yU _ _ _ _).trans ((yU _ _ _ _).trans rfl)) (fun k hk _ => (yw _ _ _ _ _ (by omega)).trans ((yw _ _ _ _ _ (by omega)).trans (Below.heap_alloc w _ _ hk))) (.inr (Nat.le_refl _)) g1 (by omega) ?_ hk
    intro q z e
    rw [vf hp] at e
    rw [g3]
    by_cases h1 : q < p
    ·rw [if_pos h1] at e
     rw [if_neg (by omega), f3, if_neg (by omega), hR, Array.getElem?_append_left (by simp [hzc]; omega), Array.getElem?_append_left (by simp; omega), List.getElem?_toArray, List.getElem?_take, if_pos h1, List.getElem?_map, e]; rfl
    ·rw [if_neg h1] at e
     by_cases h2 : q = p
     ·rw [if_pos h2] at e; cases e
      rw [if_neg (by omega), f3, if_pos (by simp; omega)]; rw [h2]; simp [vint]
     ·rw [if_neg h2] at e
      have h3 := (List.getElem?_eq_some_iff.1 e).1
      rw [if_pos (by simp; omega), List.getElem?_drop, List.getElem?_map, show p + (q - (p + 1)) = q - 1 by omega, e]; rfl
theorem yP.row {es : List (Int × AV)} {n : Int} {k : AV -> Prop} (i : Nat) {te : TypeId} {nl : Bool} {els : List AV} (hi : lget H i = some (.grow te nl els)) (hnl : nl = els.isEmpty) (he : mget n es = if els.isEmpty = true then none else some (.gr i els.length)) (h : k (.gr i els.length)) : yP H (.sl true []) false n es k := by
 rw [zu] at hi
 cases els with
 | nil => subst hnl; exact ⟨.inr ⟨rfl, rfl, he, i, te, hi, h⟩⟩
 | cons e els => exact ⟨.inl (by rw [he]; exact h)⟩
theorem Walk.nilrow {N : Nat} {r : Option Nat} {c : Code} {Q : Post} {D : List Nat} {σ : St} (te : TypeId) (x : Walk P N r c Q D σ (H ++ [.grow te true []])) : Walk P N r c Q D σ H := by
 constructor
 intro E h β a w s
 obtain ⟨s', X⟩ := s.sr.push (w' := w) s.sr.env (fun _ _ => rfl) (.slice none 0 0) (.grow te true []) (by intro b hb; simp [anchor] at hb) (fun _ => .inl ⟨rfl, rfl, by simp [upb]⟩)
 exact wpIn_mono (x.o E h _ a w ⟨s', fun u r e => let ⟨v, h1, h2⟩ := s.fits u r e; ⟨v, h1, X.rep h2⟩, s.size, s.df.ext X⟩) fun _ _ _ => Conc.ext X
end
end GA
end
