/- Part 3 of a proof: Tab, Abs19, Abs20, Abs21, Abs22, Abs23, Abs24, Abs25, Abs26, Abs27, Abs28, Abs29, Abs30. -/
import Derived.Test.YtinbgkoefajhbaaP2
import Derived.Test.YtinbgkoefajhbaaProg
import Derived.KernelRfl
import Derived.OrdersIn
import Derived.WalkKit
import Derived.ProofKit
import Derived.OpenShut
import Derived.ChangeArms
import Derived.WideKeyArgs
import Derived.Deep.Slices
section
namespace GA
open Go Go.Proofs
set_option maxRecDepth 100000
@[irreducible] def rep (n : Nat) (x : AV) : List AV := List.replicate n x
def te1 : TE := ⟨false, 1, some (.nilf), .oth, none⟩
theorem te1_ok : TeOk Try.prog 1 te1 := ⟨by kernel_rfl, by kernel_rfl, (fun _ => zsome (by kernel_rfl)), trivial, fun _ => qnone⟩
def te2 : TE := ⟨false, 1, some (.int .i64 0), .int .i64, none⟩
theorem te2_ok : TeOk Try.prog 2 te2 := ⟨by kernel_rfl, by kernel_rfl, (fun _ => zsome (by kernel_rfl)), show Try.prog.underlying 2 = some (.int .i64) by kernel_rfl, fun _ => qnone⟩
def te3 : TE := ⟨false, 1, some (.int .i64 0), .int .i64, none⟩
theorem te3_ok : TeOk Try.prog 3 te3 := ⟨by kernel_rfl, by kernel_rfl, (fun _ => zsome (by kernel_rfl)), show Try.prog.underlying 3 = some (.int .i64) by kernel_rfl, fun _ => qnone⟩
def te4 : TE := ⟨false, 1, some (.bool false), .bool, none⟩
theorem te4_ok : TeOk Try.prog 4 te4 := ⟨by kernel_rfl, by kernel_rfl, (fun _ => zsome (by kernel_rfl)), show isBoolT _ _ by (unfold isBoolT; kernel_rfl), fun _ => qnone⟩
def te5 : TE := ⟨false, 1, some (.int .u8 0), .int .u8, none⟩
theorem te5_ok : TeOk Try.prog 5 te5 := ⟨by kernel_rfl, by kernel_rfl, (fun _ => zsome (by kernel_rfl)), show Try.prog.underlying 5 = some (.int .u8) by kernel_rfl, fun _ => qnone⟩
def te7 : TE := ⟨true, 4, some (.agg [.int .i64 0, .int .i64 0, .bool false, .int .u8 0]), .st [(0, false, 1), (1, false, 1), (2, false, 1), (3, false, 1)], none⟩
theorem te7_ok : TeOk Try.prog 7 te7 := .st (by kernel_rfl) (by kernel_rfl) (fun _ => zsome (by kernel_rfl)) (by kernel_rfl) ⟨by kernel_rfl, by kernel_rfl, by kernel_rfl, by kernel_rfl, trivial⟩ (by kernel_rfl) (fun _ => qnone)
def te12 : TE := ⟨false, 1, some (.int .u64 0), .int .u64, none⟩
theorem te12_ok : TeOk Try.prog 12 te12 := ⟨by kernel_rfl, by kernel_rfl, (fun _ => zsome (by kernel_rfl)), show Try.prog.underlying 12 = some (.int .u64) by kernel_rfl, fun _ => qnone⟩
def te13 : TE := ⟨true, 2, none, .st [(0, false, 1), (1, false, 1)], none⟩
theorem te13_ok : TeOk Try.prog 13 te13 := .st (by kernel_rfl) (by kernel_rfl) (fun _ => znone) (by kernel_rfl) ⟨by kernel_rfl, by kernel_rfl, trivial⟩ (by kernel_rfl) (fun _ => qnone)
def te18 : TE := ⟨true, 1, some (.agg [.nilp]), .st [(0, false, 1)], none⟩
theorem te18_ok : TeOk Try.prog 18 te18 := .st (by kernel_rfl) (by kernel_rfl) (fun _ => zsome (by kernel_rfl)) (by kernel_rfl) ⟨by kernel_rfl, trivial⟩ (by kernel_rfl) (fun _ => qnone)
def te21 : TE := ⟨false, 1, some (.int .i32 0), .int .i32, none⟩
theorem te21_ok : TeOk Try.prog 21 te21 := ⟨by kernel_rfl, by kernel_rfl, (fun _ => zsome (by kernel_rfl)), show Try.prog.underlying 21 = some (.int .i32) by kernel_rfl, fun _ => qnone⟩
def te22 : TE := ⟨false, 1, some (.sl true []), .sl 5 1 1 (.int .u8 0), none⟩
theorem te22_ok : TeOk Try.prog 22 te22 := ⟨by kernel_rfl, by kernel_rfl, (fun _ => zsome (by kernel_rfl)), ⟨by kernel_rfl, by kernel_rfl, ⟨5, by kernel_rfl⟩, by kernel_rfl⟩, fun _ => qnone⟩
def te23 : TE := ⟨false, 1, some (.sl true []), .sl 56 3 24 (.agg [.int .i64 0, .int .i64 0, .int .i64 0]), none⟩
theorem te23_ok : TeOk Try.prog 23 te23 := ⟨by kernel_rfl, by kernel_rfl, (fun _ => zsome (by kernel_rfl)), ⟨by kernel_rfl, by kernel_rfl, ⟨56, by kernel_rfl⟩, by kernel_rfl⟩, fun _ => qnone⟩
def te24 : TE := ⟨false, 1, some (.sl true []), .sl 43 1 24 (.sl true []), none⟩
theorem te24_ok : TeOk Try.prog 24 te24 := ⟨by kernel_rfl, by kernel_rfl, (fun _ => zsome (by kernel_rfl)), ⟨by kernel_rfl, by kernel_rfl, ⟨43, by kernel_rfl⟩, by kernel_rfl⟩, fun _ => qnone⟩
def te25 : TE := ⟨false, 1, some (.sl true []), .sl 37 1 24 (.agg [.sl true []]), none⟩
theorem te25_ok : TeOk Try.prog 25 te25 := ⟨by kernel_rfl, by kernel_rfl, (fun _ => zsome (by kernel_rfl)), ⟨by kernel_rfl, by kernel_rfl, ⟨37, by kernel_rfl⟩, by kernel_rfl⟩, fun _ => qnone⟩
def te26 : TE := ⟨true, 7, some (.agg [.int .i64 0, .int .i64 0, .int .i64 0, .int .i64 0, .sl true [], .sl true [], .sl true []]), .st [(0, false, 1), (1, false, 1), (2, false, 1), (3, false, 1), (4, false, 1), (5, false, 1), (6, false, 1)], none⟩
theorem te26_ok : TeOk Try.prog 26 te26 := .st (by kernel_rfl) (by kernel_rfl) (fun _ => zsome (by kernel_rfl)) (by kernel_rfl) ⟨by kernel_rfl, by kernel_rfl, by kernel_rfl, by kernel_rfl, by kernel_rfl, by kernel_rfl, by kernel_rfl, trivial⟩ (by kernel_rfl) (fun _ => qnone)
def te27 : TE := ⟨true, 7, some (.agg [.int .i64 0, .int .i64 0, .int .i64 0, .int .i64 0, .sl true [], .sl true [], .sl true []]), .st [(0, false, 1), (1, false, 1), (2, false, 1), (3, false, 1), (4, false, 1), (5, false, 1), (6, false, 1)], none⟩
theorem te27_ok : TeOk Try.prog 27 te27 := .st (by kernel_rfl) (by kernel_rfl) (fun _ => zsome (by kernel_rfl)) (by kernel_rfl) ⟨by kernel_rfl, by kernel_rfl, by kernel_rfl, by kernel_rfl, by kernel_rfl, by kernel_rfl, by kernel_rfl, trivial⟩ (by kernel_rfl) (fun _ => qnone)
def te28 : TE := ⟨false, 1, some (.nilf), .oth, none⟩
theorem te28_ok : TeOk Try.prog 28 te28 := ⟨by kernel_rfl, by kernel_rfl, (fun _ => zsome (by kernel_rfl)), trivial, fun _ => qnone⟩
def te29 : TE := ⟨false, 1, some (.nilp), .oth, none⟩
theorem te29_ok : TeOk Try.prog 29 te29 := ⟨by kernel_rfl, by kernel_rfl, (fun _ => zsome (by kernel_rfl)), trivial, fun _ => qnone⟩
def te30 : TE := ⟨false, 1, some (.nilf), .oth, none⟩
theorem te30_ok : TeOk Try.prog 30 te30 := ⟨by kernel_rfl, by kernel_rfl, (fun _ => zsome (by kernel_rfl)), trivial, fun _ => qnone⟩
def te31 : TE := ⟨false, 1, some (.nilf), .oth, none⟩
theorem te31_ok : TeOk Try.prog 31 te31 := ⟨by kernel_rfl, by kernel_rfl, (fun _ => zsome (by kernel_rfl)), trivial, fun _ => qnone⟩
def te32 : TE := ⟨true, 2, some (.agg [.int .i64 0, .int .i64 0]), .st [(0, false, 1), (1, false, 1)], some 2⟩
theorem te32_ok : TeOk Try.prog 32 te32 := .st (by kernel_rfl) (by kernel_rfl) (fun _ => zsome (by kernel_rfl)) (by kernel_rfl) ⟨by kernel_rfl, by kernel_rfl, trivial⟩ (by kernel_rfl) (fun _ => qsome (by kernel_rfl))
def te33 : TE := ⟨true, 2, some (.agg [.int .i64 0, .int .i64 0]), .st [(0, false, 1), (1, false, 1)], some 2⟩
theorem te33_ok : TeOk Try.prog 33 te33 := .st (by kernel_rfl) (by kernel_rfl) (fun _ => zsome (by kernel_rfl)) (by kernel_rfl) ⟨by kernel_rfl, by kernel_rfl, trivial⟩ (by kernel_rfl) (fun _ => qsome (by kernel_rfl))
def te34 : TE := ⟨false, 1, some (.sl true []), .sl 33 2 16 (.agg [.int .i64 0, .int .i64 0]), none⟩
theorem te34_ok : TeOk Try.prog 34 te34 := ⟨by kernel_rfl, by kernel_rfl, (fun _ => zsome (by kernel_rfl)), ⟨by kernel_rfl, by kernel_rfl, ⟨33, by kernel_rfl⟩, by kernel_rfl⟩, fun _ => qnone⟩
def te35 : TE := ⟨false, 1, some (.sl true []), .sl 34 1 24 (.sl true []), none⟩
theorem te35_ok : TeOk Try.prog 35 te35 := ⟨by kernel_rfl, by kernel_rfl, (fun _ => zsome (by kernel_rfl)), ⟨by kernel_rfl, by kernel_rfl, ⟨34, by kernel_rfl⟩, by kernel_rfl⟩, fun _ => qnone⟩
def te36 : TE := ⟨true, 1, some (.agg [.sl true []]), .st [(0, false, 1)], none⟩
theorem te36_ok : TeOk Try.prog 36 te36 := .st (by kernel_rfl) (by kernel_rfl) (fun _ => zsome (by kernel_rfl)) (by kernel_rfl) ⟨by kernel_rfl, trivial⟩ (by kernel_rfl) (fun _ => qnone)
def te37 : TE := ⟨true, 1, some (.agg [.sl true []]), .st [(0, false, 1)], none⟩
theorem te37_ok : TeOk Try.prog 37 te37 := .st (by kernel_rfl) (by kernel_rfl) (fun _ => zsome (by kernel_rfl)) (by kernel_rfl) ⟨by kernel_rfl, trivial⟩ (by kernel_rfl) (fun _ => qnone)
def te38 : TE := ⟨false, 1, some (.sl true []), .sl 24 1 24 (.sl true []), none⟩
theorem te38_ok : TeOk Try.prog 38 te38 := ⟨by kernel_rfl, by kernel_rfl, (fun _ => zsome (by kernel_rfl)), ⟨by kernel_rfl, by kernel_rfl, ⟨24, by kernel_rfl⟩, by kernel_rfl⟩, fun _ => qnone⟩
def te39 : TE := ⟨false, 1, some (.sl true []), .sl 24 1 24 (.sl true []), none⟩
theorem te39_ok : TeOk Try.prog 39 te39 := ⟨by kernel_rfl, by kernel_rfl, (fun _ => zsome (by kernel_rfl)), ⟨by kernel_rfl, by kernel_rfl, ⟨24, by kernel_rfl⟩, by kernel_rfl⟩, fun _ => qnone⟩
def te40 : TE := ⟨false, 1, some (.int .i64 0), .int .i64, none⟩
theorem te40_ok : TeOk Try.prog 40 te40 := ⟨by kernel_rfl, by kernel_rfl, (fun _ => zsome (by kernel_rfl)), show Try.prog.underlying 40 = some (.int .i64) by kernel_rfl, fun _ => qnone⟩
def te42 : TE := ⟨false, 1, some (.nilf), .oth, none⟩
theorem te42_ok : TeOk Try.prog 42 te42 := ⟨by kernel_rfl, by kernel_rfl, (fun _ => zsome (by kernel_rfl)), trivial, fun _ => qnone⟩
def te43 : TE := ⟨false, 1, some (.sl true []), .sl 3 1 8 (.int .i64 0), none⟩
theorem te43_ok : TeOk Try.prog 43 te43 := ⟨by kernel_rfl, by kernel_rfl, (fun _ => zsome (by kernel_rfl)), ⟨by kernel_rfl, by kernel_rfl, ⟨3, by kernel_rfl⟩, by kernel_rfl⟩, fun _ => qnone⟩
def te45 : TE := ⟨false, 1, some (.nilf), .oth, none⟩
theorem te45_ok : TeOk Try.prog 45 te45 := ⟨by kernel_rfl, by kernel_rfl, (fun _ => zsome (by kernel_rfl)), trivial, fun _ => qnone⟩
def te46 : TE := ⟨false, 1, some (.nilf), .oth, none⟩
theorem te46_ok : TeOk Try.prog 46 te46 := ⟨by kernel_rfl, by kernel_rfl, (fun _ => zsome (by kernel_rfl)), trivial, fun _ => qnone⟩
def te47 : TE := ⟨false, 1, some (.nilf), .oth, none⟩
theorem te47_ok : TeOk Try.prog 47 te47 := ⟨by kernel_rfl, by kernel_rfl, (fun _ => zsome (by kernel_rfl)), trivial, fun _ => qnone⟩
def te48 : TE := ⟨false, 1, some (.nilf), .oth, none⟩
theorem te48_ok : TeOk Try.prog 48 te48 := ⟨by kernel_rfl, by kernel_rfl, (fun _ => zsome (by kernel_rfl)), trivial, fun _ => qnone⟩
def te49 : TE := ⟨false, 1, some (.nilf), .oth, none⟩
theorem te49_ok : TeOk Try.prog 49 te49 := ⟨by kernel_rfl, by kernel_rfl, (fun _ => zsome (by kernel_rfl)), trivial, fun _ => qnone⟩
def te50 : TE := ⟨false, 1, some (.nilf), .oth, none⟩
theorem te50_ok : TeOk Try.prog 50 te50 := ⟨by kernel_rfl, by kernel_rfl, (fun _ => zsome (by kernel_rfl)), trivial, fun _ => qnone⟩
def te51 : TE := ⟨false, 1, some (.nilf), .oth, none⟩
theorem te51_ok : TeOk Try.prog 51 te51 := ⟨by kernel_rfl, by kernel_rfl, (fun _ => zsome (by kernel_rfl)), trivial, fun _ => qnone⟩
def te53 : TE := ⟨false, 1, some (.nilf), .oth, none⟩
theorem te53_ok : TeOk Try.prog 53 te53 := ⟨by kernel_rfl, by kernel_rfl, (fun _ => zsome (by kernel_rfl)), trivial, fun _ => qnone⟩
def te54 : TE := ⟨false, 1, some (.nilf), .oth, none⟩
theorem te54_ok : TeOk Try.prog 54 te54 := ⟨by kernel_rfl, by kernel_rfl, (fun _ => zsome (by kernel_rfl)), trivial, fun _ => qnone⟩
def te55 : TE := ⟨false, 1, some (.nilf), .oth, none⟩
theorem te55_ok : TeOk Try.prog 55 te55 := ⟨by kernel_rfl, by kernel_rfl, (fun _ => zsome (by kernel_rfl)), trivial, fun _ => qnone⟩
def te56 : TE := ⟨true, 3, some (.agg [.int .i64 0, .int .i64 0, .int .i64 0]), .ar 3 false 1, some 3⟩
theorem te56_ok : TeOk Try.prog 56 te56 := .ar (by kernel_rfl) (by kernel_rfl) (fun _ => zsome (by kernel_rfl)) (el := 3) (by kernel_rfl) (by kernel_rfl) (by kernel_rfl) (fun _ => qsome (by kernel_rfl))
def te57 : TE := ⟨false, 1, some (.nilf), .oth, none⟩
theorem te57_ok : TeOk Try.prog 57 te57 := ⟨by kernel_rfl, by kernel_rfl, (fun _ => zsome (by kernel_rfl)), trivial, fun _ => qnone⟩
def te58 : TE := ⟨false, 1, some (.nilf), .oth, none⟩
theorem te58_ok : TeOk Try.prog 58 te58 := ⟨by kernel_rfl, by kernel_rfl, (fun _ => zsome (by kernel_rfl)), trivial, fun _ => qnone⟩
def te59 : TE := ⟨true, 3, some (.agg [.int .i64 0, .int .i64 0, .int .i64 0]), .st [(0, false, 1), (1, false, 1), (2, false, 1)], some 3⟩
theorem te59_ok : TeOk Try.prog 59 te59 := .st (by kernel_rfl) (by kernel_rfl) (fun _ => zsome (by kernel_rfl)) (by kernel_rfl) ⟨by kernel_rfl, by kernel_rfl, by kernel_rfl, trivial⟩ (by kernel_rfl) (fun _ => qsome (by kernel_rfl))
def te60 : TE := ⟨true, 3, some (.agg [.int .i64 0, .int .i64 0, .int .i64 0]), .st [(0, false, 1), (1, false, 1), (2, false, 1)], some 3⟩
theorem te60_ok : TeOk Try.prog 60 te60 := .st (by kernel_rfl) (by kernel_rfl) (fun _ => zsome (by kernel_rfl)) (by kernel_rfl) ⟨by kernel_rfl, by kernel_rfl, by kernel_rfl, trivial⟩ (by kernel_rfl) (fun _ => qsome (by kernel_rfl))
def te61 : TE := ⟨false, 1, some (.nilf), .oth, none⟩
theorem te61_ok : TeOk Try.prog 61 te61 := ⟨by kernel_rfl, by kernel_rfl, (fun _ => zsome (by kernel_rfl)), trivial, fun _ => qnone⟩
def te62 : TE := ⟨false, 1, some (.sl true []), .sl 74 2 16 (.agg [.int .i64 0, .int .i64 0]), none⟩
theorem te62_ok : TeOk Try.prog 62 te62 := ⟨by kernel_rfl, by kernel_rfl, (fun _ => zsome (by kernel_rfl)), ⟨by kernel_rfl, by kernel_rfl, ⟨74, by kernel_rfl⟩, by kernel_rfl⟩, fun _ => qnone⟩
def te63 : TE := ⟨false, 1, some (.sl true []), .sl 76 2 16 (.agg [.int .i64 0, .int .i64 0]), none⟩
theorem te63_ok : TeOk Try.prog 63 te63 := ⟨by kernel_rfl, by kernel_rfl, (fun _ => zsome (by kernel_rfl)), ⟨by kernel_rfl, by kernel_rfl, ⟨76, by kernel_rfl⟩, by kernel_rfl⟩, fun _ => qnone⟩
def te64 : TE := ⟨true, 5, some (.agg [.int .i64 0, .int .i64 0, .sl true [], .sl true [], .sl true []]), .st [(0, false, 1), (1, false, 1), (2, false, 1), (3, false, 1), (4, false, 1)], none⟩
theorem te64_ok : TeOk Try.prog 64 te64 := .st (by kernel_rfl) (by kernel_rfl) (fun _ => zsome (by kernel_rfl)) (by kernel_rfl) ⟨by kernel_rfl, by kernel_rfl, by kernel_rfl, by kernel_rfl, by kernel_rfl, trivial⟩ (by kernel_rfl) (fun _ => qnone)
def te65 : TE := ⟨true, 5, some (.agg [.int .i64 0, .int .i64 0, .sl true [], .sl true [], .sl true []]), .st [(0, false, 1), (1, false, 1), (2, false, 1), (3, false, 1), (4, false, 1)], none⟩
theorem te65_ok : TeOk Try.prog 65 te65 := .st (by kernel_rfl) (by kernel_rfl) (fun _ => zsome (by kernel_rfl)) (by kernel_rfl) ⟨by kernel_rfl, by kernel_rfl, by kernel_rfl, by kernel_rfl, by kernel_rfl, trivial⟩ (by kernel_rfl) (fun _ => qnone)
def te66 : TE := ⟨false, 1, some (.nilf), .oth, none⟩
theorem te66_ok : TeOk Try.prog 66 te66 := ⟨by kernel_rfl, by kernel_rfl, (fun _ => zsome (by kernel_rfl)), trivial, fun _ => qnone⟩
def te67 : TE := ⟨false, 1, some (.nilf), .oth, none⟩
theorem te67_ok : TeOk Try.prog 67 te67 := ⟨by kernel_rfl, by kernel_rfl, (fun _ => zsome (by kernel_rfl)), trivial, fun _ => qnone⟩
def te69 : TE := ⟨false, 1, some (.nilf), .oth, none⟩
theorem te69_ok : TeOk Try.prog 69 te69 := ⟨by kernel_rfl, by kernel_rfl, (fun _ => zsome (by kernel_rfl)), trivial, fun _ => qnone⟩
def te70 : TE := ⟨false, 1, some (.nilf), .oth, none⟩
theorem te70_ok : TeOk Try.prog 70 te70 := ⟨by kernel_rfl, by kernel_rfl, (fun _ => zsome (by kernel_rfl)), trivial, fun _ => qnone⟩
def te71 : TE := ⟨false, 1, some (.nilf), .oth, none⟩
theorem te71_ok : TeOk Try.prog 71 te71 := ⟨by kernel_rfl, by kernel_rfl, (fun _ => zsome (by kernel_rfl)), trivial, fun _ => qnone⟩
def te72 : TE := ⟨false, 1, some (.nilm), .mp (.int .i64 0), none⟩
theorem te72_ok : TeOk Try.prog 72 te72 := ⟨by kernel_rfl, by kernel_rfl, (fun _ => zsome (by kernel_rfl)), show mapT Try.prog 72 = some (.int .i64 0) by kernel_rfl, fun _ => qnone⟩
def te73 : TE := ⟨true, 2, some (.agg [.int .i64 0, .int .i64 0]), .st [(0, false, 1), (1, false, 1)], some 2⟩
theorem te73_ok : TeOk Try.prog 73 te73 := .st (by kernel_rfl) (by kernel_rfl) (fun _ => zsome (by kernel_rfl)) (by kernel_rfl) ⟨by kernel_rfl, by kernel_rfl, trivial⟩ (by kernel_rfl) (fun _ => qsome (by kernel_rfl))
def te74 : TE := ⟨true, 2, some (.agg [.int .i64 0, .int .i64 0]), .st [(0, false, 1), (1, false, 1)], some 2⟩
theorem te74_ok : TeOk Try.prog 74 te74 := .st (by kernel_rfl) (by kernel_rfl) (fun _ => zsome (by kernel_rfl)) (by kernel_rfl) ⟨by kernel_rfl, by kernel_rfl, trivial⟩ (by kernel_rfl) (fun _ => qsome (by kernel_rfl))
def te75 : TE := ⟨false, 1, some (.sl true []), .sl 63 1 24 (.sl true []), none⟩
theorem te75_ok : TeOk Try.prog 75 te75 := ⟨by kernel_rfl, by kernel_rfl, (fun _ => zsome (by kernel_rfl)), ⟨by kernel_rfl, by kernel_rfl, ⟨63, by kernel_rfl⟩, by kernel_rfl⟩, fun _ => qnone⟩
def te76 : TE := ⟨true, 2, some (.agg [.int .i64 0, .int .i64 0]), .ar 2 false 1, some 2⟩
theorem te76_ok : TeOk Try.prog 76 te76 := .ar (by kernel_rfl) (by kernel_rfl) (fun _ => zsome (by kernel_rfl)) (el := 3) (by kernel_rfl) (by kernel_rfl) (by kernel_rfl) (fun _ => qsome (by kernel_rfl))
def te78 : TE := ⟨false, 1, some (.sl true []), .sl 4 1 1 (.bool false), none⟩
theorem te78_ok : TeOk Try.prog 78 te78 := ⟨by kernel_rfl, by kernel_rfl, (fun _ => zsome (by kernel_rfl)), ⟨by kernel_rfl, by kernel_rfl, ⟨4, by kernel_rfl⟩, by kernel_rfl⟩, fun _ => qnone⟩
def te79 : TE := ⟨false, 1, some (.nilf), .oth, none⟩
theorem te79_ok : TeOk Try.prog 79 te79 := ⟨by kernel_rfl, by kernel_rfl, (fun _ => zsome (by kernel_rfl)), trivial, fun _ => qnone⟩
def te80 : TE := ⟨false, 1, some (.nilf), .oth, none⟩
theorem te80_ok : TeOk Try.prog 80 te80 := ⟨by kernel_rfl, by kernel_rfl, (fun _ => zsome (by kernel_rfl)), trivial, fun _ => qnone⟩
def te81 : TE := ⟨false, 1, some (.nilf), .oth, none⟩
theorem te81_ok : TeOk Try.prog 81 te81 := ⟨by kernel_rfl, by kernel_rfl, (fun _ => zsome (by kernel_rfl)), trivial, fun _ => qnone⟩
def te82 : TE := ⟨false, 1, some (.nilf), .oth, none⟩
theorem te82_ok : TeOk Try.prog 82 te82 := ⟨by kernel_rfl, by kernel_rfl, (fun _ => zsome (by kernel_rfl)), trivial, fun _ => qnone⟩
def te83 : TE := ⟨false, 1, some (.nilf), .oth, none⟩
theorem te83_ok : TeOk Try.prog 83 te83 := ⟨by kernel_rfl, by kernel_rfl, (fun _ => zsome (by kernel_rfl)), trivial, fun _ => qnone⟩
def te84 : TE := ⟨false, 1, some (.int .u32 0), .int .u32, none⟩
theorem te84_ok : TeOk Try.prog 84 te84 := ⟨by kernel_rfl, by kernel_rfl, (fun _ => zsome (by kernel_rfl)), show Try.prog.underlying 84 = some (.int .u32) by kernel_rfl, fun _ => qnone⟩
def te85 : TE := ⟨true, 3, some (.agg [.sl true [], .int .i64 0, .int .u32 0]), .st [(0, false, 1), (1, false, 1), (2, false, 1)], none⟩
theorem te85_ok : TeOk Try.prog 85 te85 := .st (by kernel_rfl) (by kernel_rfl) (fun _ => zsome (by kernel_rfl)) (by kernel_rfl) ⟨by kernel_rfl, by kernel_rfl, by kernel_rfl, trivial⟩ (by kernel_rfl) (fun _ => qnone)
def te86 : TE := ⟨true, 3, some (.agg [.sl true [], .int .i64 0, .int .u32 0]), .st [(0, false, 1), (1, false, 1), (2, false, 1)], none⟩
theorem te86_ok : TeOk Try.prog 86 te86 := .st (by kernel_rfl) (by kernel_rfl) (fun _ => zsome (by kernel_rfl)) (by kernel_rfl) ⟨by kernel_rfl, by kernel_rfl, by kernel_rfl, trivial⟩ (by kernel_rfl) (fun _ => qnone)
def te87 : TE := ⟨false, 1, some (.nilf), .oth, none⟩
theorem te87_ok : TeOk Try.prog 87 te87 := ⟨by kernel_rfl, by kernel_rfl, (fun _ => zsome (by kernel_rfl)), trivial, fun _ => qnone⟩
def te88 : TE := ⟨false, 1, some (.nilf), .oth, none⟩
theorem te88_ok : TeOk Try.prog 88 te88 := ⟨by kernel_rfl, by kernel_rfl, (fun _ => zsome (by kernel_rfl)), trivial, fun _ => qnone⟩
def te89 : TE := ⟨false, 1, some (.nilf), .oth, none⟩
theorem te89_ok : TeOk Try.prog 89 te89 := ⟨by kernel_rfl, by kernel_rfl, (fun _ => zsome (by kernel_rfl)), trivial, fun _ => qnone⟩
def te90 : TE := ⟨false, 1, some (.nilp), .oth, none⟩
theorem te90_ok : TeOk Try.prog 90 te90 := ⟨by kernel_rfl, by kernel_rfl, (fun _ => zsome (by kernel_rfl)), trivial, fun _ => qnone⟩
def te92 : TE := ⟨false, 1, some (.nilf), .oth, none⟩
theorem te92_ok : TeOk Try.prog 92 te92 := ⟨by kernel_rfl, by kernel_rfl, (fun _ => zsome (by kernel_rfl)), trivial, fun _ => qnone⟩
def te93 : TE := ⟨false, 1, some (.nilp), .oth, none⟩
theorem te93_ok : TeOk Try.prog 93 te93 := ⟨by kernel_rfl, by kernel_rfl, (fun _ => zsome (by kernel_rfl)), trivial, fun _ => qnone⟩
def te94 : TE := ⟨false, 1, some (.nilf), .oth, none⟩
theorem te94_ok : TeOk Try.prog 94 te94 := ⟨by kernel_rfl, by kernel_rfl, (fun _ => zsome (by kernel_rfl)), trivial, fun _ => qnone⟩
def te95 : TE := ⟨false, 1, some (.nilf), .oth, none⟩
theorem te95_ok : TeOk Try.prog 95 te95 := ⟨by kernel_rfl, by kernel_rfl, (fun _ => zsome (by kernel_rfl)), trivial, fun _ => qnone⟩
def te96 : TE := ⟨true, 16, some (.agg [.int .i64 0, .int .i64 0, .int .i64 0, .int .i64 0, .int .i64 0, .int .i64 0, .int .i64 0, .int .i64 0, .int .i64 0, .int .i64 0, .int .i64 0, .int .i64 0, .int .i64 0, .int .i64 0, .int .i64 0, .int .i64 0]), .ar 16 false 1, some 16⟩
theorem te96_ok : TeOk Try.prog 96 te96 := .ar (by kernel_rfl) (by kernel_rfl) (fun _ => zsome (by kernel_rfl)) (el := 3) (by kernel_rfl) (by kernel_rfl) (by kernel_rfl) (fun _ => qsome (by kernel_rfl))
def te97 : TE := ⟨true, 976, some (.agg (rep 976 (.int .i64 0))), .ar 61 true 16, none⟩
theorem te97_ok : TeOk Try.prog 97 te97 := .ar (by kernel_rfl) (by kernel_rfl) (fun _ => zsome (by kernel_rfl)) (el := 96) (by kernel_rfl) (by kernel_rfl) (by kernel_rfl) (fun _ => qnone)
def te98 : TE := ⟨false, 1, some (.nilf), .oth, none⟩
theorem te98_ok : TeOk Try.prog 98 te98 := ⟨by kernel_rfl, by kernel_rfl, (fun _ => zsome (by kernel_rfl)), trivial, fun _ => qnone⟩
def te99 : TE := ⟨false, 1, some (.nilf), .oth, none⟩
theorem te99_ok : TeOk Try.prog 99 te99 := ⟨by kernel_rfl, by kernel_rfl, (fun _ => zsome (by kernel_rfl)), trivial, fun _ => qnone⟩
def te100 : TE := ⟨false, 1, some (.nilf), .oth, none⟩
theorem te100_ok : TeOk Try.prog 100 te100 := ⟨by kernel_rfl, by kernel_rfl, (fun _ => zsome (by kernel_rfl)), trivial, fun _ => qnone⟩
def te101 : TE := ⟨false, 1, some (.nilf), .oth, none⟩
theorem te101_ok : TeOk Try.prog 101 te101 := ⟨by kernel_rfl, by kernel_rfl, (fun _ => zsome (by kernel_rfl)), trivial, fun _ => qnone⟩
def te102 : TE := ⟨false, 1, some (.sl true []), .sl 108 2 16 (.agg [.int .i64 0, .int .i64 0]), none⟩
theorem te102_ok : TeOk Try.prog 102 te102 := ⟨by kernel_rfl, by kernel_rfl, (fun _ => zsome (by kernel_rfl)), ⟨by kernel_rfl, by kernel_rfl, ⟨108, by kernel_rfl⟩, by kernel_rfl⟩, fun _ => qnone⟩
def te104 : TE := ⟨false, 1, some (.nilf), .oth, none⟩
theorem te104_ok : TeOk Try.prog 104 te104 := ⟨by kernel_rfl, by kernel_rfl, (fun _ => zsome (by kernel_rfl)), trivial, fun _ => qnone⟩
def te106 : TE := ⟨false, 1, some (.nilf), .oth, none⟩
theorem te106_ok : TeOk Try.prog 106 te106 := ⟨by kernel_rfl, by kernel_rfl, (fun _ => zsome (by kernel_rfl)), trivial, fun _ => qnone⟩
def te107 : TE := ⟨true, 2, some (.agg [.int .i64 0, .int .i64 0]), .st [(0, false, 1), (1, false, 1)], some 2⟩
theorem te107_ok : TeOk Try.prog 107 te107 := .st (by kernel_rfl) (by kernel_rfl) (fun _ => zsome (by kernel_rfl)) (by kernel_rfl) ⟨by kernel_rfl, by kernel_rfl, trivial⟩ (by kernel_rfl) (fun _ => qsome (by kernel_rfl))
def te108 : TE := ⟨true, 2, some (.agg [.int .i64 0, .int .i64 0]), .st [(0, false, 1), (1, false, 1)], some 2⟩
theorem te108_ok : TeOk Try.prog 108 te108 := .st (by kernel_rfl) (by kernel_rfl) (fun _ => zsome (by kernel_rfl)) (by kernel_rfl) ⟨by kernel_rfl, by kernel_rfl, trivial⟩ (by kernel_rfl) (fun _ => qsome (by kernel_rfl))
def te109 : TE := ⟨false, 1, some (.nilf), .oth, none⟩
theorem te109_ok : TeOk Try.prog 109 te109 := ⟨by kernel_rfl, by kernel_rfl, (fun _ => zsome (by kernel_rfl)), trivial, fun _ => qnone⟩
def te110 : TE := ⟨false, 1, some (.nilf), .oth, none⟩
theorem te110_ok : TeOk Try.prog 110 te110 := ⟨by kernel_rfl, by kernel_rfl, (fun _ => zsome (by kernel_rfl)), trivial, fun _ => qnone⟩
def te111 : TE := ⟨false, 1, some (.nilf), .oth, none⟩
theorem te111_ok : TeOk Try.prog 111 te111 := ⟨by kernel_rfl, by kernel_rfl, (fun _ => zsome (by kernel_rfl)), trivial, fun _ => qnone⟩
def te112 : TE := ⟨false, 1, some (.nilf), .oth, none⟩
theorem te112_ok : TeOk Try.prog 112 te112 := ⟨by kernel_rfl, by kernel_rfl, (fun _ => zsome (by kernel_rfl)), trivial, fun _ => qnone⟩
def te113 : TE := ⟨true, 1, some (.agg [.nilf]), .st [(0, false, 1)], none⟩
theorem te113_ok : TeOk Try.prog 113 te113 := .st (by kernel_rfl) (by kernel_rfl) (fun _ => zsome (by kernel_rfl)) (by kernel_rfl) ⟨by kernel_rfl, trivial⟩ (by kernel_rfl) (fun _ => qnone)
def te114 : TE := ⟨true, 1, some (.agg [.nilf]), .st [(0, false, 1)], none⟩
theorem te114_ok : TeOk Try.prog 114 te114 := .st (by kernel_rfl) (by kernel_rfl) (fun _ => zsome (by kernel_rfl)) (by kernel_rfl) ⟨by kernel_rfl, trivial⟩ (by kernel_rfl) (fun _ => qnone)
def te115 : TE := ⟨false, 1, some (.nilf), .oth, none⟩
theorem te115_ok : TeOk Try.prog 115 te115 := ⟨by kernel_rfl, by kernel_rfl, (fun _ => zsome (by kernel_rfl)), trivial, fun _ => qnone⟩
def te116 : TE := ⟨false, 1, some (.nilf), .oth, none⟩
theorem te116_ok : TeOk Try.prog 116 te116 := ⟨by kernel_rfl, by kernel_rfl, (fun _ => zsome (by kernel_rfl)), trivial, fun _ => qnone⟩
def te117 : TE := ⟨false, 1, some (.nilf), .oth, none⟩
theorem te117_ok : TeOk Try.prog 117 te117 := ⟨by kernel_rfl, by kernel_rfl, (fun _ => zsome (by kernel_rfl)), trivial, fun _ => qnone⟩
def te118 : TE := ⟨false, 1, some (.nilf), .oth, none⟩
theorem te118_ok : TeOk Try.prog 118 te118 := ⟨by kernel_rfl, by kernel_rfl, (fun _ => zsome (by kernel_rfl)), trivial, fun _ => qnone⟩
def te119 : TE := ⟨false, 1, some (.nilp), .oth, none⟩
theorem te119_ok : TeOk Try.prog 119 te119 := ⟨by kernel_rfl, by kernel_rfl, (fun _ => zsome (by kernel_rfl)), trivial, fun _ => qnone⟩
def te121 : TE := ⟨false, 1, some (.nilf), .oth, none⟩
theorem te121_ok : TeOk Try.prog 121 te121 := ⟨by kernel_rfl, by kernel_rfl, (fun _ => zsome (by kernel_rfl)), trivial, fun _ => qnone⟩
def te122 : TE := ⟨true, 1, some (.agg [.nilf]), .st [(0, false, 1)], none⟩
theorem te122_ok : TeOk Try.prog 122 te122 := .st (by kernel_rfl) (by kernel_rfl) (fun _ => zsome (by kernel_rfl)) (by kernel_rfl) ⟨by kernel_rfl, trivial⟩ (by kernel_rfl) (fun _ => qnone)
def te123 : TE := ⟨true, 1, some (.agg [.nilf]), .st [(0, false, 1)], none⟩
theorem te123_ok : TeOk Try.prog 123 te123 := .st (by kernel_rfl) (by kernel_rfl) (fun _ => zsome (by kernel_rfl)) (by kernel_rfl) ⟨by kernel_rfl, trivial⟩ (by kernel_rfl) (fun _ => qnone)
def te124 : TE := ⟨false, 1, some (.nilf), .oth, none⟩
theorem te124_ok : TeOk Try.prog 124 te124 := ⟨by kernel_rfl, by kernel_rfl, (fun _ => zsome (by kernel_rfl)), trivial, fun _ => qnone⟩
def te125 : TE := ⟨false, 1, some (.nilf), .oth, none⟩
theorem te125_ok : TeOk Try.prog 125 te125 := ⟨by kernel_rfl, by kernel_rfl, (fun _ => zsome (by kernel_rfl)), trivial, fun _ => qnone⟩
def te126 : TE := ⟨false, 1, some (.nilf), .oth, none⟩
theorem te126_ok : TeOk Try.prog 126 te126 := ⟨by kernel_rfl, by kernel_rfl, (fun _ => zsome (by kernel_rfl)), trivial, fun _ => qnone⟩
def te127 : TE := ⟨false, 1, some (.nilf), .oth, none⟩
theorem te127_ok : TeOk Try.prog 127 te127 := ⟨by kernel_rfl, by kernel_rfl, (fun _ => zsome (by kernel_rfl)), trivial, fun _ => qnone⟩
def te128 : TE := ⟨false, 1, some (.nilf), .oth, none⟩
theorem te128_ok : TeOk Try.prog 128 te128 := ⟨by kernel_rfl, by kernel_rfl, (fun _ => zsome (by kernel_rfl)), trivial, fun _ => qnone⟩
def te129 : TE := ⟨true, 512, some (.agg (List.replicate 512 (.int .i64 0))), .ar 512 false 1, some 512⟩
theorem te129_ok : TeOk Try.prog 129 te129 := .ar (by kernel_rfl) (by kernel_rfl) (fun _ => zsome (by kernel_rfl)) (el := 3) (by kernel_rfl) (by kernel_rfl) (by kernel_rfl) (fun _ => qsome (by kernel_rfl))
def te130 : TE := ⟨true, 9, some (.agg [.int .i64 0, .int .i64 0, .int .i64 0, .int .i64 0, .int .i64 0, .int .i64 0, .int .i64 0, .int .i64 0, .int .i64 0]), .ar 9 false 1, some 9⟩
theorem te130_ok : TeOk Try.prog 130 te130 := .ar (by kernel_rfl) (by kernel_rfl) (fun _ => zsome (by kernel_rfl)) (el := 3) (by kernel_rfl) (by kernel_rfl) (by kernel_rfl) (fun _ => qsome (by kernel_rfl))
def te131 : TE := ⟨true, 9, some (.agg [.int .i64 0, .int .i64 0, .int .i64 0, .int .i64 0, .int .i64 0, .int .i64 0, .int .i64 0, .int .i64 0, .int .i64 0]), .ar 9 false 1, some 9⟩
theorem te131_ok : TeOk Try.prog 131 te131 := .ar (by kernel_rfl) (by kernel_rfl) (fun _ => zsome (by kernel_rfl)) (el := 3) (by kernel_rfl) (by kernel_rfl) (by kernel_rfl) (fun _ => qsome (by kernel_rfl))
def te132 : TE := ⟨true, 526, some (.agg ([.int .i64 0, .int .i64 0, .sl true [], .sl true [], .sl true []] ++ List.replicate 521 (.int .i64 0))), .st [(0, true, 5), (5, true, 512), (517, true, 9)], none⟩
theorem te132_ok : TeOk Try.prog 132 te132 := .st (by kernel_rfl) (by kernel_rfl) (fun _ => zsome (by kernel_rfl)) (by kernel_rfl) ⟨by kernel_rfl, by kernel_rfl, by kernel_rfl, trivial⟩ (by kernel_rfl) (fun _ => qnone)
def te133 : TE := ⟨true, 526, some (.agg ([.int .i64 0, .int .i64 0, .sl true [], .sl true [], .sl true []] ++ List.replicate 521 (.int .i64 0))), .st [(0, true, 5), (5, true, 512), (517, true, 9)], none⟩
theorem te133_ok : TeOk Try.prog 133 te133 := .st (by kernel_rfl) (by kernel_rfl) (fun _ => zsome (by kernel_rfl)) (by kernel_rfl) ⟨by kernel_rfl, by kernel_rfl, by kernel_rfl, trivial⟩ (by kernel_rfl) (fun _ => qnone)
def te134 : TE := ⟨false, 1, some (.nilf), .oth, none⟩
theorem te134_ok : TeOk Try.prog 134 te134 := ⟨by kernel_rfl, by kernel_rfl, (fun _ => zsome (by kernel_rfl)), trivial, fun _ => qnone⟩
def te135 : TE := ⟨false, 1, some (.nilf), .oth, none⟩
theorem te135_ok : TeOk Try.prog 135 te135 := ⟨by kernel_rfl, by kernel_rfl, (fun _ => zsome (by kernel_rfl)), trivial, fun _ => qnone⟩
def te136 : TE := ⟨false, 1, some (.nilf), .oth, none⟩
theorem te136_ok : TeOk Try.prog 136 te136 := ⟨by kernel_rfl, by kernel_rfl, (fun _ => zsome (by kernel_rfl)), trivial, fun _ => qnone⟩
def te137 : TE := ⟨false, 1, some (.nilf), .oth, none⟩
theorem te137_ok : TeOk Try.prog 137 te137 := ⟨by kernel_rfl, by kernel_rfl, (fun _ => zsome (by kernel_rfl)), trivial, fun _ => qnone⟩
def te138 : TE := ⟨false, 1, some (.nilf), .oth, none⟩
theorem te138_ok : TeOk Try.prog 138 te138 := ⟨by kernel_rfl, by kernel_rfl, (fun _ => zsome (by kernel_rfl)), trivial, fun _ => qnone⟩
def te139 : TE := ⟨false, 1, some (.nilf), .oth, none⟩
theorem te139_ok : TeOk Try.prog 139 te139 := ⟨by kernel_rfl, by kernel_rfl, (fun _ => zsome (by kernel_rfl)), trivial, fun _ => qnone⟩
def te140 : TE := ⟨false, 1, some (.nilf), .oth, none⟩
theorem te140_ok : TeOk Try.prog 140 te140 := ⟨by kernel_rfl, by kernel_rfl, (fun _ => zsome (by kernel_rfl)), trivial, fun _ => qnone⟩
def te142 : TE := ⟨false, 1, some (.nilf), .oth, none⟩
theorem te142_ok : TeOk Try.prog 142 te142 := ⟨by kernel_rfl, by kernel_rfl, (fun _ => zsome (by kernel_rfl)), trivial, fun _ => qnone⟩
def te144 : TE := ⟨false, 1, some (.nilf), .oth, none⟩
theorem te144_ok : TeOk Try.prog 144 te144 := ⟨by kernel_rfl, by kernel_rfl, (fun _ => zsome (by kernel_rfl)), trivial, fun _ => qnone⟩
def te145 : TE := ⟨false, 1, some (.nilf), .oth, none⟩
theorem te145_ok : TeOk Try.prog 145 te145 := ⟨by kernel_rfl, by kernel_rfl, (fun _ => zsome (by kernel_rfl)), trivial, fun _ => qnone⟩
def te146 : TE := ⟨true, 2, some (.agg [.int .i64 0, .sl true []]), .st [(0, false, 1), (1, false, 1)], none⟩
theorem te146_ok : TeOk Try.prog 146 te146 := .st (by kernel_rfl) (by kernel_rfl) (fun _ => zsome (by kernel_rfl)) (by kernel_rfl) ⟨by kernel_rfl, by kernel_rfl, trivial⟩ (by kernel_rfl) (fun _ => qnone)
def te147 : TE := ⟨true, 2, some (.agg [.int .i64 0, .sl true []]), .st [(0, false, 1), (1, false, 1)], none⟩
theorem te147_ok : TeOk Try.prog 147 te147 := .st (by kernel_rfl) (by kernel_rfl) (fun _ => zsome (by kernel_rfl)) (by kernel_rfl) ⟨by kernel_rfl, by kernel_rfl, trivial⟩ (by kernel_rfl) (fun _ => qnone)
def te148 : TE := ⟨false, 1, some (.nilf), .oth, none⟩
theorem te148_ok : TeOk Try.prog 148 te148 := ⟨by kernel_rfl, by kernel_rfl, (fun _ => zsome (by kernel_rfl)), trivial, fun _ => qnone⟩
def te149 : TE := ⟨false, 1, some (.nilf), .oth, none⟩
theorem te149_ok : TeOk Try.prog 149 te149 := ⟨by kernel_rfl, by kernel_rfl, (fun _ => zsome (by kernel_rfl)), trivial, fun _ => qnone⟩
def te150 : TE := ⟨false, 1, some (.nilf), .oth, none⟩
theorem te150_ok : TeOk Try.prog 150 te150 := ⟨by kernel_rfl, by kernel_rfl, (fun _ => zsome (by kernel_rfl)), trivial, fun _ => qnone⟩
def te151 : TE := ⟨false, 1, some (.nilf), .oth, none⟩
theorem te151_ok : TeOk Try.prog 151 te151 := ⟨by kernel_rfl, by kernel_rfl, (fun _ => zsome (by kernel_rfl)), trivial, fun _ => qnone⟩
def te152 : TE := ⟨false, 1, some (.nilm), .mp (.sl true []), none⟩
theorem te152_ok : TeOk Try.prog 152 te152 := ⟨by kernel_rfl, by kernel_rfl, (fun _ => zsome (by kernel_rfl)), show mapT Try.prog 152 = some (.sl true []) by kernel_rfl, fun _ => qnone⟩
def te153 : TE := ⟨true, 61, some (.agg (List.replicate 61 (.int .i64 0))), .ar 61 false 1, some 61⟩
theorem te153_ok : TeOk Try.prog 153 te153 := .ar (by kernel_rfl) (by kernel_rfl) (fun _ => zsome (by kernel_rfl)) (el := 3) (by kernel_rfl) (by kernel_rfl) (by kernel_rfl) (fun _ => qsome (by kernel_rfl))
def te154 : TE := ⟨true, 305, some (.agg (List.replicate 305 (.int .i64 0))), .ar 5 true 61, none⟩
theorem te154_ok : TeOk Try.prog 154 te154 := .ar (by kernel_rfl) (by kernel_rfl) (fun _ => zsome (by kernel_rfl)) (el := 153) (by kernel_rfl) (by kernel_rfl) (by kernel_rfl) (fun _ => qnone)
def te155 : TE := ⟨true, 305, some (.agg (List.replicate 305 (.int .i64 0))), .ar 5 true 61, none⟩
theorem te155_ok : TeOk Try.prog 155 te155 := .ar (by kernel_rfl) (by kernel_rfl) (fun _ => zsome (by kernel_rfl)) (el := 153) (by kernel_rfl) (by kernel_rfl) (by kernel_rfl) (fun _ => qnone)
def te156 : TE := ⟨true, 313, some (.agg ([.int .i64 0, .int .i64 0, .int .i64 0, .int .i64 0, .sl true [], .sl true [], .sl true []] ++ List.replicate 305 (.int .i64 0) ++ [.nilm])), .st [(0, true, 7), (7, true, 305), (312, false, 1)], none⟩
theorem te156_ok : TeOk Try.prog 156 te156 := .st (by kernel_rfl) (by kernel_rfl) (fun _ => zsome (by kernel_rfl)) (by kernel_rfl) ⟨by kernel_rfl, by kernel_rfl, by kernel_rfl, trivial⟩ (by kernel_rfl) (fun _ => qnone)
def te157 : TE := ⟨true, 313, some (.agg ([.int .i64 0, .int .i64 0, .int .i64 0, .int .i64 0, .sl true [], .sl true [], .sl true []] ++ List.replicate 305 (.int .i64 0) ++ [.nilm])), .st [(0, true, 7), (7, true, 305), (312, false, 1)], none⟩
theorem te157_ok : TeOk Try.prog 157 te157 := .st (by kernel_rfl) (by kernel_rfl) (fun _ => zsome (by kernel_rfl)) (by kernel_rfl) ⟨by kernel_rfl, by kernel_rfl, by kernel_rfl, trivial⟩ (by kernel_rfl) (fun _ => qnone)
def te158 : TE := ⟨true, 4880, some (.agg (rep 4880 (.int .i64 0))), .ar 5 true 976, none⟩
theorem te158_ok : TeOk Try.prog 158 te158 := .ar (by kernel_rfl) (by kernel_rfl) (fun _ => zsome (by kernel_rfl)) (el := 97) (by kernel_rfl) (by kernel_rfl) (by kernel_rfl) (fun _ => qnone)
def te159 : TE := ⟨true, 4880, some (.agg (rep 4880 (.int .i64 0))), .ar 5 true 976, none⟩
theorem te159_ok : TeOk Try.prog 159 te159 := .ar (by kernel_rfl) (by kernel_rfl) (fun _ => zsome (by kernel_rfl)) (el := 97) (by kernel_rfl) (by kernel_rfl) (by kernel_rfl) (fun _ => qnone)
def te160 : TE := ⟨true, 16, some (.agg [.bool false, .bool false, .bool false, .bool false, .bool false, .bool false, .bool false, .bool false, .bool false, .bool false, .bool false, .bool false, .bool false, .bool false, .bool false, .bool false]), .ar 16 false 1, some 1048592⟩
theorem te160_ok : TeOk Try.prog 160 te160 := .ar (by kernel_rfl) (by kernel_rfl) (fun _ => zsome (by kernel_rfl)) (el := 4) (by kernel_rfl) (by kernel_rfl) (by kernel_rfl) (fun _ => qsome (by kernel_rfl))
def te161 : TE := ⟨true, 976, some (.agg (rep 976 (.bool false))), .ar 61 true 16, none⟩
theorem te161_ok : TeOk Try.prog 161 te161 := .ar (by kernel_rfl) (by kernel_rfl) (fun _ => zsome (by kernel_rfl)) (el := 160) (by kernel_rfl) (by kernel_rfl) (by kernel_rfl) (fun _ => qnone)
def te162 : TE := ⟨true, 4880, some (.agg (rep 4880 (.bool false))), .ar 5 true 976, none⟩
theorem te162_ok : TeOk Try.prog 162 te162 := .ar (by kernel_rfl) (by kernel_rfl) (fun _ => zsome (by kernel_rfl)) (el := 161) (by kernel_rfl) (by kernel_rfl) (by kernel_rfl) (fun _ => qnone)
def te163 : TE := ⟨false, 1, some (.nilf), .oth, none⟩
theorem te163_ok : TeOk Try.prog 163 te163 := ⟨by kernel_rfl, by kernel_rfl, (fun _ => zsome (by kernel_rfl)), trivial, fun _ => qnone⟩
def te164 : TE := ⟨false, 1, some (.nilf), .oth, none⟩
theorem te164_ok : TeOk Try.prog 164 te164 := ⟨by kernel_rfl, by kernel_rfl, (fun _ => zsome (by kernel_rfl)), trivial, fun _ => qnone⟩
def te165 : TE := ⟨false, 1, some (.nilf), .oth, none⟩
theorem te165_ok : TeOk Try.prog 165 te165 := ⟨by kernel_rfl, by kernel_rfl, (fun _ => zsome (by kernel_rfl)), trivial, fun _ => qnone⟩
def te166 : TE := ⟨false, 1, some (.nilf), .oth, none⟩
theorem te166_ok : TeOk Try.prog 166 te166 := ⟨by kernel_rfl, by kernel_rfl, (fun _ => zsome (by kernel_rfl)), trivial, fun _ => qnone⟩
def te167 : TE := ⟨false, 1, some (.nilf), .oth, none⟩
theorem te167_ok : TeOk Try.prog 167 te167 := ⟨by kernel_rfl, by kernel_rfl, (fun _ => zsome (by kernel_rfl)), trivial, fun _ => qnone⟩
def te168 : TE := ⟨false, 1, some (.nilf), .oth, none⟩
theorem te168_ok : TeOk Try.prog 168 te168 := ⟨by kernel_rfl, by kernel_rfl, (fun _ => zsome (by kernel_rfl)), trivial, fun _ => qnone⟩
def te169 : TE := ⟨false, 1, some (.int .u64 0), .int .u64, none⟩
theorem te169_ok : TeOk Try.prog 169 te169 := ⟨by kernel_rfl, by kernel_rfl, (fun _ => zsome (by kernel_rfl)), show Try.prog.underlying 169 = some (.int .u64) by kernel_rfl, fun _ => qnone⟩
def te170 : TE := ⟨false, 1, some (.nilf), .oth, none⟩
theorem te170_ok : TeOk Try.prog 170 te170 := ⟨by kernel_rfl, by kernel_rfl, (fun _ => zsome (by kernel_rfl)), trivial, fun _ => qnone⟩
def te171 : TE := ⟨false, 1, some (.nilf), .oth, none⟩
theorem te171_ok : TeOk Try.prog 171 te171 := ⟨by kernel_rfl, by kernel_rfl, (fun _ => zsome (by kernel_rfl)), trivial, fun _ => qnone⟩
def te172 : TE := ⟨false, 1, some (.nilf), .oth, none⟩
theorem te172_ok : TeOk Try.prog 172 te172 := ⟨by kernel_rfl, by kernel_rfl, (fun _ => zsome (by kernel_rfl)), trivial, fun _ => qnone⟩
def te173 : TE := ⟨false, 1, some (.nilf), .oth, none⟩
theorem te173_ok : TeOk Try.prog 173 te173 := ⟨by kernel_rfl, by kernel_rfl, (fun _ => zsome (by kernel_rfl)), trivial, fun _ => qnone⟩
def te174 : TE := ⟨false, 1, some (.nilf), .oth, none⟩
theorem te174_ok : TeOk Try.prog 174 te174 := ⟨by kernel_rfl, by kernel_rfl, (fun _ => zsome (by kernel_rfl)), trivial, fun _ => qnone⟩
def te175 : TE := ⟨false, 1, some (.nilf), .oth, none⟩
theorem te175_ok : TeOk Try.prog 175 te175 := ⟨by kernel_rfl, by kernel_rfl, (fun _ => zsome (by kernel_rfl)), trivial, fun _ => qnone⟩
def te176 : TE := ⟨false, 1, some (.nilf), .oth, none⟩
theorem te176_ok : TeOk Try.prog 176 te176 := ⟨by kernel_rfl, by kernel_rfl, (fun _ => zsome (by kernel_rfl)), trivial, fun _ => qnone⟩
def te177 : TE := ⟨false, 1, some (.nilf), .oth, none⟩
theorem te177_ok : TeOk Try.prog 177 te177 := ⟨by kernel_rfl, by kernel_rfl, (fun _ => zsome (by kernel_rfl)), trivial, fun _ => qnone⟩
def te178 : TE := ⟨false, 1, some (.nilf), .oth, none⟩
theorem te178_ok : TeOk Try.prog 178 te178 := ⟨by kernel_rfl, by kernel_rfl, (fun _ => zsome (by kernel_rfl)), trivial, fun _ => qnone⟩
def te179 : TE := ⟨false, 1, some (.nilf), .oth, none⟩
theorem te179_ok : TeOk Try.prog 179 te179 := ⟨by kernel_rfl, by kernel_rfl, (fun _ => zsome (by kernel_rfl)), trivial, fun _ => qnone⟩
def te180 : TE := ⟨false, 1, some (.nilf), .oth, none⟩
theorem te180_ok : TeOk Try.prog 180 te180 := ⟨by kernel_rfl, by kernel_rfl, (fun _ => zsome (by kernel_rfl)), trivial, fun _ => qnone⟩
def te181 : TE := ⟨false, 1, some (.nilf), .oth, none⟩
theorem te181_ok : TeOk Try.prog 181 te181 := ⟨by kernel_rfl, by kernel_rfl, (fun _ => zsome (by kernel_rfl)), trivial, fun _ => qnone⟩
def te182 : TE := ⟨false, 1, some (.nilf), .oth, none⟩
theorem te182_ok : TeOk Try.prog 182 te182 := ⟨by kernel_rfl, by kernel_rfl, (fun _ => zsome (by kernel_rfl)), trivial, fun _ => qnone⟩
def te183 : TE := ⟨false, 1, some (.nilf), .oth, none⟩
theorem te183_ok : TeOk Try.prog 183 te183 := ⟨by kernel_rfl, by kernel_rfl, (fun _ => zsome (by kernel_rfl)), trivial, fun _ => qnone⟩
def te184 : TE := ⟨false, 1, some (.nilf), .oth, none⟩
theorem te184_ok : TeOk Try.prog 184 te184 := ⟨by kernel_rfl, by kernel_rfl, (fun _ => zsome (by kernel_rfl)), trivial, fun _ => qnone⟩
def te185 : TE := ⟨true, 2, some (.agg [.int .i64 0, .int .i64 0]), .st [(0, false, 1), (1, false, 1)], some 2⟩
theorem te185_ok : TeOk Try.prog 185 te185 := .st (by kernel_rfl) (by kernel_rfl) (fun _ => zsome (by kernel_rfl)) (by kernel_rfl) ⟨by kernel_rfl, by kernel_rfl, trivial⟩ (by kernel_rfl) (fun _ => qsome (by kernel_rfl))
def te186 : TE := ⟨true, 2, some (.agg [.int .i64 0, .int .i64 0]), .st [(0, false, 1), (1, false, 1)], some 2⟩
theorem te186_ok : TeOk Try.prog 186 te186 := .st (by kernel_rfl) (by kernel_rfl) (fun _ => zsome (by kernel_rfl)) (by kernel_rfl) ⟨by kernel_rfl, by kernel_rfl, trivial⟩ (by kernel_rfl) (fun _ => qsome (by kernel_rfl))
def te187 : TE := ⟨false, 1, some (.nilf), .oth, none⟩
theorem te187_ok : TeOk Try.prog 187 te187 := ⟨by kernel_rfl, by kernel_rfl, (fun _ => zsome (by kernel_rfl)), trivial, fun _ => qnone⟩
def te188 : TE := ⟨false, 1, some (.nilf), .oth, none⟩
theorem te188_ok : TeOk Try.prog 188 te188 := ⟨by kernel_rfl, by kernel_rfl, (fun _ => zsome (by kernel_rfl)), trivial, fun _ => qnone⟩
def te189 : TE := ⟨false, 1, some (.nilf), .oth, none⟩
theorem te189_ok : TeOk Try.prog 189 te189 := ⟨by kernel_rfl, by kernel_rfl, (fun _ => zsome (by kernel_rfl)), trivial, fun _ => qnone⟩
def te190 : TE := ⟨false, 1, some (.nilf), .oth, none⟩
theorem te190_ok : TeOk Try.prog 190 te190 := ⟨by kernel_rfl, by kernel_rfl, (fun _ => zsome (by kernel_rfl)), trivial, fun _ => qnone⟩
def te191 : TE := ⟨false, 1, some (.nilf), .oth, none⟩
theorem te191_ok : TeOk Try.prog 191 te191 := ⟨by kernel_rfl, by kernel_rfl, (fun _ => zsome (by kernel_rfl)), trivial, fun _ => qnone⟩
def te192 : TE := ⟨false, 1, some (.nilf), .oth, none⟩
theorem te192_ok : TeOk Try.prog 192 te192 := ⟨by kernel_rfl, by kernel_rfl, (fun _ => zsome (by kernel_rfl)), trivial, fun _ => qnone⟩
def te193 : TE := ⟨false, 1, some (.sl true []), .sl 60 3 24 (.agg [.int .i64 0, .int .i64 0, .int .i64 0]), none⟩
theorem te193_ok : TeOk Try.prog 193 te193 := ⟨by kernel_rfl, by kernel_rfl, (fun _ => zsome (by kernel_rfl)), ⟨by kernel_rfl, by kernel_rfl, ⟨60, by kernel_rfl⟩, by kernel_rfl⟩, fun _ => qnone⟩
def te194 : TE := ⟨false, 1, some (.nilf), .oth, none⟩
theorem te194_ok : TeOk Try.prog 194 te194 := ⟨by kernel_rfl, by kernel_rfl, (fun _ => zsome (by kernel_rfl)), trivial, fun _ => qnone⟩
def te195 : TE := ⟨false, 1, some (.nilf), .oth, none⟩
theorem te195_ok : TeOk Try.prog 195 te195 := ⟨by kernel_rfl, by kernel_rfl, (fun _ => zsome (by kernel_rfl)), trivial, fun _ => qnone⟩
def te196 : TE := ⟨false, 1, some (.nilf), .oth, none⟩
theorem te196_ok : TeOk Try.prog 196 te196 := ⟨by kernel_rfl, by kernel_rfl, (fun _ => zsome (by kernel_rfl)), trivial, fun _ => qnone⟩
def te197 : TE := ⟨false, 1, some (.nilf), .oth, none⟩
theorem te197_ok : TeOk Try.prog 197 te197 := ⟨by kernel_rfl, by kernel_rfl, (fun _ => zsome (by kernel_rfl)), trivial, fun _ => qnone⟩
def te198 : TE := ⟨false, 1, some (.nilf), .oth, none⟩
theorem te198_ok : TeOk Try.prog 198 te198 := ⟨by kernel_rfl, by kernel_rfl, (fun _ => zsome (by kernel_rfl)), trivial, fun _ => qnone⟩
def te199 : TE := ⟨false, 1, some (.nilf), .oth, none⟩
theorem te199_ok : TeOk Try.prog 199 te199 := ⟨by kernel_rfl, by kernel_rfl, (fun _ => zsome (by kernel_rfl)), trivial, fun _ => qnone⟩
def te200 : TE := ⟨false, 1, some (.nilf), .oth, none⟩
theorem te200_ok : TeOk Try.prog 200 te200 := ⟨by kernel_rfl, by kernel_rfl, (fun _ => zsome (by kernel_rfl)), trivial, fun _ => qnone⟩
def te201 : TE := ⟨false, 1, some (.nilf), .oth, none⟩
theorem te201_ok : TeOk Try.prog 201 te201 := ⟨by kernel_rfl, by kernel_rfl, (fun _ => zsome (by kernel_rfl)), trivial, fun _ => qnone⟩
def te202 : TE := ⟨false, 1, some (.nilf), .oth, none⟩
theorem te202_ok : TeOk Try.prog 202 te202 := ⟨by kernel_rfl, by kernel_rfl, (fun _ => zsome (by kernel_rfl)), trivial, fun _ => qnone⟩
def te203 : TE := ⟨false, 1, some (.nilf), .oth, none⟩
theorem te203_ok : TeOk Try.prog 203 te203 := ⟨by kernel_rfl, by kernel_rfl, (fun _ => zsome (by kernel_rfl)), trivial, fun _ => qnone⟩
def te204 : TE := ⟨false, 1, some (.nilf), .oth, none⟩
theorem te204_ok : TeOk Try.prog 204 te204 := ⟨by kernel_rfl, by kernel_rfl, (fun _ => zsome (by kernel_rfl)), trivial, fun _ => qnone⟩
def te205 : TE := ⟨false, 1, some (.nilf), .oth, none⟩
theorem te205_ok : TeOk Try.prog 205 te205 := ⟨by kernel_rfl, by kernel_rfl, (fun _ => zsome (by kernel_rfl)), trivial, fun _ => qnone⟩
def te206 : TE := ⟨false, 1, some (.nilf), .oth, none⟩
theorem te206_ok : TeOk Try.prog 206 te206 := ⟨by kernel_rfl, by kernel_rfl, (fun _ => zsome (by kernel_rfl)), trivial, fun _ => qnone⟩
def te207 : TE := ⟨false, 1, some (.nilf), .oth, none⟩
theorem te207_ok : TeOk Try.prog 207 te207 := ⟨by kernel_rfl, by kernel_rfl, (fun _ => zsome (by kernel_rfl)), trivial, fun _ => qnone⟩
def te208 : TE := ⟨false, 1, some (.nilf), .oth, none⟩
theorem te208_ok : TeOk Try.prog 208 te208 := ⟨by kernel_rfl, by kernel_rfl, (fun _ => zsome (by kernel_rfl)), trivial, fun _ => qnone⟩
def te209 : TE := ⟨false, 1, some (.nilf), .oth, none⟩
theorem te209_ok : TeOk Try.prog 209 te209 := ⟨by kernel_rfl, by kernel_rfl, (fun _ => zsome (by kernel_rfl)), trivial, fun _ => qnone⟩
def te210 : TE := ⟨false, 1, some (.nilf), .oth, none⟩
theorem te210_ok : TeOk Try.prog 210 te210 := ⟨by kernel_rfl, by kernel_rfl, (fun _ => zsome (by kernel_rfl)), trivial, fun _ => qnone⟩
def te211 : TE := ⟨false, 1, some (.nilf), .oth, none⟩
theorem te211_ok : TeOk Try.prog 211 te211 := ⟨by kernel_rfl, by kernel_rfl, (fun _ => zsome (by kernel_rfl)), trivial, fun _ => qnone⟩
def te212 : TE := ⟨false, 1, some (.nilf), .oth, none⟩
theorem te212_ok : TeOk Try.prog 212 te212 := ⟨by kernel_rfl, by kernel_rfl, (fun _ => zsome (by kernel_rfl)), trivial, fun _ => qnone⟩
def te213 : TE := ⟨true, 4, none, .st [(0, false, 1), (1, false, 1), (2, false, 1), (3, false, 1)], none⟩
theorem te213_ok : TeOk Try.prog 213 te213 := .st (by kernel_rfl) (by kernel_rfl) (fun _ => znone) (by kernel_rfl) ⟨by kernel_rfl, by kernel_rfl, by kernel_rfl, by kernel_rfl, trivial⟩ (by kernel_rfl) (fun _ => qnone)
def te215 : TE := ⟨true, 0, some (.agg []), .ar 0 false 1, none⟩
theorem te215_ok : TeOk Try.prog 215 te215 := .ar (by kernel_rfl) (by kernel_rfl) (fun _ => zsome (by kernel_rfl)) (el := 16) (by kernel_rfl) (by kernel_rfl) (by kernel_rfl) (fun _ => qnone)
def te216 : TE := ⟨true, 0, some (.agg []), .st [(0, true, 0)], none⟩
theorem te216_ok : TeOk Try.prog 216 te216 := .st (by kernel_rfl) (by kernel_rfl) (fun _ => zsome (by kernel_rfl)) (by kernel_rfl) ⟨by kernel_rfl, trivial⟩ (by kernel_rfl) (fun _ => qnone)
def te220 : TE := ⟨false, 1, some (.nilf), .oth, none⟩
theorem te220_ok : TeOk Try.prog 220 te220 := ⟨by kernel_rfl, by kernel_rfl, (fun _ => zsome (by kernel_rfl)), trivial, fun _ => qnone⟩
def te221 : TE := ⟨false, 1, some (.nilp), .oth, none⟩
theorem te221_ok : TeOk Try.prog 221 te221 := ⟨by kernel_rfl, by kernel_rfl, (fun _ => zsome (by kernel_rfl)), trivial, fun _ => qnone⟩
def te224 : TE := ⟨true, 11, some (.agg [.int .u64 0, .int .u64 0, .int .u32 0, .int .u8 0, .int .u8 0, .int .u8 0, .int .u8 0, .nilf, .nilp, .int .i32 0, .int .i32 0]), .st [(0, false, 1), (1, false, 1), (2, false, 1), (3, false, 1), (4, false, 1), (5, false, 1), (6, false, 1), (7, false, 1), (8, false, 1), (9, false, 1), (10, false, 1)], none⟩
theorem te224_ok : TeOk Try.prog 224 te224 := .st (by kernel_rfl) (by kernel_rfl) (fun _ => zsome (by kernel_rfl)) (by kernel_rfl) ⟨by kernel_rfl, by kernel_rfl, by kernel_rfl, by kernel_rfl, by kernel_rfl, by kernel_rfl, by kernel_rfl, by kernel_rfl, by kernel_rfl, by kernel_rfl, by kernel_rfl, trivial⟩ (by kernel_rfl) (fun _ => qnone)
def tab : Tab := [none, some te1, some te2, some te3, some te4, some te5, none, some te7, none, none, none, none, some te12, some te13, none, none, none, none, some te18, none, none, some te21, some te22, some te23, some te24, some te25, some te26, some te27, some te28, some te29, some te30, some te31, some te32, some te33, some te34, some te35, some te36, some te37, some te38, some te39, some te40, none, some te42, some te43, none, some te45, some te46, some te47, some te48, some te49, some te50, some te51, none, some te53, some te54, some te55, some te56, some te57, some te58, some te59, some te60, some te61, some te62, some te63, some te64, some te65, some te66, some te67, none, some te69, some te70, some te71, some te72, some te73, some te74, some te75, some te76, none, some te78, some te79, some te80, some te81, some te82, some te83, some te84, some te85, some te86, some te87, some te88, some te89, some te90, none, some te92, some te93, some te94, some te95, some te96, some te97, some te98, some te99, some te100, some te101, some te102, none, some te104, none, some te106, some te107, some te108, some te109, some te110, some te111, some te112, some te113, some te114, some te115, some te116, some te117, some te118, some te119, none, some te121, some te122, some te123, some te124, some te125, some te126, some te127, some te128, some te129, some te130, some te131, some te132, some te133, some te134, some te135, some te136, some te137, some te138, some te139, some te140, none, some te142, none, some te144, some te145, some te146, some te147, some te148, some te149, some te150, some te151, some te152, some te153, some te154, some te155, some te156, some te157, some te158, some te159, some te160, some te161, some te162, some te163, some te164, some te165, some te166, some te167, some te168, some te169, some te170, some te171, some te172, some te173, some te174, some te175, some te176, some te177, some te178, some te179, some te180, some te181, some te182, some te183, some te184, some te185, some te186, some te187, some te188, some te189, some te190, some te191, some te192, some te193, some te194, some te195, some te196, some te197, some te198, some te199, some te200, some te201, some te202, some te203, some te204, some te205, some te206, some te207, some te208, some te209, some te210, some te211, some te212, some te213, none, some te215, some te216, none, none, none, some te220, some te221, none, none, some te224]
theorem tab_ok : TabOk Try.prog tab := ⟨te1_ok, te2_ok, te3_ok, te4_ok, te5_ok, te7_ok, te12_ok, te13_ok, te18_ok, te21_ok, te22_ok, te23_ok, te24_ok, te25_ok, te26_ok, te27_ok, te28_ok, te29_ok, te30_ok, te31_ok, te32_ok, te33_ok, te34_ok, te35_ok, te36_ok, te37_ok, te38_ok, te39_ok, te40_ok, te42_ok, te43_ok, te45_ok, te46_ok, te47_ok, te48_ok, te49_ok, te50_ok, te51_ok, te53_ok, te54_ok, te55_ok, te56_ok, te57_ok, te58_ok, te59_ok, te60_ok, te61_ok, te62_ok, te63_ok, te64_ok, te65_ok, te66_ok, te67_ok, te69_ok, te70_ok, te71_ok, te72_ok, te73_ok, te74_ok, te75_ok, te76_ok, te78_ok, te79_ok, te80_ok, te81_ok, te82_ok, te83_ok, te84_ok, te85_ok, te86_ok, te87_ok, te88_ok, te89_ok, te90_ok, te92_ok, te93_ok, te94_ok, te95_ok, te96_ok, te97_ok, te98_ok, te99_ok, te100_ok, te101_ok, te102_ok, te104_ok, te106_ok, te107_ok, te108_ok, te109_ok, te110_ok, te111_ok, te112_ok, te113_ok, te114_ok, te115_ok, te116_ok, te117_ok, te118_ok, te119_ok, te121_ok, te122_ok, te123_ok, te124_ok, te125_ok, te126_ok, te127_ok, te128_ok, te129_ok, te130_ok, te131_ok, te132_ok, te133_ok, te134_ok, te135_ok, te136_ok, te137_ok, te138_ok, te139_ok, te140_ok, te142_ok, te144_ok, te145_ok, te146_ok, te147_ok, te148_ok, te149_ok, te150_ok, te151_ok, te152_ok, te153_ok, te154_ok, te155_ok, te156_ok, te157_ok, te158_ok, te159_ok, te160_ok, te161_ok, te162_ok, te163_ok, te164_ok, te165_ok, te166_ok, te167_ok, te168_ok, te169_ok, te170_ok, te171_ok, te172_ok, te173_ok, te174_ok, te175_ok, te176_ok, te177_ok, te178_ok, te179_ok, te180_ok, te181_ok, te182_ok, te183_ok, te184_ok, te185_ok, te186_ok, te187_ok, te188_ok, te189_ok, te190_ok, te191_ok, te192_ok, te193_ok, te194_ok, te195_ok, te196_ok, te197_ok, te198_ok, te199_ok, te200_ok, te201_ok, te202_ok, te203_ok, te204_ok, te205_ok, te206_ok, te207_ok, te208_ok, te209_ok, te210_ok, te211_ok, te212_ok, te213_ok, te215_ok, te216_ok, te220_ok, te221_ok, te224_ok, trivial⟩
end GA
end

section
namespace GA
open Go Go.RowKit
set_option linter.unusedVariables false

def xPend (P : Program) (T : Tab) (N : Nat) (own : List Nat) (Q : Post) (D : List Nat) (σ : St) (H : List Blk) (pend : Option Code) : Prop :=
  match pend with
  | none => Q .normal D σ H
  | some c => XRun P T N none own c Q D σ H
def xRangeEnd (P : Program) (T : Tab) (N : Nat) (own : List Nat) (Q : Post) (D : List Nat) (σ : St) (i : Nat) (H : List Blk) : Prop :=
  match lget H i with
  | some (.lp st pend _ _ _ _ _ _) => match st with
    | .busy => False
    | _ => hset H i .dead fun H' => xPend P T N own Q D σ H' pend
  | _ => False

def xPuts : List Nat → List AV → St → Option St
  | [], [], σ => some σ
  | t :: ts, r :: rs, σ => xPuts ts rs (updX σ t r)
  | _, _, _ => none

def xRound (i : Nat) (K : AV → List Blk → Prop) : Post := fun e _ _ H =>
  match lget H i with
  | some (.lp _ _ f tm ps x y n) => match e with
    | .normal => hset H i (.lp .ready none f tm ps x y n) fun H' => K (.bool true) H'
    | .ret => hset H i (.lp .done (some .ret) f tm ps x y n) fun H' => K (.bool false) H'
    | .exit id => hset H i (.lp .done (some (.exit id)) f tm ps x y n) fun H' => K (.bool false) H'
    | _ => False
  | _ => False
def xBegin (P : Program) (T : Tab) (own : List Nat) (i : Nat) (K : AV → List Blk → Prop) (ρ : Option Nat) : Post := fun e D σ H =>
  match e, lget H i with
  | .normal, some (.lp .ready pend f tm ps x y n) => hset H i (.lp .busy pend f tm ps x y n) fun H' => XRun P T n ρ own y (xRound i K) D σ H'
  | _, _ => False

section
variable {P : Program} {T : Tab} {N : Nat} {ρ : Option Nat} {own : List Nat} {E : Env} {h : Nat → Option Obj} {β : Nat → Value} {H : List Blk} {w : World} {σ : St} {a : Act} {D : List Nat}

theorem xPuts_fits : ∀ {ts : List Nat} {rs : List AV} {vs : List Value} {σ σ' : St} {tmps : Array Value}, xPuts ts rs σ = some σ' → RepL P h β H rs vs → (∀ t ∈ ts, t < tmps.size) →
    (∀ t r, σ t = some r → ∃ v, tmps[t]? = some v ∧ Rep P h β H r v) → vs.length = ts.length ∧
    ∀ t r, σ' t = some r → ∃ v, ((ts.zip vs).foldl (fun (tmps : Array Value) (x : Nat × Value) => tmps.setIfInBounds x.1 x.2) tmps)[t]? = some v ∧ Rep P h β H r v
  | [], [], vs, σ, σ', tmps, e, hr, _, F => by
    cases e
    have : vs = [] := List.eq_nil_of_length_eq_zero hr.1
    subst this; exact ⟨rfl, F⟩
  | t :: ts, r :: rs, vs, σ, σ', tmps, e, hr, hb, F => by
    cases vs with
    | nil => have := hr.1; simp at this
    | cons v vs =>
      obtain ⟨v', e1, e2⟩ := hr.2 0 r rfl
      simp at e1; subst e1
      have hr' : RepL P h β H rs vs := ⟨by have := hr.1; simpa using this, fun j x ex => by have := hr.2 (j + 1) x (by simpa using ex); simpa using this⟩
      have F' : ∀ u x, updX σ t r u = some x → ∃ y, (tmps.setIfInBounds t v)[u]? = some y ∧ Rep P h β H x y := by
        intro u x ex
        rw [updX_eq] at ex; unfold upd at ex
        by_cases hu : u = t
        · subst hu; simp at ex; subst ex
          exact ⟨v, by simp [hb u (by simp)], e2⟩
        · simp [hu] at ex
          obtain ⟨y, g1, g2⟩ := F u x ex
          exact ⟨y, by rw [Array.getElem?_setIfInBounds_ne (Ne.symm hu)]; exact g1, g2⟩
      obtain ⟨g1, g2⟩ := xPuts_fits (tmps := tmps.setIfInBounds t v) (show xPuts ts rs (updX σ t r) = some σ' from e) hr' (fun u hu => by simpa using hb u (by simp [hu])) F'
      exact ⟨by simp [g1], by simpa using g2⟩
  | [], _ :: _, _, _, _, _, e, _, _, _ => by cases e
  | _ :: _, [], _, _, _, _, e, _, _, _ => by cases e

theorem Walk.range {g : Operand} {ps : Array Tmp} {assign body : Code} {Q : Post} {f : FuncId} {caps : List AV} (ok : TabOk P T) (tm : List (Nat × AV)) (hg : ev σ g = some (.fn f caps)) (ht : SubX tm σ)
    (x : ∀ fn, XCall P f (.yld (H.length + 1) :: caps) (H ++ [.raw (.deferred (some []))] ++ [.lp .ready none fn tm ps assign body N]) fun _ H' => xRangeEnd P T N own Q (H.length :: D) σ (H.length + 1) H') :
    Walk P N none (.rangeFunc g ps assign body) Q D σ H := by
  constructor
  intro E h β a w s
  refine wpIn_rangeFunc fun fn _ => ?_
  have hf := s.fits.ev hg
  generalize hv : a.eval g = fval at hf
  cases hf with
  | @fn _ _ vs us hs hc hr =>
    obtain ⟨hent, hcall⟩ := (x fn).o
    let w1 := (w.alloc (.deferred (some []))).alloc (.loop { state := .ready, pending := none, fn, tmps := a.tmps, params := ps, assign, body, defers := w.heap.size })
    -- the blocks
    obtain ⟨s1, X1⟩ := s.sr.push (w' := w.alloc (.deferred (some []))) s.sr.env (fun k hk => Below.heap_alloc _ _ _ hk) (.pointer (some ⟨w.heap.size, 0, none⟩)) (.raw (.deferred (some []))) (by intro b hb; simp [anchor] at hb; omega)
      (fun X => ⟨w.heap.size, by simp [upb], heap_alloc_new w _⟩)
    have hsz : (w.alloc (.deferred (some []))).heap.size = w.heap.size + 1 := World.size_alloc _ _
    obtain ⟨s2, X2⟩ := s1.push (w' := w1) s.sr.env (fun k hk => Below.heap_alloc _ _ _ hk) (.pointer (some ⟨w.heap.size + 1, 0, none⟩)) (.lp .ready none fn tm ps assign body N) (by intro b hb; simp [anchor] at hb; omega)
      (fun X => ⟨w.heap.size + 1, w.heap.size, a.tmps, by simp [upb], by rw [← hsz]; exact heap_alloc_new _ _, s.size, fun t r e => by
        have : σ t = some r := by
          have : ∀ (l : List (Nat × AV)), SubX l σ → (t, r) ∈ l → σ t = some r := by
            intro l; induction l with
            | nil => intro _ h; cases h
            | cons p l ih => intro h1 h2; rcases List.mem_cons.1 h2 with h2 | h2
                             · subst h2; exact h1.1
                             · exact ih h1.2 h2
          exact this tm ht e
        obtain ⟨v, e1, e2⟩ := s.fits t r this
        exact ⟨v, e1, X.rep (X1.rep e2)⟩⟩)
    have hl2 : (H ++ [Blk.raw (.deferred (some []))]).length = H.length + 1 := by simp
    rw [hl2] at s2 X2
    have X := X1.trans X2
    have hlp : (H ++ [Blk.raw (.deferred (some []))] ++ [Blk.lp .ready none fn tm ps assign body N])[H.length + 1]? = some (.lp .ready none fn tm ps assign body N) := by
      rw [List.getElem?_append_right (by simp)]; simp
    have hraw : (H ++ [Blk.raw (.deferred (some []))] ++ [Blk.lp .ready none fn tm ps assign body N])[H.length]? = some (.raw (.deferred (some []))) := by
      rw [List.getElem?_append_left (by simp), List.getElem?_append_right (by simp)]; simp
    have hy : Rep P h (upb (upb β H.length (.pointer (some ⟨w.heap.size, 0, none⟩))) (H.length + 1) (.pointer (some ⟨w.heap.size + 1, 0, none⟩))) (H ++ [.raw (.deferred (some []))] ++ [.lp .ready none fn tm ps assign body N]) (.yld (H.length + 1)) (.func (.yield (w.heap.size + 1)) #[] #[]) :=
      .yld (.of hlp rfl) fun y _ _ => by simp [upb]
    have hmk : Rep P h (upb (upb β H.length (.pointer (some ⟨w.heap.size, 0, none⟩))) (H.length + 1) (.pointer (some ⟨w.heap.size + 1, 0, none⟩))) (H ++ [.raw (.deferred (some []))] ++ [.lp .ready none fn tm ps assign body N]) (.yld H.length) (.func (.yield w.heap.size) #[] #[]) :=
      .yld (.of hraw rfl) fun y _ _ => by simp [upb]
    have hargs : RepL P h (upb (upb β H.length (.pointer (some ⟨w.heap.size, 0, none⟩))) (H.length + 1) (.pointer (some ⟨w.heap.size + 1, 0, none⟩))) (H ++ [.raw (.deferred (some []))] ++ [.lp .ready none fn tm ps assign body N]) (.yld (H.length + 1) :: caps) (.func (.yield (w.heap.size + 1)) #[] #[] :: vs.toList) :=
      .cons hy ⟨by simpa using hs, fun j y e => ⟨us j, by simpa using hc j y e, X.rep (hr j y e)⟩⟩
    have hres : (resolve a.eval (rangeCall g (w.heap.size + 1)) 0).run P w1 = .ok { target := .fn (.func f) vs, args := #[.func (.yield (w.heap.size + 1)) #[] #[]] } w1 := by
      have hcst : ∀ v, a.eval (.const v) = v := fun _ => rfl
      simp [resolve, hv, Deferred.ofValue, hcst]
    have hinv : (invoke (.fn (.func f) vs) #[.func (.yield (w.heap.size + 1)) #[] #[]]).run P w1 = .ok (.enter f (.func (.yield (w.heap.size + 1)) #[] #[] :: vs.toList).toArray) w1 := by
      have : (#[Value.func (.yield (w.heap.size + 1)) #[] #[]] ++ vs) = (.func (.yield (w.heap.size + 1)) #[] #[] :: vs.toList).toArray := by apply Array.ext'; simp
      simp only [invoke, run_callFunc hent, this]
    refine ⟨w.heap.size + 1, _, w1, _, w1, f, _, w1, run_enterLoop_outer fn a.tmps ps assign body, hres, fun _ _ => trivial, hinv, fun h => by simp at h, ?_⟩
    have hc2 := hcall E h _ w1 _ s2 hargs
    refine (show CallsIn (FW none) (0 - 1) P f _ w1 _ from hc2.mono ?_)
    rintro e w' ⟨r, H', h', β', v, rfl, hk, X', s', _⟩
    -- the end
    unfold xRangeEnd at hk
    split at hk
    case h_2 => exact hk.elim
    rename_i st pend f' tm' ps' as' bo' n' hl
    rw [lget_eq] at hl
    have hto := X'.to _ _ _ hlp hl
    rcases hto with hd | ⟨st2, pend2, he, hβ⟩
    · cases hd
    · cases he
      have hβ1 : β' (H.length + 1) = .pointer (some ⟨w.heap.size + 1, 0, none⟩) := by rw [hβ]; simp [upb]
      obtain ⟨b, dfr, tmps, h1, h2, h3, h4⟩ := s'.blk _ _ hl
      rw [hβ1] at h1; cases h1
      have hnb : st ≠ .busy := by rintro rfl; exact hk
      have hk2 : hset H' (H.length + 1) .dead fun H' => xPend P T N own Q (H.length :: D) σ H' pend := by
        cases st with
        | busy => exact hk.elim
        | ready => exact hk
        | done => exact hk
        | exhausted => exact hk
      obtain ⟨hlt, hk3⟩ := hset_spec hk2
      have hbo : blkOf β' H' (H.length + 1) = some (w.heap.size + 1) := by simp only [blkOf, hl, hβ1]; rfl
      obtain ⟨s3, X3⟩ := s'.modify (β' := β') (w' := w'.putObj (w.heap.size + 1) (.loop { state := .exhausted, pending := pend, fn := fn, tmps := tmps, params := ps, assign := assign, body := body, defers := dfr })) (x' := .dead) hl (fun _ _ => rfl) (.inl rfl) s'.env
        (fun q _ hn => World.putObj_heap_other (fun e => hn (by rw [hbo, e]))) (fun b e => .inl (by rw [hbo]; rw [hβ1] at e; exact e)) (fun _ => trivial)
      have Xall := X.trans (X'.trans X3)
      have hst : Stands P E N h' β' (H.length :: D) σ (H'.set (H.length + 1) .dead) { a with defers := [{ target := .collected w.heap.size, args := #[] }] ++ a.defers } (w'.putObj (w.heap.size + 1) (.loop { state := .exhausted, pending := pend, fn := fn, tmps := tmps, params := ps, assign := assign, body := body, defers := dfr })) := by
        exact ⟨s3, s.fits.ext Xall, s.size, ⟨(s.df.ext Xall).en, .own ((X'.trans X3).rep hmk) (s.df.ext Xall).l⟩⟩
      refine ⟨pend, _, run_endLoop h2 hnb, ?_⟩
      cases pend with
      | none => exact ⟨_, _, _, _, _, hk3, Xall, hst⟩
      | some c => exact wpIn_mono (XRun.sound ok hk3 E h' β' _ _ hst) fun _ _ _ => Conc.ext Xall

theorem XYield.go {i : Nat} {rs : List AV} {K : AV → List Blk → Prop} {pend : Option Code} {f : FuncId} {tm : List (Nat × AV)} {ps : Array Tmp} {assign body : Code} {σ0 : St} (ok : TabOk P T) (hl : lget H i = some (.lp .ready pend f tm ps assign body N)) (hp : xPuts ps.toList rs (stX tm) = some σ0)
    (hb : ∀ t ∈ ps.toList, t < N) (x : ∀ ρ, XRun P T N ρ own assign (xBegin P T own i K ρ) [] σ0 H) : XYield P i rs H K := by
  rw [lget_eq] at hl
  refine ⟨(List.getElem?_eq_some_iff.1 hl).1, fun E h β w b vs s hr hβ => ?_⟩
  have hβ := hβ _ hl rfl
  obtain ⟨b', dfr, tmps, h1, h2, h3, h4⟩ := s.blk _ _ hl
  rw [hβ] at h1; cases h1
  obtain ⟨hlen, F⟩ := xPuts_fits (tmps := tmps) hp hr (fun t ht => by rw [h3]; exact hb t ht) (fun t r e => by
    have : ∀ (l : List (Nat × AV)), stX l t = some r → (t, r) ∈ l := by
      intro l; induction l with
      | nil => intro h; cases h
      | cons p l ih =>
        obtain ⟨u, x⟩ := p
        intro h; simp only [stX, updX_eq, upd] at h
        split at h
        · rename_i e; cases h; subst e; exact List.mem_cons_self
        · exact List.mem_cons_of_mem _ (ih h)
    exact h4 t r (this tm e))
  have hzip : ((ps.zip vs.toArray).foldl (fun (tmps : Array Value) (x : Nat × Value) => tmps.setIfInBounds x.1 x.2) tmps) = ((ps.toList.zip vs).foldl (fun (tmps : Array Value) (x : Nat × Value) => tmps.setIfInBounds x.1 x.2) tmps) := by
    rw [← Array.foldl_toList]; simp
  refine ⟨f, _, assign, body, run_yield h2 (by simp [hlen]), ?_⟩
  refine roundIn_of_wpIn trivial ?_
  have hF : (FW none).inRound b = FW (some b) := rfl
  rw [hF]
  have hsz : ∀ (l : List (Nat × Value)) (tmps : Array Value), (l.foldl (fun (tmps : Array Value) (x : Nat × Value) => tmps.setIfInBounds x.1 x.2) tmps).size = tmps.size := by
    intro l; induction l with
    | nil => intro _; rfl
    | cons p l ih => intro tmps; simp [ih]
  have st0 : Stands P ⟨E.b, E.fr, h⟩ N h β [] σ0 H { tmps := (ps.zip vs.toArray).foldl (fun (tmps : Array Value) (x : Nat × Value) => tmps.setIfInBounds x.1 x.2) tmps, defers := [] } w :=
    ⟨s.en h, fun t r e => by rw [hzip]; exact F t r e, by rw [hzip]; exact (hsz _ _).trans h3, ⟨fun _ _ e => e, .nil⟩⟩
  refine wpIn_mono (XRun.sound ok (x (some b)) ⟨E.b, E.fr, h⟩ h β _ w st0) ?_
  rintro e a1 w1 ⟨D1, σ1, H1, h1', β1, q, X1, s1⟩
  have hq : e = .normal ∧ ∃ pend' f' tm' ps' x' y' n', lget H1 i = some (.lp .ready pend' f' tm' ps' x' y' n') ∧ hset H1 i (.lp .busy pend' f' tm' ps' x' y' n') fun H' => XRun P T n' (some b) own y' (xRound i K) D1 σ1 H' := by
    unfold xBegin at q; split at q
    · rename_i hh; exact ⟨rfl, _, _, _, _, _, _, _, hh, q⟩
    · exact q.elim
  obtain ⟨rfl, pend', f', tm', ps', x', y', n', g1, g2⟩ := hq
  rw [lget_eq] at g1
  have hβ1 : β1 i = β i ∧ body = y' ∧ N = n' := by
    rcases X1.to _ _ _ hl g1 with hd | ⟨_, _, he, hb1⟩
    · cases hd
    · cases he; exact ⟨hb1, rfl, rfl⟩
  obtain ⟨hβ1, rfl, rfl⟩ := hβ1
  rw [hβ] at hβ1
  obtain ⟨b', dfr', tmps', k1, k2, k3, k4⟩ := s1.sr.blk _ _ g1
  rw [hβ1] at k1; cases k1
  obtain ⟨hlt, g3⟩ := hset_spec g2
  refine ⟨_, run_beginRound k2 rfl, ?_⟩
  have hbo : blkOf β1 H1 i = some b := by simp only [blkOf, g1, hβ1]; rfl
  have hbs : b < w1.heap.size := (Array.getElem?_eq_some_iff.1 k2).1
  obtain ⟨s2, X2⟩ := s1.sr.modify (β' := β1) (w' := w1.putObj b (.loop { state := .busy, pending := pend', fn := f', tmps := tmps', params := ps', assign := x', body := body, defers := dfr' })) (x' := .lp .busy pend' f' tm' ps' x' body N) g1 (fun _ _ => rfl) (.inr ⟨_, _, rfl, rfl⟩) s1.sr.env
    (fun q _ hn => World.putObj_heap_other (fun e => hn (by rw [hbo, e]))) (fun b e => .inl (by rw [hbo]; rw [hβ1] at e; exact e)) (fun X => ⟨b, dfr', tmps', hβ1, World.putObj_heap_same hbs, k3, fun t r e => let ⟨v, p1, p2⟩ := k4 t r e; ⟨v, p1, X.rep p2⟩⟩)
  refine wpIn_mono (XRun.sound ok g3 ⟨E.b, E.fr, h⟩ _ _ _ _ ⟨s2, s1.fits.ext X2, s1.size, s1.df.ext X2⟩) ?_
  rintro e a3 w3 ⟨D3, σ3, H3, h3', β3, q3, X3, s3⟩
  unfold xRound at q3
  split at q3
  case h_2 => exact q3.elim
  rename_i st4 pend4 f4 tm4 ps4 x4 y4 n4 m1
  rw [lget_eq] at m1
  have hg2 : (H1.set i (.lp .busy pend' f' tm' ps' x' body N))[i]? = some (.lp .busy pend' f' tm' ps' x' body N) := by simp [hlt]
  have hβ3 : β3 i = .pointer (some ⟨b, 0, none⟩) := by
    rcases X3.to _ _ _ hg2 m1 with hd | ⟨_, _, he, hb1⟩
    · cases hd
    · rw [hb1, hβ1]
  obtain ⟨b', dfr4, tmps4, o1, o2, o3, o4⟩ := s3.sr.blk _ _ m1
  rw [hβ3] at o1; cases o1
  have hbo3 : blkOf β3 H3 i = some b := by simp only [blkOf, m1, hβ3]; rfl
  have hbs3 : b < w3.heap.size := (Array.getElem?_eq_some_iff.1 o2).1
  have Xto := X1.trans (X2.trans X3)
  have fin : ∀ (jump : Option Code) (st' : LoopState), st' = (if jump.isNone then .ready else .done) → (hset H3 i (.lp st' jump f4 tm4 ps4 x4 y4 n4) fun H' => K (.bool jump.isNone) H') →
      ∃ v w', (Instr.endRound b jump).run P w3 = .ok v w' ∧ Ends P E h β H K (.returned v) w' := by
    intro jump st' hst hk
    subst hst
    obtain ⟨_, hk2⟩ := hset_spec hk
    obtain ⟨s4, X4⟩ := s3.sr.modify (β' := β3) (w' := w3.putObj b (.loop { state := (if jump.isNone then .ready else .done), pending := jump, fn := f4, tmps := tmps4, params := ps4, assign := x4, body := y4, defers := dfr4 })) (x' := .lp (if jump.isNone then .ready else .done) jump f4 tm4 ps4 x4 y4 n4) m1 (fun _ _ => rfl) (.inr ⟨_, _, rfl, rfl⟩) s3.sr.env
      (fun q _ hn => World.putObj_heap_other (fun e => hn (by rw [hbo3, e]))) (fun b e => .inl (by rw [hbo3]; rw [hβ3] at e; exact e)) (fun X => ⟨b, dfr4, tmps4, hβ3, World.putObj_heap_same hbs3, o3, fun t r e => let ⟨v, p1, p2⟩ := o4 t r e; ⟨v, p1, X.rep p2⟩⟩)
    refine ⟨_, _, run_endRound jump o2, .bool jump.isNone, _, _, _, _, rfl, hk2, Xto.trans X4, ?_, .bool _⟩
    exact s4.unen
  cases e with
  | normal => exact fin none .ready rfl q3
  | ret => exact fin (some .ret) .done rfl q3
  | exit id => exact fin (some (.exit id)) .done rfl q3
  | _ => exact q3.elim
end
end GA
end

section
namespace GA
open Go Go.RowKit
set_option linter.unusedVariables false

def xMarks : List Nat → List Blk → (List Blk → Prop) → Prop
  | [], H, k => k H
  | i :: D, H, k => match lget H i with
    | some (.raw (.deferred (some []))) => hset H i (.raw (.deferred none)) fun H' => xMarks D H' k
    | _ => False
def XIn (T : Tab) (res : List ResultVar) (k : AV → List Blk → Prop) : Post := fun e D σ H =>
  match e with
  | .normal | .ret => xMarks D H fun H' => xRes T σ H' res fun rs => k (pack rs) H'
  | _ => False
def XFm (P : Program) (T : Tab) (res : List ResultVar) (r0 : AV) : Post := XIn T res fun r H => XOut P H r r0

section
variable {P : Program} {T : Tab} {N : Nat} {ρ : Option Nat} {own : List Nat} {E : Env} {h : Nat → Option Obj} {β : Nat → Value} {H : List Blk} {w : World} {σ : St} {a : Act}

theorem leavesX {fn : Func} {k : AV → List Blk → Prop} {h0 : Nat → Option Obj} {β0 : Nat → Value} {H0 : List Blk} (ok : TabOk P T) (hen : ∀ b, E.en b = none → h0 b = none) : ∀ (ds : List Deferred) (D : List Nat) (h : Nat → Option Obj) (β : Nat → Value) (H : List Blk) (w : World), Ext h0 β0 H0 h β H → SR P E h β H w → Fits P h β H σ a → DfOk P E h β H D ds →
      xMarks D H (fun H' => xRes T σ H' fn.results.toList fun rs => k (pack rs) H') → LeavesInM (FW none) 0 P fn a.tmps (Ends P E h0 β0 H0 k) ds .returning w
  | [], D, h, β, H, w, X, s, F, df, hk => by
    obtain ⟨_, df⟩ := df
    cases df
    obtain ⟨v, rs, e1, e2, e3⟩ := results_run (fn := fn) s F (xRes_sound ok hk)
    exact ⟨v, e1, pack rs, H, h, β, v, rfl, e3, X, s, e2⟩
  | d :: ds, D, h, β, H, w, X, s, F, ⟨hen2, df⟩, hk => by
    cases df with
    | @lost b _ _ hb he nd t =>
      have h4 := s.imm _ _ hb
      have htake := run_takeDeferred (P := P) h4
      refine ⟨by simp, .inl ⟨b, _, rfl, htake, ?_⟩⟩
      exact leavesX ok hen ds D _ β H _ (X.hid (hen _ he)) (s.hid hb _) (F.hid hb) (DfOk.hid hb he ⟨hen2, t⟩ nd) hk
    | @own i b D _ h2 t =>
      unfold xMarks at hk
      split at hk
      case h_2 => exact hk.elim
      rename_i hl
      rw [lget_eq] at hl
      obtain ⟨hlt, hk2⟩ := hset_spec hk
      cases h2 with
      | yld hlv hb =>
        have hb' := hb _ hl rfl
        obtain ⟨b', h3, h4⟩ := s.blk i _ hl
        rw [hb'] at h3; cases h3
        have htake := run_takeDeferred (P := P) h4
        have hbo : blkOf β H i = some b := by simp only [blkOf, hl, hb']; rfl
        obtain ⟨s', X'⟩ := s.modify (β' := β) (w' := w.putObj b (.deferred none)) (x' := .raw (.deferred none)) hl (fun _ _ => rfl) (.inr ⟨_, rfl, rfl⟩) s.env
          (fun q _ hn => World.putObj_heap_other (fun e => hn (by rw [hbo, e]))) (fun b0 e => .inl (by rw [hbo]; rw [hb'] at e; exact e))
          (fun _ => ⟨b, hb', World.putObj_heap_same (Array.getElem?_eq_some_iff.1 h4).1⟩)
        refine ⟨by simp, .inl ⟨b, _, rfl, htake, ?_⟩⟩
        exact leavesX ok hen ds D h β _ _ (X.trans X') s' (F.ext X') (DfOk.ext ⟨hen2, t⟩ X') hk2

theorem ACall.inl {f : FuncId} {fn : Func} {c : Code} {rs : List AV} {res : List ResultVar} {k : AV → List Blk → Prop} (ok : TabOk P T) (own : List Nat) (hf : P.funcs[f]? = some fn) (hb : fn.body = some c) (hn : (fn.name == "runtime.NumGoroutine") = false)
    (hN : fn.ntmps = N) (hr : fn.results = res.toArray) (hl : rs.length ≤ N) (x : XRun P T N none own c (XIn T res k) [] (argX rs) H) : ACall P f rs H k := by
  refine ⟨⟨fn, hf, hn, by rw [hb]; rfl⟩, fun E h β w vs s hrs => ?_⟩
  refine (show CallsIn (FW none) 0 P f vs.toArray w (Ends P ⟨E.b, E.fr, h⟩ h β H k) from ?_).mono fun _ _ => Ends.unen
  refine callsIn_of_wp_marks hf hb trivial ?_ rfl
  have hsz : (vs.toArray ++ Array.replicate (fn.ntmps - vs.toArray.size) undef).size = N := by simp [hrs.1]; omega
  refine wpIn_mono (XRun.sound (own := own) ok x ⟨E.b, E.fr, h⟩ h β _ w ⟨s.en h, fun t r e => ?_, hsz, ⟨fun _ _ e => e, .nil⟩⟩) ?_
  · rw [argX_eq] at e
    obtain ⟨v, h1, h2⟩ := hrs.2 t r e
    refine ⟨v, ?_, h2⟩
    rw [Array.getElem?_append_left (by simpa using (List.getElem?_eq_some_iff.1 h1).1)]; simpa using h1
  · rintro e a' w' ⟨D', σ', H', h', β', q, X, s'⟩
    have hq : (e = .normal ∨ e = .ret) ∧ xMarks D' H' fun H' => xRes T σ' H' fn.results.toList fun rs => k (pack rs) H' := by
      rw [hr]
      unfold XIn at q; split at q
      · exact ⟨.inl rfl, q⟩
      · exact ⟨.inr rfl, q⟩
      · exact q.elim
    obtain ⟨he, q⟩ := hq
    have hL : LeavesInM (FW none) 0 P fn a'.tmps (Ends P ⟨E.b, E.fr, h⟩ h β H k) a'.defers .returning w' :=
      leavesX ok (fun _ e => e) a'.defers D' h' β' H' w' X s'.sr s'.fits s'.df q
    rcases he with rfl | rfl <;> exact hL

theorem Comp.body' {f : FuncId} {fn : Func} {c : Code} {rs : List AV} {res : List ResultVar} {r0 : AV} (ok : TabOk P T) (own : List Nat) (hf : P.funcs[f]? = some fn) (hb : fn.body = some c) (hn : (fn.name == "runtime.NumGoroutine") = false)
    (hN : fn.ntmps = N) (hr : fn.results = res.toArray) (hl : rs.length ≤ N) (hlo : lowL 0 rs = true) (x : XRun P T N none own c (XFm P T res r0) [] (argX rs) []) : Comp P f rs r0 := by
  refine ⟨hlo, ?_⟩
  obtain ⟨h1, h2⟩ := ACall.inl ok own hf hb hn hN hr hl x
  refine ⟨h1, fun E h β w vs s hrs => (h2 E h β w vs s hrs).mono ?_⟩
  rintro e w' ⟨r, H', h', β', v, rfl, hk, X, s', hrep⟩
  exact ⟨r0, [], hall h' β' H' w', β', v, rfl, ⟨rfl, rfl⟩, ⟨fun b o eb => hall_imm s' (X.imm b o eb), Nat.le_refl _, by simp⟩, s'.all, hk.o E h' β' w' s' v hrep⟩

theorem XRun.monoX (ok : TabOk P T) {c : Code} {Q Q' : Post} {D : List Nat} (hq : ∀ e D σ H, Q e D σ H → Q' e D σ H) (x : XRun P T N ρ own c Q D σ H) : AWp P N ρ c Q' D σ H := (XRun.sound ok x).mono hq
theorem ACall.inl0 {f : FuncId} {fn : Func} {c : Code} {rs : List AV} {res : List ResultVar} {k : AV → List Blk → Prop} (ok : TabOk P T) (own : List Nat) (hf : P.funcs[f]? = some fn) (hb : fn.body = some c) (hn : (fn.name == "runtime.NumGoroutine") = false)
    (hN : fn.ntmps = N) (hr : fn.results = res.toArray) (hl : rs.length ≤ N) (x : AWp P N none c (XIn T res k) [] (argX rs) H) : ACall P f rs H k := by
  refine ⟨⟨fn, hf, hn, by rw [hb]; rfl⟩, fun E h β w vs s hrs => ?_⟩
  refine (show CallsIn (FW none) 0 P f vs.toArray w (Ends P ⟨E.b, E.fr, h⟩ h β H k) from ?_).mono fun _ _ => Ends.unen
  refine callsIn_of_wp_marks hf hb trivial ?_ rfl
  have hsz : (vs.toArray ++ Array.replicate (fn.ntmps - vs.toArray.size) undef).size = N := by simp [hrs.1]; omega
  refine wpIn_mono (x ⟨E.b, E.fr, h⟩ h β _ w ⟨s.en h, fun t r e => ?_, hsz, ⟨fun _ _ e => e, .nil⟩⟩) ?_
  · rw [argX_eq] at e
    obtain ⟨v, h1, h2⟩ := hrs.2 t r e
    refine ⟨v, ?_, h2⟩
    rw [Array.getElem?_append_left (by simpa using (List.getElem?_eq_some_iff.1 h1).1)]; simpa using h1
  · rintro e a' w' ⟨D', σ', H', h', β', q, X, s'⟩
    have hq : (e = .normal ∨ e = .ret) ∧ xMarks D' H' fun H' => xRes T σ' H' fn.results.toList fun rs => k (pack rs) H' := by
      rw [hr]
      unfold XIn at q; split at q
      · exact ⟨.inl rfl, q⟩
      · exact ⟨.inr rfl, q⟩
      · exact q.elim
    obtain ⟨he, q⟩ := hq
    have hL : LeavesInM (FW none) 0 P fn a'.tmps (Ends P ⟨E.b, E.fr, h⟩ h β H k) a'.defers .returning w' :=
      leavesX ok (fun _ e => e) a'.defers D' h' β' H' w' X s'.sr s'.fits s'.df q
    rcases he with rfl | rfl <;> exact hL
theorem Comp.body {f : FuncId} {fn : Func} {c : Code} {rs : List AV} {res : List ResultVar} {r0 : AV} (ok : TabOk P T) (own : List Nat) (hf : P.funcs[f]? = some fn) (hb : fn.body = some c) (hn : (fn.name == "runtime.NumGoroutine") = false)
    (hN : fn.ntmps = N) (hr : fn.results = res.toArray) (hl : rs.length ≤ N) (hlo : lowL 0 rs = true) (x : XRun P T N none own c (XFn P T res r0) [] (argX rs) []) : Comp P f rs r0 := by
  refine ⟨hlo, ?_⟩
  obtain ⟨h1, h2⟩ := ACall.inl0 (k := fun r H => XOut P H r r0) ok own hf hb hn hN hr hl (XRun.monoX ok (fun e D σ H q => by
    unfold XFn at q
    split at q
    · exact q
    · exact q
    · exact q.elim) x)
  refine ⟨h1, fun E h β w vs s hrs => (h2 E h β w vs s hrs).mono ?_⟩
  rintro e w' ⟨r, H', h', β', v, rfl, hk, X, s', hrep⟩
  exact ⟨r0, [], hall h' β' H' w', β', v, rfl, ⟨rfl, rfl⟩, ⟨fun b o eb => hall_imm s' (X.imm b o eb), Nat.le_refl _, by simp⟩, s'.all, hk.o E h' β' w' s' v hrep⟩

theorem XCall.inl {f : FuncId} {fn : Func} {c : Code} {rs : List AV} {res : List ResultVar} {k : AV → List Blk → Prop} (ok : TabOk P T) (own : List Nat) (hf : P.funcs[f]? = some fn) (hb : fn.body = some c) (hn : (fn.name == "runtime.NumGoroutine") = false)
    (hN : fn.ntmps = N) (hr : fn.results = res.toArray) (hl : rs.length ≤ N) (x : XRun P T N none own c (XIn T res k) [] (argX rs) H) : XCall P f rs H k :=
  ⟨.inl ok own hf hb hn hN hr hl x⟩

theorem Walk.nilgr {c : Code} {Q : Post} {D : List Nat} (t : Nat) (te : TypeId) (ht : σ t = some (.sl true [])) (x : Walk P N ρ c Q D (updX σ t (.gr H.length 0)) (H ++ [.grow te true []])) : Walk P N ρ c Q D σ H := by
  constructor
  intro E h β a w s
  obtain ⟨s', X⟩ := s.sr.push (w' := w) s.sr.env (fun _ _ => rfl) (.slice none 0 0) (.grow te true []) (by intro b hb; simp [anchor] at hb) (fun _ => .inl ⟨rfl, rfl, by simp [upb]⟩)
  refine wpIn_mono (x.o E h _ a w ⟨s', fun u r e => ?_, s.size, s.df.ext X⟩) fun _ _ _ => Conc.ext X
  rw [updX_eq] at e; unfold upd at e
  split at e
  · rename_i hu; subst hu; cases e
    obtain ⟨v, h1, h2⟩ := s.fits u _ ht
    cases h2
    refine ⟨_, h1, .gr rfl (.push rfl) fun t' nl els e => ?_⟩
    rw [List.getElem?_append_right (Nat.le_refl _)] at e; simp at e; obtain ⟨_, _, rfl⟩ := e
    exact ⟨Nat.le_refl _, fun _ => by simp [upb]⟩
  · obtain ⟨v, h1, h2⟩ := s.fits u r e
    exact ⟨v, h1, X.rep h2⟩
end
end GA
end

section
namespace GA
open Go Go.RowKit
set_option linter.unusedVariables false

section
variable {P : Program} {T : Tab} {N : Nat} {ρ : Option Nat} {own : List Nat} {E : Env} {h : Nat → Option Obj} {β : Nat → Value} {H : List Blk} {w : World} {σ σ' : St} {a : Act}

def Knows (σ σ' : St) (l : List Operand) : Prop := ∀ t, Operand.tmp t ∈ l → ∀ r, σ t = some r → σ' t = some r
theorem Knows.ev {l : List Operand} (k : Knows σ σ' l) {x : Operand} (hx : x ∈ l) {r : AV} (e : ev σ x = some r) : ev σ' x = some r := by
  cases x with
  | tmp t => exact k t hx r e
  | _ => exact e
theorem Knows.evL {l : List Operand} (k : Knows σ σ' l) : ∀ {xs : List Operand} {rs : List AV}, (∀ x ∈ xs, x ∈ l) → evL σ xs = some rs → evL σ' xs = some rs
  | [], _, _, e => e
  | x :: xs, rs, hx, e => by
    unfold GA.evL at e ⊢
    split at e <;> cases e
    rename_i h1 h2
    rw [k.ev (hx x (by simp)) h1, k.evL (fun y hy => hx y (by simp [hy])) h2]
theorem Knows.evP {l : List Operand} (k : Knows σ σ' l) : ∀ {xs : List (Nat × Operand)} {rs : List (Nat × AV)}, (∀ x ∈ xs.map (·.2), x ∈ l) → evP σ xs = some rs → evP σ' xs = some rs
  | [], _, _, e => e
  | (i, x) :: xs, rs, hx, e => by
    unfold GA.evP at e ⊢
    split at e <;> cases e
    rename_i h1 h2
    rw [k.ev (hx x (by simp)) h1, k.evP (fun y hy => hx y (by simp at hy ⊢; exact .inr hy)) h2]
theorem Knows.evO {l : List Operand} (k : Knows σ σ' l) {x : Option Operand} {r : Option AV} (hx : ∀ y, x = some y → y ∈ l) (e : evO σ x = some r) : evO σ' x = some r := by
  cases x with
  | none => exact e
  | some y =>
    simp only [GA.evO] at e ⊢
    cases h1 : GA.ev σ y with
    | none => rw [h1] at e; cases e
    | some z => rw [h1] at e; rw [k.ev (hx y rfl) h1]; exact e

theorem Knows.b {l : List Operand} (k : Knows σ σ' l) {x : Operand} (hx : x ∈ l) {K : AV → Prop} (e : bnd (GA.ev σ x) K) : bnd (GA.ev σ' x) K := by
  obtain ⟨r, h1, h2⟩ := bnd_elim e; rw [k.ev hx h1]; exact h2
theorem AOp_look {op : Op} {d : Option Nat} {K : AV → List Blk → Prop} (k : Knows σ σ' op.operands.toList) (x : AOp P own d σ H K op) : AOp P own d σ' H K op := by
  cases op with
  | move a => exact k.b (by simp [Op.operands]) x
  | assign a => exact k.b (by simp [Op.operands]) x
  | pick c a b =>
    refine bnd_mono (k.b (x := c) (by simp [Op.operands]) x) fun r _ h => ?_
    split at h
    · exact ⟨fun e => k.b (by simp [Op.operands]) (h.1 e), fun e => k.b (by simp [Op.operands]) (h.2 e)⟩
    · exact h
  | alloc t => exact x
  | box t a => exact k.b (by simp [Op.operands]) x
  | build t ps => obtain ⟨r, h1, h2⟩ := bnd_elim x; show bnd _ _; rw [k.evP (by simp [Op.operands]) h1]; exact h2
  | buildSlice t n ps => obtain ⟨r, h1, h2⟩ := bnd_elim x; show bnd _ _; rw [k.evP (by simp [Op.operands]) h1]; exact h2
  | load t a => exact k.b (by simp [Op.operands]) x
  | store t a v => exact bnd_mono (k.b (x := a) (by simp [Op.operands]) x) fun r _ h => k.b (by simp [Op.operands]) h
  | nilCheck a => exact k.b (by simp [Op.operands]) x
  | binOp op t a b y => exact bnd_mono (k.b (x := a) (by simp [Op.operands]) x) fun r _ h => k.b (by simp [Op.operands]) h
  | unOp op t a => exact k.b (by simp [Op.operands]) x
  | convert s d a => exact k.b (by simp [Op.operands]) x
  | makeFunc fn first caps =>
    cases fn with
    | func f =>
      rcases x with ⟨h0, h⟩ | ⟨h0, h⟩
      · obtain ⟨r, h1, h2⟩ := bnd_elim h
        refine .inl ⟨h0, ?_⟩
        rw [k.evL (by simp [Op.operands]; exact fun _ h => .inr h) h1]; exact h2
      · obtain ⟨r, h1, h2⟩ := bnd_elim h
        refine .inr ⟨h0, ?_⟩
        rw [k.evL (by simp [Op.operands]; exact fun _ h => .inl h) h1]; exact h2
    | _ => exact x
  | makeSlice t a b => exact bnd_mono (k.b (x := a) (by simp [Op.operands]) x) fun r _ h => k.b (by simp [Op.operands]) h
  | slice t a lo hi mx =>
    refine bnd_mono (k.b (x := a) (by simp [Op.operands]) x) fun r _ h => ?_
    obtain ⟨l1, g1, h⟩ := bnd_elim h
    obtain ⟨l2, g2, h⟩ := bnd_elim h
    obtain ⟨l3, g3, h⟩ := bnd_elim h
    rw [k.evO (by rintro y rfl; simp [Op.operands]) g1, bnd_some, k.evO (by rintro y rfl; simp [Op.operands]) g2, bnd_some, k.evO (by rintro y rfl; simp [Op.operands]) g3, bnd_some]
    exact h
  | fieldAddr t a f => exact k.b (by simp [Op.operands]) x
  | field t a f => exact k.b (by simp [Op.operands]) x
  | indexAddr t a b => exact bnd_mono (k.b (x := a) (by simp [Op.operands]) x) fun r _ h => k.b (by simp [Op.operands]) h
  | index t a b => exact bnd_mono (k.b (x := a) (by simp [Op.operands]) x) fun r _ h => k.b (by simp [Op.operands]) h
  | extract a i => exact k.b (by simp [Op.operands]) x
  | makeMap t r => exact x
  | lookup t a b ok => exact bnd_mono (k.b (x := a) (by simp [Op.operands]) x) fun r _ h => k.b (by simp [Op.operands]) h
  | mapUpdate t m a b => exact bnd_mono (k.b (x := m) (by simp [Op.operands]) x) fun r _ h => bnd_mono (k.b (x := a) (by simp [Op.operands]) h) fun r _ h => k.b (by simp [Op.operands]) h
  | insert t m a b => exact bnd_mono (k.b (x := m) (by simp [Op.operands]) x) fun r _ h => bnd_mono (k.b (x := a) (by simp [Op.operands]) h) fun r _ h => k.b (by simp [Op.operands]) h
  | call c =>
    obtain ⟨callee, args, argTypes⟩ := c
    change opCall P σ H _ K at x
    change opCall P σ' H _ K
    unfold opCall at x ⊢
    cases callee with
    | value f =>
      refine bnd_mono (k.b (x := f) (by simp [Op.operands, Call.operands]) x) fun fv _ h => ?_
      obtain ⟨rs, h1, h2⟩ := bnd_elim h
      rw [k.evL (by simp [Op.operands, Call.operands]; exact fun _ h => .inr h) h1]; exact h2
    | builtin b =>
      obtain ⟨rs, h1, h2⟩ := bnd_elim x
      simp only
      rw [k.evL (by simp [Op.operands, Call.operands]) h1]; exact h2
    | invoke r m => exact x
  | _ => exact x
end
end GA
end

section
namespace GA
open Go Go.RowKit
set_option linter.unusedVariables false

def dep (o : Oper) (j : Nat) : Bool := o.after.toList.any fun e => Region.binds .any e && Nat.beq e.on j
def flagsOf (eff : List Nat) (listed : Array Bool) : List Bool := eff.map fun j => listed.getD j false
def setF (eff : List Nat) (i : Nat) (fl : List Bool) : List Bool := List.zipWith (fun j b => b || Nat.beq j i) eff fl
def opAt (ops : List Oper) (j : Nat) (f : Oper → Bool) : Bool := match lget ops j with | some o => f o | none => true
def compat (ops : List Oper) (eff : List Nat) (i : Nat) (fl : List Bool) : Bool :=
  (eff.zip fl).all fun (j, b) =>
    (opAt ops i fun o => !dep o j || b) && (!Nat.beq j i || !b) && (opAt ops j fun o => !dep o i || !b) &&
    (!b || (eff.zip fl).all fun (j', b') => opAt ops j fun o => !dep o j' || b')

structure XSame (r : AV) (H : List Blk) (r0 : AV) (H0 : List Blk) : Prop where
  r : r = r0
  h : H = H0

section
variable (P : Program) (T : Tab) (N : Nat) (own : List Nat) (ops : List Oper) (eff : List Nat) (HS : List Bool → List Blk)
def Chk (i : Nat) (o : Oper) (σ : St) (r : AV) (fl : List Bool) : Prop :=
  xGate ops σ o.guard (fun σ => XOp P T own o.dst σ (HS fl) (fun r' H' => XSame r' H' r (HS (setF eff i fl))) o.op) (fun _ => XSame (.tup []) (HS fl) r (HS (setF eff i fl)))
def ChkAll : Nat → List Oper → List AV → St → Prop
  | _, [], [], _ => True
  | i, o :: l, r :: R, σ => (∀ fl, fl.length = eff.length → compat ops eff i fl = true → Chk P T own ops eff HS i o σ r fl) ∧ ChkAll (i + 1) l R (putX N σ o.dst r)
  | _, _, _, _ => False
end
def xFold (N : Nat) : List Oper → List AV → St → St
  | o :: l, r :: R, σ => xFold N l R (putX N σ o.dst r)
  | _, _, σ => σ

section
variable {P : Program} {T : Tab} {N : Nat} {ρ : Option Nat} {own : List Nat} {E : Env} {h : Nat → Option Obj} {β : Nat → Value} {H : List Blk} {w : World} {σ σ' : St} {a : Act} {ops : List Oper} {eff : List Nat} {HS : List Bool → List Blk}

theorem ChkAll.get : ∀ {l : List Oper} {R : List AV} {i : Nat} {σ : St}, ChkAll P T N own ops eff HS i l R σ → l.length = R.length ∧ ∀ (j : Nat) o, l[j]? = some o → ∃ r, R[j]? = some r ∧
      ∀ fl, fl.length = eff.length → compat ops eff (i + j) fl = true → Chk P T own ops eff HS (i + j) o (xFold N (l.take j) (R.take j) σ) r fl
  | [], [], _, _, _ => ⟨rfl, by simp⟩
  | o :: l, r :: R, i, σ, h => by
    obtain ⟨h1, h2⟩ := h
    obtain ⟨h3, h4⟩ := ChkAll.get h2
    refine ⟨by simp [h3], fun j o' e => ?_⟩
    cases j with
    | zero => simp at e; subst e; exact ⟨r, rfl, h1⟩
    | succ j =>
      obtain ⟨r', e1, e2⟩ := h4 j o' (by simpa using e)
      refine ⟨r', by simpa using e1, fun fl hf hc => ?_⟩
      have := e2 fl hf (by rwa [show i + 1 + j = i + (j + 1) by omega])
      rw [show i + 1 + j = i + (j + 1) by omega] at this
      exact this
  | [], _ :: _, _, _, h => h.elim
  | _ :: _, [], _, _, h => h.elim

theorem putX_get {N : Nat} {σ : St} {d : Option Nat} {r x : AV} {t : Nat} (e : putX N σ d r t = some x) : (d = some t ∧ t < N ∧ x = r) ∨ ((d ≠ some t ∨ ¬ t < N) ∧ σ t = some x) := by
  rw [putX_eq] at e
  cases d with
  | none => exact .inr ⟨.inl (by simp), e⟩
  | some d =>
    simp only [putO] at e
    split at e
    · rename_i hd; unfold upd at e; split at e
      · rename_i ht; subst ht; cases e; exact .inl ⟨rfl, hd, rfl⟩
      · rename_i ht; exact .inr ⟨.inl (by intro hh; cases hh; exact ht rfl), e⟩
    · rename_i hd
      by_cases ht : d = t
      · subst ht; exact .inr ⟨.inr hd, e⟩
      · exact .inr ⟨.inl (by intro hh; cases hh; exact ht rfl), e⟩

theorem xFold_get {N : Nat} : ∀ {l : List Oper} {R : List AV} {σ : St} {t : Nat} {x : AV}, l.length = R.length → xFold N l R σ t = some x →
    (∃ (j : Nat) (o : Oper), l[j]? = some o ∧ o.dst = some t ∧ t < N ∧ R[j]? = some x ∧ ∀ (k : Nat) o', l[k]? = some o' → j < k → o'.dst ≠ some t) ∨
    ((∀ (k : Nat) o', l[k]? = some o' → o'.dst ≠ some t ∨ ¬ t < N) ∧ σ t = some x)
  | [], R, σ, t, x, hl, e => by
    right; refine ⟨by simp, ?_⟩
    cases R <;> exact e
  | o :: l, [], _, _, _, hl, _ => by simp at hl
  | o :: l, r :: R, σ, t, x, hl, e => by
    rcases xFold_get (l := l) (R := R) (by simpa using hl) e with ⟨j, o', h1, h2, h3, h4, h5⟩ | ⟨h1, h2⟩
    · left
      refine ⟨j + 1, o', by simpa using h1, h2, h3, by simpa using h4, fun k o'' hk hj => ?_⟩
      cases k with
      | zero => omega
      | succ k => exact h5 k o'' (by simpa using hk) (by omega)
    · rcases putX_get h2 with ⟨g1, g2, g3⟩ | ⟨g1, g2⟩
      · left
        refine ⟨0, o, rfl, g1, g2, by simp [g3], fun k o' hk hj => ?_⟩
        cases k with
        | zero => omega
        | succ k =>
          rcases h1 k o' (by simpa using hk) with h | h
          · exact h
          · exact absurd g2 h
      · right
        refine ⟨fun k o' hk => ?_, g2⟩
        cases k with
        | zero => simp at hk; subst hk; exact g1
        | succ k => exact h1 k o' (by simpa using hk)

theorem lex_spec {ops : Array Oper} : ∀ (fuel k : Nat) (listed : Array Bool), listed.size = ops.size → (∀ j, listed.getD j true = false ↔ k ≤ j ∧ j < ops.size) → k + fuel = ops.size → Region.lexFrom .any ops fuel k listed = true →
    ∀ i o, k ≤ i → ops[i]? = some o → (∀ e ∈ o.after, Region.binds .any e = true → e.on < i) ∧ ∀ (j : Nat) oj, i < j → ops[j]? = some oj → (∀ e ∈ oj.after, Region.binds .any e = true → e.on ≠ i) → o.apart ops oj = true
  | 0, k, listed, _, _, hk, _, i, o, hi, ho => by have := (Array.getElem?_eq_some_iff.1 ho).1; omega
  | fuel + 1, k, listed, hs, hl, hk, hB, i, o, hi, ho => by
    simp only [Region.lexFrom, Bool.and_eq_true] at hB
    obtain ⟨⟨hr, hf⟩, hB'⟩ := hB
    rcases Nat.lt_or_eq_of_le hi with hlt | rfl
    · refine lex_spec fuel (k + 1) (listed.setIfInBounds k true) (by simpa using hs) (fun j => ?_) (by omega) hB' i o (by omega) ho
      by_cases hjk : k = j
      · subst hjk
        have : k < listed.size := by omega
        simp [this]; omega
      · rw [getD_set_ne true hjk, hl j]; omega
    · have hr' : k ∈ Region.ready .any ops listed := by simpa using hr
      obtain ⟨_, o', ho', hall⟩ := mem_ready.1 hr'
      rw [ho] at ho'; cases ho'
      refine ⟨fun e he hb => ?_, fun j oj hj hoj hno => Region.free_spec ho hf j oj hoj (by omega) ((hl j).2 ⟨by omega, (Array.getElem?_eq_some_iff.1 hoj).1⟩) hno⟩
      have h1 := hall e he hb
      rcases Nat.lt_or_ge e.on k with h | h
      · exact h
      · exfalso
        rcases Nat.lt_or_ge e.on ops.size with h' | h'
        · have h2 := (hl e.on).2 ⟨h, h'⟩
          simp at h1 h2
          rcases Nat.lt_or_ge e.on listed.size with h3 | h3
          · simp [h3] at h1 h2; rw [h2] at h1; cases h1
          · simp [Array.getElem?_eq_none h3] at h1
        · have h3 : listed.size ≤ e.on := by omega
          simp [Array.getElem?_eq_none h3] at h1
end
end GA
end

section
namespace GA
open Go Go.RowKit
set_option linter.unusedVariables false

section
variable {P : Program} {T : Tab} {N : Nat} {ρ : Option Nat} {own : List Nat} {E : Env} {h : Nat → Option Obj} {β : Nat → Value} {H : List Blk} {w : World} {σ σ' : St} {a : Act} {ops : List Oper} {eff : List Nat} {HS : List Bool → List Blk}

def isL (listed : Array Bool) (j : Nat) : Prop := listed.getD j false = true
def Closed (ops : List Oper) (listed : Array Bool) : Prop := ∀ (j : Nat) o, ops[j]? = some o → isL listed j → ∀ e ∈ o.after, Region.binds .any e = true → isL listed e.on
structure DInv (P : Program) (E : Env) (N : Nat) (ops : List Oper) (eff : List Nat) (HS : List Bool → List Blk) (R : List AV) (σ : St) (a0 : Act) (h0 : Nat → Option Obj) (β0 : Nat → Value) (H0 : List Blk) (listed : Array Bool) (a : Act) (w : World) : Prop where
  size : listed.size = ops.length
  closed : Closed ops listed
  st : ∃ h β, Ext h0 β0 H0 h β (HS (flagsOf eff listed)) ∧ SR P E h β (HS (flagsOf eff listed)) w ∧
    (∀ t r, σ t = some r → (∀ (j : Nat) o, ops[j]? = some o → isL listed j → o.dst ≠ some t ∨ ¬ t < N) → ∃ v, a.tmps[t]? = some v ∧ Rep P h β (HS (flagsOf eff listed)) r v) ∧
    (∀ (j : Nat) o d r, ops[j]? = some o → isL listed j → o.dst = some d → d < N → R[j]? = some r → (∀ (k : Nat) ok, ops[k]? = some ok → isL listed k → j < k → ok.dst ≠ some d) → ∃ v, a.tmps[d]? = some v ∧ Rep P h β (HS (flagsOf eff listed)) r v)
  keeps : Keeps a0 a

theorem dep_iff {o : Oper} {j : Nat} : dep o j = true ↔ ∃ e ∈ o.after, Region.binds .any e = true ∧ e.on = j := by
  unfold dep; rw [List.any_eq_true]
  constructor
  · rintro ⟨e, h1, h2⟩
    simp only [Bool.and_eq_true] at h2
    exact ⟨e, by simpa using h1, h2.1, Nat.eq_of_beq_eq_true h2.2⟩
  · rintro ⟨e, h1, h2, h3⟩
    exact ⟨e, by simpa using h1, by subst h3; simp [h2]⟩
theorem flags_zip {listed : Array Bool} {p : Nat × Bool} : ∀ {eff : List Nat}, p ∈ eff.zip (flagsOf eff listed) → p.2 = listed.getD p.1 false
  | [], h => by simp at h
  | j :: eff, h => by
    simp only [flagsOf, List.map_cons, List.zip_cons_cons] at h
    rcases List.mem_cons.1 h with h | h
    · subst h; rfl
    · exact flags_zip h
theorem opAt_spec {j : Nat} {f : Oper → Bool} (h : ∀ o, ops[j]? = some o → f o = true) : opAt ops j f = true := by
  unfold opAt; rw [lget_eq]; split
  · rename_i e; exact h _ e
  · rfl
theorem compat_flags {listed : Array Bool} {i : Nat} (hc : Closed ops listed) (hi : ¬ isL listed i) (hr : ∀ o, ops[i]? = some o → ∀ e ∈ o.after, Region.binds .any e = true → isL listed e.on) : compat ops eff i (flagsOf eff listed) = true := by
  unfold compat
  rw [List.all_eq_true]
  rintro ⟨j, b⟩ hp
  have hb := flags_zip hp
  simp only at hb; subst hb
  simp only [Bool.and_eq_true]
  refine ⟨⟨⟨opAt_spec fun o ho => ?_, ?_⟩, opAt_spec fun o ho => ?_⟩, ?_⟩
  · cases hd : dep o j with
    | false => rfl
    | true => obtain ⟨e, h1, h2, h3⟩ := dep_iff.1 hd; have := hr o ho e h1 h2; rw [h3] at this; simpa [isL] using this
  · cases hd : Nat.beq j i with
    | false => rfl
    | true => have := Nat.eq_of_beq_eq_true hd; subst this; simpa [isL] using hi
  · cases hd : dep o i with
    | false => rfl
    | true =>
      obtain ⟨e, h1, h2, h3⟩ := dep_iff.1 hd
      cases hl : listed.getD j false with
      | false => rfl
      | true => exact absurd (h3 ▸ hc j o ho hl e h1 h2) hi
  · cases hl : listed.getD j false with
    | false => rfl
    | true =>
      simp only [Bool.not_true, Bool.false_or]
      rw [List.all_eq_true]
      rintro ⟨j', b'⟩ hp'
      have hb' := flags_zip hp'
      simp only at hb'; subst hb'
      refine opAt_spec fun o ho => ?_
      cases hd : dep o j' with
      | false => rfl
      | true => obtain ⟨e, h1, h2, h3⟩ := dep_iff.1 hd; have := hc j o ho hl e h1 h2; rw [h3] at this; simpa [isL] using this

theorem isL_set {listed : Array Bool} {i j : Nat} (hi : i < listed.size) : isL (listed.setIfInBounds i true) j ↔ j = i ∨ isL listed j := by
  unfold isL
  by_cases h : i = j
  · subst h; simp [hi]
  · rw [getD_set_ne false h]; simp [Ne.symm h]
theorem flags_set {listed : Array Bool} {i : Nat} (hi : i < listed.size) : ∀ (eff : List Nat), flagsOf eff (listed.setIfInBounds i true) = setF eff i (flagsOf eff listed)
  | [] => rfl
  | j :: eff => by
    simp only [flagsOf, setF, List.map_cons, List.zipWith_cons_cons]
    congr 1
    · by_cases h : i = j
      · subst h; simp [hi]
      · rw [getD_set_ne false h]
        cases hb : Nat.beq j i with
        | true => exact absurd (Nat.eq_of_beq_eq_true hb).symm h
        | false => simp
    · exact flags_set hi eff

theorem DInv.step {R : List AV} {a0 : Act} {h0 : Nat → Option Obj} {β0 : Nat → Value} {H0 : List Blk} {Q : Exit → Act → World → Prop} (ok : TabOk P T) (hN : a0.tmps.size = N)
    (hlex : ∀ (i : Nat) o, ops[i]? = some o → ∀ (j : Nat) oj, i < j → ops[j]? = some oj → (∀ e ∈ oj.after, Region.binds .any e = true → e.on ≠ i) → o.apart ops.toArray oj = true)
    (hchk : ChkAll P T N own ops eff HS 0 ops R σ) {listed : Array Bool} {a : Act} {w : World} (I : DInv P E N ops eff HS R σ a0 h0 β0 H0 listed a w) {i : Nat} (hi : i ∈ Region.ready .any ops.toArray listed) :
    wpOpIn (FW ρ) 0 P ops.toArray Q i (DInv P E N ops eff HS R σ a0 h0 β0 H0 (listed.setIfInBounds i true)) a w := by
  obtain ⟨hnot, o, ho, hall⟩ := mem_ready.1 hi
  have ho' : ops[i]? = some o := by simpa using ho
  have hilt : i < ops.length := (List.getElem?_eq_some_iff.1 ho').1
  have hils : i < listed.size := by rw [I.size]; exact hilt
  have hni : ¬ isL listed i := by unfold isL; simp [hils] at hnot ⊢; exact hnot
  obtain ⟨hRl, hget⟩ := hchk.get
  obtain ⟨r, hr, hc⟩ := hget i o ho'
  rw [Nat.zero_add] at hc
  have hC := hc (flagsOf eff listed) (by simp [flagsOf]) (compat_flags I.closed hni fun o' h e he hb => by rw [ho'] at h; cases h; exact hall e he hb)
  obtain ⟨h, β, X, s, K1, K2⟩ := I.st
  -- edges
  have edge : ∀ (j : Nat) oj, ops[j]? = some oj → i < j → isL listed j → o.apart ops.toArray oj = true := fun j oj hj hij hl =>
    hlex i o ho' j oj hij hj fun e he hb heq => hni (heq ▸ I.closed j oj hj hl e he hb)
  have edge' : ∀ (j : Nat) oj, ops[j]? = some oj → j < i → ¬ isL listed j → oj.apart ops.toArray o = true := fun j oj hj hij hl =>
    hlex j oj hj i o hij ho' fun e he hb heq => hl (heq ▸ hall e he hb)
  -- what is looked at
  let σ₁ := xFold N (ops.take i) (R.take i) σ
  let σ₂ : St := fun t => if t ∈ o.looksAt ops.toArray then σ₁ t else none
  have hF : Fits P h β (HS (flagsOf eff listed)) σ₂ a := by
    intro t x ex
    simp only [σ₂] at ex
    split at ex
    · rename_i hlook
      rcases xFold_get (by simp [hRl]) ex with ⟨j, oj, h1, h2, h3, h4, h5⟩ | ⟨h1, h2⟩
      · have hji : j < i := by have := (List.getElem?_eq_some_iff.1 h1).1; simp at this; omega
        have h1' : ops[j]? = some oj := by rw [List.getElem?_take, if_pos hji] at h1; exact h1
        have h4' : R[j]? = some x := by rw [List.getElem?_take, if_pos hji] at h4; exact h4
        have hjl : isL listed j := by
          by_cases hl : isL listed j
          · exact hl
          · exact absurd hlook ((Oper.apart_spec (edge' j oj h1' hji hl)).1 t h2)
        refine K2 j oj t x h1' hjl h2 h3 h4' fun k ok hk hkl hjk => ?_
        rcases Nat.lt_trichotomy k i with hki | rfl | hki
        · exact h5 k ok (by rw [List.getElem?_take, if_pos hki]; exact hk) hjk
        · exact absurd hkl hni
        · intro hd; exact (Oper.apart_spec (edge k ok hk hki hkl)).2.2 t hd hlook
      · refine K1 t x h2 fun j oj hj hjl => ?_
        rcases Nat.lt_trichotomy j i with hji | rfl | hji
        · exact h1 j oj (by rw [List.getElem?_take, if_pos hji]; exact hj)
        · exact absurd hjl hni
        · left; intro hd; exact (Oper.apart_spec (edge j oj hj hji hjl)).2.2 t hd hlook
    · cases ex
  have hk2 : Knows σ₁ σ₂ o.op.operands.toList := by
    intro t ht x ex
    have : t ∈ o.looksAt ops.toArray := by
      unfold Oper.looksAt; rw [List.mem_append]; left; rw [List.mem_filterMap]; exact ⟨.tmp t, ht, rfl⟩
    simp only [σ₂]; rw [if_pos this]; exact ex
  have hg1 := xGate_gate hC
  have hg2 : gate ops σ₂ o.guard (XOp P T own o.dst σ₁ (HS (flagsOf eff listed)) (fun r' H' => XSame r' H' r (HS (setF eff i (flagsOf eff listed)))) o.op) (XSame (.tup []) (HS (flagsOf eff listed)) r (HS (setF eff i (flagsOf eff listed)))) := by
    unfold gate at hg1 ⊢
    cases hgd : o.guard with
    | none => rw [hgd] at hg1; exact hg1
    | some p =>
      obtain ⟨j, want⟩ := p
      rw [hgd] at hg1
      obtain ⟨d, e1, e2⟩ := bnd_elim hg1
      obtain ⟨x, e3, e4⟩ := bnd_elim e2
      have : d ∈ o.looksAt ops.toArray := by
        unfold Oper.looksAt; rw [List.mem_append]; right; rw [hgd]; simp only [List.getElem?_toArray, e1]; simp
      have e5 : σ₂ d = some x := by simp only [σ₂]; rw [if_pos this]; exact e3
      simp only [e1, bnd_some, e5]; exact e4
  -- the next state
  have next : ∀ (v : Value) h' β' w', Ext h β (HS (flagsOf eff listed)) h' β' (HS (setF eff i (flagsOf eff listed))) → SR P E h' β' (HS (setF eff i (flagsOf eff listed))) w' → Rep P h' β' (HS (setF eff i (flagsOf eff listed))) r v →
      DInv P E N ops eff HS R σ a0 h0 β0 H0 (listed.setIfInBounds i true) (a.put o.dst v) w' := by
    intro v h' β' w' X' s' hrep
    have hsz : a.tmps.size = N := I.keeps.size.trans hN
    refine ⟨by simpa using I.size, fun j oj hj hl e he hb => ?_, ⟨h', β', ?_, ?_, ?_, ?_⟩, ⟨(size_put _ _ _).trans I.keeps.size, (defers_put _ _ _).trans I.keeps.defers⟩⟩
    · rw [isL_set hils] at hl ⊢
      rcases hl with rfl | hl
      · rw [ho'] at hj; cases hj; exact .inr (hall e he hb)
      · exact .inr (I.closed j oj hj hl e he hb)
    · rw [flags_set hils]; exact X.trans X'
    · rw [flags_set hils]; exact s'
    · rw [flags_set hils]
      intro t x ex hno
      obtain ⟨u, g1, g2⟩ := K1 t x ex fun j oj hj hl => hno j oj hj ((isL_set hils).2 (.inr hl))
      refine ⟨u, ?_, X'.rep g2⟩
      have hd := hno i o ho' ((isL_set hils).2 (.inl rfl))
      cases hdst : o.dst with
      | none => exact g1
      | some d =>
        simp only [Act.put]
        by_cases hdt : d = t
        · subst hdt
          rcases hd with hd | hd
          · exact absurd hdst hd
          · rw [Array.setIfInBounds_eq_of_size_le (by omega)]; exact g1
        · rw [Array.getElem?_setIfInBounds_ne hdt]; exact g1
    · rw [flags_set hils]
      intro j oj d x hj hl hd hdN hx hlast
      rw [isL_set hils] at hl
      by_cases hji : j = i
      · subst hji
        rw [ho'] at hj; cases hj
        rw [hr] at hx; cases hx
        exact ⟨v, by rw [hd]; simp [Act.put, hsz, hdN], hrep⟩
      · have hl : isL listed j := hl.resolve_left hji
        obtain ⟨u, g1, g2⟩ := K2 j oj d x hj hl hd hdN hx fun k ok hk hkl hjk => hlast k ok hk ((isL_set hils).2 (.inr hkl)) hjk
        refine ⟨u, ?_, X'.rep g2⟩
        have hne : o.dst ≠ some d := by
          intro hod
          rcases Nat.lt_trichotomy j i with hlt | heq | hlt
          · exact hlast i o ho' ((isL_set hils).2 (.inl rfl)) hlt hod
          · exact hji heq
          · exact (Oper.apart_spec (edge j oj hj hlt hl)).2.1 d hod hd
        cases hdst : o.dst with
        | none => exact g1
        | some d' =>
          simp only [Act.put]
          rw [Array.getElem?_setIfInBounds_ne (fun e => hne (by rw [hdst, e]))]; exact g1
  unfold wpOpIn
  simp only [ho]
  rcases gate_wanted hF hg2 with ⟨hw, hA⟩ | ⟨hw, hB⟩
  · rw [if_pos hw]
    refine AOp.sound (AOp_look hk2 (hA.sound ok)) s hF ?_
    intro r' H' h' β' w' v hk' X' s' hrep
    obtain ⟨e1, e2⟩ := hk'
    subst e1; subst e2
    exact next v h' β' w' X' s' hrep
  · rw [if_neg (by rw [hw]; simp)]
    refine ⟨fun _ _ => trivial, ?_⟩
    obtain ⟨e1, e2⟩ := hB
    refine next undef h β w ?_ ?_ ?_
    · rw [← e2]; exact Ext.refl _ _ _
    · rw [← e2]; exact s
    · rw [← e1]; exact rep_undef

theorem unl_zero {listed : Array Bool} (h : (List.range listed.size).countP (fun j => !listed.getD j false) = 0) {j : Nat} (hj : j < listed.size) : isL listed j := by
  rw [List.countP_eq_zero] at h
  have := h j (by simpa using hj)
  simpa [isL] using this
theorem unl_set {listed : Array Bool} {i : Nat} (hi : i < listed.size) (hn : ¬ isL listed i) :
    (List.range (listed.setIfInBounds i true).size).countP (fun j => !(listed.setIfInBounds i true).getD j false) + 1 = (List.range listed.size).countP (fun j => !listed.getD j false) := by
  have e : ∀ n, n ≤ listed.size → (List.range n).countP (fun j => !(listed.setIfInBounds i true).getD j false) + (if i < n then 1 else 0) = (List.range n).countP (fun j => !listed.getD j false) := by
    intro n
    induction n with
    | zero => intro _; simp
    | succ n ih =>
      intro hn'
      have ih := ih (by omega)
      rw [List.range_succ, List.countP_append, List.countP_append, ← ih]
      by_cases h : i = n
      · subst h
        have h1 : listed.getD i false = false := by unfold isL at hn; simpa using hn
        have h2 : (listed.setIfInBounds i true).getD i false = true := by simp [hi]
        simp only [List.countP_cons, List.countP_nil, h1, h2]
        simp
      · rw [show List.countP (fun j => !(listed.setIfInBounds i true).getD j false) [n] = List.countP (fun j => !listed.getD j false) [n] by simp only [List.countP_cons, List.countP_nil, getD_set_ne false h]]
        split <;> split <;> omega
  have := e listed.size (Nat.le_refl _)
  rw [if_pos hi] at this
  simpa using this

theorem DInv.any {R : List AV} {a0 : Act} {h0 : Nat → Option Obj} {β0 : Nat → Value} {H0 : List Blk} {Q : Exit → Act → World → Prop} (ok : TabOk P T) (hN : a0.tmps.size = N) (hs : Region.lexB .any ops.toArray = true)
    (hchk : ChkAll P T N own ops eff HS 0 ops R σ) (hQ : ∀ listed a w, DInv P E N ops eff HS R σ a0 h0 β0 H0 listed a w → (∀ j, j < ops.length → isL listed j) → Q .normal a w) :
    ∀ (fuel : Nat) (listed : Array Bool) (a : Act) (w : World), (List.range listed.size).countP (fun j => !listed.getD j false) = fuel → DInv P E N ops eff HS R σ a0 h0 β0 H0 listed a w → wpAnyIn (FW ρ) 0 P .any ops.toArray Q fuel listed a w := by
  simp only [Region.lexB, Bool.and_eq_true] at hs
  have hspec := lex_spec (ops := ops.toArray) ops.toArray.size 0 (Array.replicate ops.toArray.size false) (by simp) (fun j => by
    simp only [Array.getD_eq_getD_getElem?, Array.getElem?_replicate]
    split <;> simp_all) (by simp) hs.2
  have hlex : ∀ (i : Nat) o, ops[i]? = some o → ∀ (j : Nat) oj, i < j → ops[j]? = some oj → (∀ e ∈ oj.after, Region.binds .any e = true → e.on ≠ i) → o.apart ops.toArray oj = true :=
    fun i o ho j oj hij hj hno => (hspec i o (Nat.zero_le _) (by simpa using ho)).2 j oj hij (by simpa using hj) hno
  -- who is ready when nobody is
  have hready : ∀ listed a w, DInv P E N ops eff HS R σ a0 h0 β0 H0 listed a w → Region.ready .any ops.toArray listed = [] → ∀ j, j < ops.length → isL listed j := by
    intro listed a w I hr j
    induction j using Nat.strongRecOn with
    | _ j ih =>
      intro hj
      by_cases hl : isL listed j
      · exact hl
      · exfalso
        have : j ∈ Region.ready .any ops.toArray listed := by
          rw [mem_ready]
          refine ⟨?_, ops[j], by simp [hj], fun e he hb => ?_⟩
          · have hjs : j < listed.size := by rw [I.size]; exact hj
            unfold isL at hl; simp [hjs] at hl ⊢; exact hl
          · have h1 := (hspec j ops[j] (Nat.zero_le _) (by simp [hj])).1 e he hb
            exact ih e.on h1 (by omega)
        rw [hr] at this; cases this
  intro fuel
  induction fuel with
  | zero =>
    intro listed a w hc I
    have hall : ∀ j, j < ops.length → isL listed j := fun j hj => unl_zero hc (by rw [I.size]; exact hj)
    refine ⟨?_, hQ listed a w I hall⟩
    cases hr : Region.ready .any ops.toArray listed with
    | nil => rfl
    | cons j l =>
      have : j ∈ Region.ready .any ops.toArray listed := by rw [hr]; simp
      obtain ⟨h1, o, h2, _⟩ := mem_ready.1 this
      have hj : j < ops.length := by have := (Array.getElem?_eq_some_iff.1 h2).1; simpa using this
      have hjs : j < listed.size := by rw [I.size]; exact hj
      have := hall j hj
      unfold isL at this; simp [hjs] at h1 this; rw [h1] at this; cases this
  | succ fuel ih =>
    intro listed a w hc I
    refine ⟨fun hr => hQ listed a w I (hready listed a w I hr), fun i hi => ?_⟩
    obtain ⟨h1, o, h2, _⟩ := mem_ready.1 hi
    have hj : i < ops.length := by have := (Array.getElem?_eq_some_iff.1 h2).1; simpa using this
    have hjs : i < listed.size := by rw [I.size]; exact hj
    have hn : ¬ isL listed i := by unfold isL; simp [hjs] at h1 ⊢; exact h1
    refine wpOpIn_mono (fun a' w' I' => ih _ a' w' ?_ I') (DInv.step ok hN hlex hchk I hi)
    have := unl_set hjs hn
    omega

theorem Walk.draw {id : Nat} {Q : Post} {D : List Nat} (ok : TabOk P T) (hm : P.follows .mixedOrders = true) (own : List Nat) (eff : List Nat) (HS : List Bool → List Blk) (R : List AV) (hs : Region.lexB .any ops.toArray = true)
    (hH : HS (eff.map fun _ => false) = H) (hchk : ChkAll P T N own ops eff HS 0 ops R σ) (hk : Q .normal D (xFold N ops R σ) (HS (eff.map fun j => Nat.blt j ops.length))) : Walk P N ρ (.region id ops.toArray true) Q D σ H := by
  constructor
  intro E h β a w s
  have hfl0 : flagsOf eff (Array.replicate ops.toArray.size false) = eff.map fun _ => false := by
    unfold flagsOf; apply List.map_congr_left; intro j _
    simp only [Array.getD_eq_getD_getElem?, Array.getElem?_replicate]; split <;> rfl
  have hnl : ∀ j, ¬ isL (Array.replicate ops.toArray.size false) j := by
    intro j; unfold isL
    simp only [Array.getD_eq_getD_getElem?, Array.getElem?_replicate]; split <;> simp
  have I0 : DInv P E N ops eff HS R σ a h β H (Array.replicate ops.toArray.size false) a { w with drawn := w.drawn + 1 } := by
    refine ⟨by simp, fun j o _ hl => absurd hl (hnl j), ⟨h, β, ?_, ?_, fun t r e _ => ?_, fun j o d r _ hl => absurd hl (hnl j)⟩, ⟨rfl, rfl⟩⟩
    · rw [hfl0, hH]; exact Ext.refl _ _ _
    · rw [hfl0, hH]; exact s.sr.drew
    · rw [hfl0, hH]; exact s.fits t r e
  have hcnt : (List.range (Array.replicate ops.toArray.size false).size).countP (fun j => !(Array.replicate ops.toArray.size false).getD j false) = ops.toArray.size := by
    rw [List.countP_eq_length.2]
    · simp
    · intro j _; have := hnl j; unfold isL at this; simpa using this
  refine wpIn_region_any hm (DInv.any ok s.size hs hchk (fun listed a' w' I hall => ?_) _ _ a _ hcnt I0)
  obtain ⟨h', β', X, s', K1, K2⟩ := I.st
  have hfl : flagsOf eff listed = eff.map fun j => Nat.blt j ops.length := by
    unfold flagsOf; apply List.map_congr_left; intro j _
    rcases Nat.lt_or_ge j ops.length with hj | hj
    · have := hall j hj; unfold isL at this; rw [this]; symm; rw [Nat.blt_eq]; exact hj
    · have h1 : listed.getD j false = false := by simp [Array.getElem?_eq_none (show listed.size ≤ j by rw [I.size]; exact hj)]
      rw [h1]; cases hb : Nat.blt j ops.length with
      | false => rfl
      | true => rw [Nat.blt_eq] at hb; omega
  rw [hfl] at X s' K1 K2
  refine ⟨D, _, _, h', β', hk, X, s', fun t x ex => ?_, I.keeps.size.trans s.size, by rw [I.keeps.defers]; exact s.df.ext X⟩
  rcases xFold_get hchk.get.1 ex with ⟨j, oj, h1, h2, h3, h4, h5⟩ | ⟨h1, h2⟩
  · exact K2 j oj t x h1 (hall j (List.getElem?_eq_some_iff.1 h1).1) h2 h3 h4 fun k ok hk _ hjk => h5 k ok hk hjk
  · exact K1 t x h2 fun j o hj _ => h1 j o hj
end
end GA
end

section
namespace GA
open Go Go.RowKit
set_option linter.unusedVariables false

structure XAnd (A B : Prop) : Prop where
  l : A
  r : B
def allF : Nat → List (List Bool)
  | 0 => [[]]
  | n + 1 => (allF n).flatMap fun l => [l ++ [false], l ++ [true]]
def sameF : List Bool → List Bool → Bool
  | [], [] => true
  | true :: l, true :: m => sameF l m
  | false :: l, false :: m => sameF l m
  | _, _ => false
theorem sameF_eq : ∀ {l m : List Bool}, sameF l m = true → l = m
  | [], [], _ => rfl
  | true :: l, true :: m, h => by rw [sameF_eq (l := l) (m := m) h]
  | false :: l, false :: m, h => by rw [sameF_eq (l := l) (m := m) h]
  | [], _ :: _, h => by cases h
  | _ :: _, [], h => by simp [sameF] at h
  | true :: _, false :: _, h => by cases h
  | false :: _, true :: _, h => by cases h
theorem allF_mem : ∀ {n : Nat} {fl : List Bool}, fl.length = n → fl ∈ allF n
  | 0, fl, h => by simp [allF, List.eq_nil_of_length_eq_zero h]
  | n + 1, fl, h => by
    have hne : fl ≠ [] := by intro e; rw [e] at h; simp at h
    have h1 : fl.dropLast ++ [fl.getLast hne] = fl := List.dropLast_concat_getLast hne
    have h2 := allF_mem (n := n) (fl := fl.dropLast) (by simp [h])
    simp only [allF, List.mem_flatMap]
    refine ⟨fl.dropLast, h2, ?_⟩
    cases hb : fl.getLast hne with
    | true => rw [hb] at h1; rw [h1]; simp
    | false => rw [hb] at h1; rw [h1]; simp

section
variable (P : Program) (T : Tab) (N : Nat) (own : List Nat) (ops : List Oper) (eff : List Nat) (HS : List Bool → List Blk)
def textF (i : Nat) : List Bool := eff.map fun j => Nat.blt j i
def ChkA : Nat → List Oper → List AV → St → Prop
  | _, [], [], _ => True
  | i, o :: l, r :: R, σ => XAnd (Chk P T own ops eff HS i o σ r (textF eff i)) (ChkA (i + 1) l R (putX N σ o.dst r))
  | _, _, _, _ => False
def ChkF (fl : List Bool) : Nat → List Oper → List AV → St → Prop
  | i, o :: l, r :: R, σ => match compat ops eff i fl && !sameF fl (textF eff i) with
    | true => XAnd (Chk P T own ops eff HS i o σ r fl) (ChkF fl (i + 1) l R (putX N σ o.dst r))
    | false => ChkF fl (i + 1) l R (putX N σ o.dst r)
  | _, _, _, _ => True
def ChkB (R : List AV) (σ : St) : List (List Bool) → Prop
  | [] => True
  | fl :: fls => XAnd (ChkF P T N own ops eff HS fl 0 ops R σ) (ChkB R σ fls)
end
section
variable {P : Program} {T : Tab} {N : Nat} {own : List Nat} {ops : List Oper} {eff : List Nat} {HS : List Bool → List Blk}
theorem ChkF.all : ∀ {l : List Oper} {R : List AV} {i : Nat} {σ : St}, ChkA P T N own ops eff HS i l R σ → (∀ fl, fl.length = eff.length → ChkF P T N own ops eff HS fl i l R σ) → ChkAll P T N own ops eff HS i l R σ
  | [], [], _, _, _, _ => trivial
  | o :: l, r :: R, i, σ, hA, hB => by
    refine ⟨fun fl hf hc => ?_, ChkF.all hA.r fun fl hf => ?_⟩
    · cases hs : sameF fl (textF eff i) with
      | true => rw [sameF_eq hs]; exact hA.l
      | false =>
        have := hB fl hf
        simp only [ChkF, hc, hs] at this
        exact this.l
    · have := hB fl hf
      simp only [ChkF] at this
      split at this
      · exact this.r
      · exact this
  | [], _ :: _, _, _, h, _ => h.elim
  | _ :: _, [], _, _, h, _ => h.elim
theorem ChkB.get {R : List AV} {σ : St} : ∀ {fls : List (List Bool)}, ChkB P T N own ops eff HS R σ fls → ∀ fl ∈ fls, ChkF P T N own ops eff HS fl 0 ops R σ
  | fl :: fls, h, f, hf => by
    rcases List.mem_cons.1 hf with rfl | hf
    · exact h.l
    · exact ChkB.get h.r f hf

def hsC (l : List (List Blk)) (fl : List Bool) : List Blk := match lget l (fl.countP id) with | some H => H | none => []
def bin : List Bool → Nat
  | [] => 0
  | true :: l => 2 * bin l + 1
  | false :: l => 2 * bin l
theorem Walk.drawX {ρ : Option Nat} {id : Nat} {Q : Post} {D : List Nat} {σ : St} {H : List Blk} (ok : TabOk P T) (hm : P.follows .mixedOrders = true) (own : List Nat) (eff : List Nat) (HS : List Bool → List Blk) (R : List AV) (hs : Region.lexB .any ops.toArray = true)
    (hH : HS (eff.map fun _ => false) = H) (hA : ChkA P T N own ops eff HS 0 ops R σ) (hB : ChkB P T N own ops eff HS R σ (allF eff.length)) (hk : Q .normal D (xFold N ops R σ) (HS (eff.map fun j => Nat.blt j ops.length))) : Walk P N ρ (.region id ops.toArray true) Q D σ H :=
  .draw ok hm own eff HS R hs hH (ChkF.all hA fun fl hf => hB.get fl (allF_mem hf)) hk
theorem ChkA.go {i : Nat} {l : List Oper} {R : List AV} {σ : St} (h : ChkA P T N own ops eff HS i l R σ) : ChkA P T N own ops eff HS i l R σ := h
theorem ChkF.go {fl : List Bool} {i : Nat} {l : List Oper} {R : List AV} {σ : St} (h : ChkF P T N own ops eff HS fl i l R σ) : ChkF P T N own ops eff HS fl i l R σ := h
theorem ChkB.go {R : List AV} {σ : St} {fls : List (List Bool)} (h : ChkB P T N own ops eff HS R σ fls) : ChkB P T N own ops eff HS R σ fls := h
theorem Chk.go {i : Nat} {o : Oper} {σ : St} {r : AV} {fl : List Bool} (h : Chk P T own ops eff HS i o σ r fl) : Chk P T own ops eff HS i o σ r fl := h
end
end GA
end

section
namespace GA
open Go Go.RowKit
set_option linter.unusedVariables false

section
variable {P : Program} {T : Tab} {N : Nat} {ρ : Option Nat} {D : List Nat} {σ : St} {H : List Blk} {Q : Post}

theorem AWp.loopG {c : Code} {G : Type} (st : G → St) (hp : G → List Blk) (μ : G → Nat) (g0 : G) (hσ : ∀ t r, st g0 t = some r → σ t = some r) (hH : hp g0 = H) (hD : D = [])
    (hlow : ∀ g, (∀ x ∈ hp g, x.low (hp g).length = true) ∧ ∀ t r, st g t = some r → r.low (hp g).length = true) (hlen : ∀ g, (hp g0).length ≤ (hp g).length)
    (round : ∀ g, AWp P N ρ c (thenQ (fun D' σ' H' => D' = D ∧ ∃ g' l, μ g' < μ g ∧ hp g' ++ l = H' ∧ ∀ t r, st g' t = some r → σ' t = some r) Q) D (st g) (hp g)) : AWp P N ρ (.loop c) Q D σ H := by
  intro E h β a w s
  subst hH; subst hD
  let I : G → Act → World → Prop := fun g a w => ∃ h' β', Ext h β (hp g0) h' β' (hp g) ∧ Stands P E N h' β' [] (st g) (hp g) a w
  have least : ∀ a w, (∃ g, I g a w) → ∃ n, (∃ g, I g a w ∧ μ g = n) ∧ ∀ m, m < n → ¬ ∃ g, I g a w ∧ μ g = m :=
    fun a w ⟨g, hg⟩ => exists_least ⟨μ g, g, hg, rfl⟩
  classical
  let M : Act → World → Nat := fun a w => if e : ∃ g, I g a w then Classical.choose (least a w e) else 0
  have hM : ∀ a w (e : ∃ g, I g a w), (∃ g, I g a w ∧ μ g = M a w) ∧ ∀ g, I g a w → M a w ≤ μ g := by
    intro a w e
    have hc := Classical.choose_spec (least a w e)
    have hm : M a w = Classical.choose (least a w e) := by simp only [M, dif_pos e]
    rw [hm]
    refine ⟨hc.1, fun g hg => ?_⟩
    rcases Nat.lt_or_ge (μ g) (Classical.choose (least a w e)) with hlt | hge
    · exact absurd ⟨g, hg, rfl⟩ (hc.2 _ hlt)
    · exact hge
  refine wpIn_loop (fun a w => ∃ g, I g a w) M ⟨g0, h, β, Ext.refl _ _ _, s.sr, fun t r e => s.fits t r (hσ t r e), s.size, s.df⟩ ?_
  intro a' w' hI
  obtain ⟨⟨g, hg, hmu⟩, _⟩ := hM a' w' hI
  obtain ⟨h', β', X, s'⟩ := hg
  refine wpIn_mono (round g E h' β' a' w' s') ?_
  rintro e a'' w'' ⟨D'', σ'', H'', h'', β'', q, X', s''⟩
  cases e with
  | normal =>
    obtain ⟨rfl, g', l, hlt, rfl, hsub⟩ := q
    have hI' : I g' a'' w'' := by
      refine ⟨h'', β'', (X.trans X').cut (hlen g'), s''.sr.cut (hlow g').1, fun t r e => ?_, s''.size, s''.df.any⟩
      obtain ⟨v, h1, h2⟩ := s''.fits t r (hsub t r e)
      exact ⟨v, h1, h2.cut ((hlow g').2 t r e)⟩
    refine ⟨⟨g', hI'⟩, ?_⟩
    have := (hM a'' w'' ⟨g', hI'⟩).2 g' hI'
    omega
  | _ => exact ⟨D'', σ'', H'', h'', β'', q, X.trans X', s''⟩

structure XAgainG {G : Type} (I : G → Prop) (L : G → List (Nat × AV)) (hp : G → List Blk) (μ : G → Nat) (g : G) (D' : List Nat) (σ' : St) (H' : List Blk) : Prop where
  d : D' = []
  o : ∃ g' l, I g' ∧ μ g' < μ g ∧ hp g' ++ l = H' ∧ SubX (L g') σ'
theorem Walk.loopG {c : Code} {G : Type} (ok : TabOk P T) (own : List Nat) (I : G → Prop) (L : G → List (Nat × AV)) (hp : G → List Blk) (μ : G → Nat) (g0 : G) (h0 : I g0) (hH : hp g0 = H) (hs : SubX (L g0) σ)
    (hlow : ∀ g, I g → (∀ x ∈ hp g, x.low (hp g).length = true) ∧ ∀ p ∈ L g, p.2.low (hp g).length = true) (hlen : ∀ g, I g → (hp g0).length ≤ (hp g).length)
    (round : ∀ g, I g → XRun P T N ρ own c (thenQ (XAgainG I L hp μ g) Q) [] (stX (L g)) (hp g)) : Walk P N ρ (.loop c) Q [] σ H := by
  constructor
  have hst : ∀ (l : List (Nat × AV)) t r, stX l t = some r → (t, r) ∈ l := by
    intro l; induction l with
    | nil => intro t r h; cases h
    | cons p l ih =>
      obtain ⟨u, x⟩ := p
      intro t r h; simp only [stX, updX_eq, upd] at h
      split at h
      · rename_i e; cases h; subst e; exact List.mem_cons_self
      · exact List.mem_cons_of_mem _ (ih t r h)
  refine AWp.loopG (G := {g : G // I g}) (fun g => stX (L g.1)) (fun g => hp g.1) (fun g => μ g.1) ⟨g0, h0⟩ (stX_sub hs) hH rfl (fun g => ⟨(hlow g.1 g.2).1, fun t r e => (hlow g.1 g.2).2 (t, r) (hst _ _ _ e)⟩) (fun g => hlen g.1 g.2) fun g => ?_
  refine (XRun.sound ok (round g.1 g.2)).mono fun e D' σ' H' q => ?_
  cases e with
  | normal => obtain ⟨h1, g', l, h2, h3, h4, h5⟩ := q; exact ⟨h1, ⟨g', h2⟩, l, h3, h4, stX_sub h5⟩
  | _ => exact q
theorem XAgainG.go {G : Type} {I : G → Prop} {L : G → List (Nat × AV)} {hp : G → List Blk} {μ : G → Nat} {g : G} (g' : G) (l : List Blk) (h1 : I g') (h2 : μ g' < μ g) (h3 : hp g' ++ l = H) (h4 : SubX (L g') σ) : XAgainG I L hp μ g [] σ H := ⟨rfl, g', l, h1, h2, h3, h4⟩
end
end GA
end

section
namespace GA
open Go Go.RowKit
set_option linter.unusedVariables false

mutual
def AV.ren (ρ : Nat → Nat) : AV → AV
  | .ptr i o => .ptr (ρ i) o
  | .gr i n => .gr (ρ i) n
  | .gp i n e o => .gp (ρ i) n e o
  | .os i m o n => .os (ρ i) m o n
  | .mp i => .mp (ρ i)
  | .yld i => .yld (ρ i)
  | .pim cs => .pim (renL ρ cs)
  | .sl nl cs => .sl nl (renL ρ cs)
  | .fn f cs => .fn f (renL ρ cs)
  | .bf f cs => .bf f (renL ρ cs)
  | .agg cs => .agg (renL ρ cs)
  | .tup cs => .tup (renL ρ cs)
  | .im ks cs => .im ks (renL ρ cs)
  | .bool b => .bool b
  | .int k n => .int k n
  | .nilp => .nilp
  | .se => .se
  | .nilm => .nilm
  | .nilf => .nilf
def renL (ρ : Nat → Nat) : List AV → List AV
  | [] => []
  | x :: l => x.ren ρ :: renL ρ l
end
theorem renL_eq (ρ : Nat → Nat) : ∀ l : List AV, renL ρ l = l.map (AV.ren ρ)
  | [] => rfl
  | x :: l => by rw [renL, renL_eq ρ l]; rfl
def Blk.ren (ρ : Nat → Nat) : Blk → Blk
  | .dead => .dead
  | .free => .free
  | .cells cs => .cells (renL ρ cs)
  | .grow t nl els => .grow t nl (renL ρ els)
  | .map es => .map (es.map fun p => (p.1, p.2.ren ρ))
  | .raw o => .raw o
  | .lp st pend f tm ps x y n => .lp st pend f (tm.map fun p => (p.1, p.2.ren ρ)) ps x y n

theorem AV.ren_one (ρ : Nat → Nat) (a : AV) : (a.ren ρ).one = a.one := by cases a <;> rfl
theorem AV.ren_cells (ρ : Nat → Nat) (a : AV) : (a.ren ρ).cells = a.cells.map (AV.ren ρ) := by
  cases a <;> first | rfl | (simp only [AV.ren, AV.cells, renL_eq]; rfl) | simp only [AV.ren, AV.cells, renL_eq]
theorem flat_ren (ρ : Nat → Nat) (l : List AV) : flat (l.map (AV.ren ρ)) = (flat l).map (AV.ren ρ) := by
  induction l with
  | nil => rfl
  | cons x l ih =>
    simp only [flat, List.map_cons, List.flatMap_cons, List.map_append] at ih ⊢
    rw [ih, AV.ren_cells]
theorem Blk.ren_free (ρ : Nat → Nat) (x : Blk) : (x.ren ρ).isFree = x.isFree := by cases x <;> rfl
theorem Blk.ren_rec (ρ : Nat → Nat) (x : Blk) : (x.ren ρ).isRec = x.isRec := by cases x <;> rfl

theorem AV.ren_low {ρ : Nat → Nat} {n : Nat} (h : ∀ i, i < n → ρ i = i) : ∀ {a : AV}, a.low n = true → a.ren ρ = a := by
  intro a
  refine AV.rec (motive_1 := fun a => a.low n = true → a.ren ρ = a) (motive_2 := fun l => lowL n l = true → renL ρ l = l) ?_ ?_ ?_ ?_ ?_ ?_ ?_ ?_ ?_ ?_ ?_ ?_ ?_ ?_ ?_ ?_ ?_ ?_ ?_ ?_ ?_ a
  all_goals try (intros; rfl)
  · intro i o hl; simp only [AV.low, decide_eq_true_eq] at hl; rw [AV.ren, h i hl]
  · intro cs ih hl; rw [AV.ren, ih hl]
  · intro nl cs ih hl; rw [AV.ren, ih hl]
  · intro i o hl; simp only [AV.low, decide_eq_true_eq] at hl; rw [AV.ren, h i hl]
  · intro i o e f hl; simp only [AV.low, decide_eq_true_eq] at hl; rw [AV.ren, h i hl]
  · intro i hl; simp only [AV.low, decide_eq_true_eq] at hl; rw [AV.ren, h i hl]
  · intro f cs ih hl; rw [AV.ren, ih hl]
  · intro f cs ih hl; rw [AV.ren, ih hl]
  · intro i m o n hl; simp only [AV.low, decide_eq_true_eq] at hl; rw [AV.ren, h i hl]
  · intro i hl; simp only [AV.low, decide_eq_true_eq] at hl; rw [AV.ren, h i hl]
  · intro cs ih hl; rw [AV.ren, ih hl]
  · intro cs ih hl; rw [AV.ren, ih hl]
  · intro ks cs ih hl; rw [AV.ren, ih hl]
  · intro x l ih1 ih2 hl; simp only [lowL, Bool.and_eq_true] at hl; rw [renL, ih1 hl.1, ih2 hl.2]
theorem renL_low {ρ : Nat → Nat} {n : Nat} (h : ∀ i, i < n → ρ i = i) {l : List AV} (hl : lowL n l = true) : renL ρ l = l := by
  have := AV.ren_low h (a := .agg l) hl
  simpa [AV.ren] using this
theorem AV.ren_low0 {ρ : Nat → Nat} {a : AV} (hl : a.low 0 = true) : a.ren ρ = a := AV.ren_low (n := 0) (fun i hi => by omega) hl
theorem renL_low0 {ρ : Nat → Nat} {l : List AV} (hl : lowL 0 l = true) : renL ρ l = l := renL_low (n := 0) (fun i hi => by omega) hl

structure Ren (ρ : Nat → Nat) (β1 : Nat → Value) (H1 : List Blk) (β : Nat → Value) (H : List Blk) : Prop where
  m : ∀ (i : Nat) x1, H1[i]? = some x1 → H[ρ i]? = some (x1.ren ρ)
  b : ∀ i, i < H1.length → β (ρ i) = β1 i

section
variable {P : Program} {E : Env} {h : Nat → Option Obj} {β β1 : Nat → Value} {H H1 : List Blk} {w : World} {ρ : Nat → Nat}

theorem Ren.live (R : Ren ρ β1 H1 β H) {i : Nat} (l : live H1 i) : live H (ρ i) := let ⟨x, h1, h2⟩ := l; ⟨x.ren ρ, R.m i x h1, by rw [Blk.ren_free]; exact h2⟩
theorem Ren.unlive (R : Ren ρ β1 H1 β H) {i : Nat} (l : GA.live H (ρ i)) (hi : i < H1.length) : GA.live H1 i := by
  obtain ⟨x, h1, h2⟩ := l
  have h3 := R.m i _ (List.getElem?_eq_getElem hi)
  rw [h3] at h1; cases h1
  exact ⟨_, List.getElem?_eq_getElem hi, by rw [Blk.ren_free] at h2; exact h2⟩

theorem Ren.rep (R : Ren ρ β1 H1 β H) {a : AV} {v : Value} (x : Rep P h β1 H1 a v) : Rep P h β H (a.ren ρ) v := by
  induction x with
  | bool b => exact .bool b
  | int k n => exact .int k n
  | nilp => exact .nilp
  | @ptr i o b hi hb =>
    refine .ptr (R.live hi) fun cs e => ?_
    obtain ⟨x, hx, hf⟩ := hi
    rw [R.m i x hx] at e; rw [R.b i (List.getElem?_eq_some_iff.1 hx).1]
    cases x <;> simp only [Blk.ren, Option.some.injEq, reduceCtorEq] at e
    exact hb _ hx
  | pim us hone hb hc _ ih =>
    rw [AV.ren, renL_eq]
    refine .pim us (fun x hx => ?_) hb (fun j x e => ?_) (fun j x e => ?_)
    · obtain ⟨y, hy, rfl⟩ := List.mem_map.1 hx; rw [AV.ren_one]; exact hone y hy
    · rw [List.getElem?_map] at e; cases hq : ‹List AV›[j]? with | none => simp [hq] at e | some y => exact hc j y hq
    · rw [List.getElem?_map] at e
      cases hq : ‹List AV›[j]? with
      | none => simp [hq] at e
      | some y => simp only [hq, Option.map_some, Option.some.injEq] at e; subst e; exact ih j y hq
  | slnil => exact .slnil
  | slemp => exact .slemp
  | @sl b off cap c t fz els w n us hn hne hb hw hw0 hone hcap hc _ ih =>
    rw [AV.ren, renL_eq]
    refine .sl (w := w) us (by rw [List.length_map]; exact hn) (by simpa using hne) hb (fun e he => ?_) hw0 (fun x hx => ?_) (by rw [List.length_map]; exact hcap) (fun j x e => ?_) (fun j x e => ?_)
    · obtain ⟨y, hy, rfl⟩ := List.mem_map.1 he; rw [AV.ren_cells, List.length_map]; exact hw y hy
    · rw [flat_ren] at hx; obtain ⟨y, hy, rfl⟩ := List.mem_map.1 hx; rw [AV.ren_one]; exact hone y hy
    · rw [flat_ren, List.getElem?_map] at e; cases hq : (flat els)[j]? with | none => simp [hq] at e | some y => exact hc j y hq
    · rw [flat_ren, List.getElem?_map] at e
      cases hq : (flat els)[j]? with
      | none => simp [hq] at e
      | some y => simp only [hq, Option.map_some, Option.some.injEq] at e; subst e; exact ih j y hq
  | se => exact .se
  | @gr i n v ho hi hv =>
    refine .gr ho (R.live hi) fun t nl els e => ?_
    obtain ⟨x, hx, hf⟩ := hi
    rw [R.m i x hx] at e; rw [R.b i (List.getElem?_eq_some_iff.1 hx).1]
    cases x <;> simp only [Blk.ren, Option.some.injEq, Blk.grow.injEq, reduceCtorEq] at e
    obtain ⟨rfl, rfl, rfl⟩ := e
    rw [renL_eq, List.length_map]; exact hv _ _ _ hx
  | @gp i n e o b q hi hv =>
    refine .gp (R.live hi) fun t nl els e => ?_
    obtain ⟨x, hx, hf⟩ := hi
    rw [R.m i x hx] at e; rw [R.b i (List.getElem?_eq_some_iff.1 hx).1]
    cases x <;> simp only [Blk.ren, Option.some.injEq, Blk.grow.injEq, reduceCtorEq] at e
    obtain ⟨rfl, rfl, rfl⟩ := e
    rw [renL_eq, List.length_map]; exact hv _ _ _ hx
  | nilm => exact .nilm
  | @mp i r hi hb =>
    refine .mp (R.live hi) fun es e => ?_
    obtain ⟨x, hx, hf⟩ := hi
    rw [R.m i x hx] at e; rw [R.b i (List.getElem?_eq_some_iff.1 hx).1]
    cases x <;> simp only [Blk.ren, Option.some.injEq, reduceCtorEq] at e
    exact hb _ hx
  | nilf => exact .nilf
  | @yld i b hi hb =>
    refine .yld (R.live hi) fun y e hy => ?_
    obtain ⟨x, hx, hf⟩ := hi
    rw [R.m i x hx] at e; rw [R.b i (List.getElem?_eq_some_iff.1 hx).1]
    cases e
    rw [Blk.ren_rec] at hy
    exact hb _ hx hy
  | @fn f caps vs us hs hc _ ih =>
    rw [AV.ren, renL_eq]
    refine .fn us (by rw [List.length_map]; exact hs) (fun j x e => ?_) (fun j x e => ?_)
    · rw [List.getElem?_map] at e; cases hq : caps[j]? with | none => simp [hq] at e | some y => exact hc j y hq
    · rw [List.getElem?_map] at e
      cases hq : caps[j]? with
      | none => simp [hq] at e
      | some y => simp only [hq, Option.map_some, Option.some.injEq] at e; subst e; exact ih j y hq
  | @bf f caps vs us hs hc _ ih =>
    rw [AV.ren, renL_eq]
    refine .bf us (by rw [List.length_map]; exact hs) (fun j x e => ?_) (fun j x e => ?_)
    · rw [List.getElem?_map] at e; cases hq : caps[j]? with | none => simp [hq] at e | some y => exact hc j y hq
    · rw [List.getElem?_map] at e
      cases hq : caps[j]? with
      | none => simp [hq] at e
      | some y => simp only [hq, Option.map_some, Option.some.injEq] at e; subst e; exact ih j y hq
  | @os i m o n b q cap hi hn hc hg hz =>
    obtain ⟨x, hx, hf⟩ := id hi
    refine .os (R.live hi) hn (fun cs e hne => ?_) (fun t nl els e => ?_) fun ho t nl els e hlen => ?_
    · rw [R.m i x hx] at e; rw [R.b i (List.getElem?_eq_some_iff.1 hx).1]
      cases x <;> simp only [Blk.ren, Option.some.injEq, reduceCtorEq] at e
      exact hc _ hx hne
    · rw [R.m i x hx] at e; rw [R.b i (List.getElem?_eq_some_iff.1 hx).1]
      cases x <;> simp only [Blk.ren, Option.some.injEq, Blk.grow.injEq, reduceCtorEq] at e
      obtain ⟨rfl, rfl, rfl⟩ := e
      rw [renL_eq, List.length_map]; exact hg _ _ _ hx
    · rw [R.m i x hx] at e; rw [R.b i (List.getElem?_eq_some_iff.1 hx).1]
      cases x <;> simp only [Blk.ren, Option.some.injEq, Blk.grow.injEq, reduceCtorEq] at e
      obtain ⟨rfl, rfl, rfl⟩ := e
      rw [renL_eq, List.length_map] at hlen; exact hz ho _ _ _ hx hlen
  | @agg caps vs us hs hone hc _ ih =>
    rw [AV.ren, renL_eq]
    refine .agg us (by rw [List.length_map]; exact hs) (fun x hx => ?_) (fun j x e => ?_) (fun j x e => ?_)
    · obtain ⟨y, hy, rfl⟩ := List.mem_map.1 hx; rw [AV.ren_one]; exact hone y hy
    · rw [List.getElem?_map] at e; cases hq : caps[j]? with | none => simp [hq] at e | some y => exact hc j y hq
    · rw [List.getElem?_map] at e
      cases hq : caps[j]? with
      | none => simp [hq] at e
      | some y => simp only [hq, Option.map_some, Option.some.injEq] at e; subst e; exact ih j y hq
  | @tup caps vs us hs hc _ ih =>
    rw [AV.ren, renL_eq]
    refine .tup us (by rw [List.length_map]; exact hs) (fun j x e => ?_) (fun j x e => ?_)
    · rw [List.getElem?_map] at e; cases hq : caps[j]? with | none => simp [hq] at e | some y => exact hc j y hq
    · rw [List.getElem?_map] at e
      cases hq : caps[j]? with
      | none => simp [hq] at e
      | some y => simp only [hq, Option.map_some, Option.some.injEq] at e; subst e; exact ih j y hq
  | @im ks vs r ents clock us h0 h1 h2 h3 h4 _ ih =>
    rw [AV.ren, renL_eq]
    refine .im us h0 (by rw [List.length_map]; exact h1) h2 h3 (fun j q x e1 e2 => ?_) (fun j x e => ?_)
    · rw [List.getElem?_map] at e2; cases hq : vs[j]? with | none => simp [hq] at e2 | some y => exact h4 j q y e1 hq
    · rw [List.getElem?_map] at e
      cases hq : vs[j]? with
      | none => simp [hq] at e
      | some y => simp only [hq, Option.map_some, Option.some.injEq] at e; subst e; exact ih j y hq

theorem lowL_get {n : Nat} {l : List AV} (hl : lowL n l = true) {j : Nat} {x : AV} (e : l[j]? = some x) : x.low n = true := lowL_iff.1 hl x (List.mem_of_getElem? e)
theorem map_get {l : List AV} {j : Nat} {x : AV} (e : l[j]? = some x) : (l.map (AV.ren ρ))[j]? = some (x.ren ρ) := by rw [List.getElem?_map, e]; rfl

theorem Ren.unrep (R : Ren ρ β1 H1 β H) {r : AV} {v : Value} (x : Rep P h β H r v) : ∀ {a : AV}, a.ren ρ = r → a.low H1.length = true → Rep P h β1 H1 a v := by
  induction x with
  | bool b => intro a e hl; cases a <;> simp only [AV.ren, AV.bool.injEq, reduceCtorEq] at e; subst e; exact .bool _
  | int k n => intro a e hl; cases a <;> simp only [AV.ren, AV.int.injEq, reduceCtorEq] at e; obtain ⟨rfl, rfl⟩ := e; exact .int _ _
  | nilp => intro a e hl; cases a <;> simp only [AV.ren, reduceCtorEq] at e; exact .nilp
  | @ptr i o b hi hb =>
    intro a e hl; cases a <;> simp only [AV.ren, AV.ptr.injEq, reduceCtorEq] at e
    rename_i i0 o0
    obtain ⟨rfl, rfl⟩ := e
    simp only [AV.low, decide_eq_true_eq] at hl
    refine .ptr (R.unlive hi hl) fun cs e => ?_
    rw [← R.b i0 hl]; exact hb _ (R.m _ _ e)
  | @pim b off c t fz cs us hone hb hc _ ih =>
    intro a e hl; cases a <;> simp only [AV.ren, AV.pim.injEq, reduceCtorEq] at e
    rename_i cs0
    rw [renL_eq] at e; subst e
    refine .pim us (fun x hx => ?_) hb (fun j x e => ?_) (fun j x e => ?_)
    · rw [← AV.ren_one ρ]; exact hone _ (List.mem_map.2 ⟨x, hx, rfl⟩)
    · exact hc j _ (map_get e)
    · exact ih j _ (map_get e) rfl (lowL_get hl e)
  | slnil => intro a e hl; cases a <;> simp only [AV.ren, AV.sl.injEq, reduceCtorEq] at e; obtain ⟨rfl, e⟩ := e; rw [renL_eq, List.map_eq_nil_iff] at e; subst e; exact .slnil
  | slemp => intro a e hl; cases a <;> simp only [AV.ren, AV.sl.injEq, reduceCtorEq] at e; obtain ⟨rfl, e⟩ := e; rw [renL_eq, List.map_eq_nil_iff] at e; subst e; exact .slemp
  | @sl b off cap c t fz els w n us hn hne hb hw hw0 hone hcap hc _ ih =>
    intro a e hl; cases a <;> simp only [AV.ren, AV.sl.injEq, reduceCtorEq] at e
    rename_i nl cs0
    obtain ⟨rfl, e⟩ := e
    rw [renL_eq] at e; subst e
    rw [List.length_map] at hn hcap
    rw [flat_ren] at hone hc
    refine .sl (w := w) us hn (by simpa using hne) hb (fun e he => ?_) hw0 (fun x hx => ?_) hcap (fun j x e => hc j _ (map_get e)) (fun j x e => ?_)
    · have := hw _ (List.mem_map.2 ⟨e, he, rfl⟩); rwa [AV.ren_cells, List.length_map] at this
    · rw [← AV.ren_one ρ]; exact hone _ (List.mem_map.2 ⟨x, hx, rfl⟩)
    · exact ih j _ (by rw [flat_ren]; exact map_get e) rfl (low_flat.1 hl x (List.mem_of_getElem? e))
  | se => intro a e hl; cases a <;> simp only [AV.ren, reduceCtorEq] at e; exact .se
  | @gr i n v ho hi hv =>
    intro a e hl; cases a <;> simp only [AV.ren, AV.gr.injEq, reduceCtorEq] at e
    rename_i i0 o0
    obtain ⟨rfl, rfl⟩ := e
    simp only [AV.low, decide_eq_true_eq] at hl
    refine .gr ho (R.unlive hi hl) fun t nl els e => ?_
    rw [← R.b i0 hl]; have := hv _ _ _ (R.m _ _ e); rwa [renL_eq, List.length_map] at this
  | @gp i n e o b q hi hv =>
    intro a e hl; cases a <;> simp only [AV.ren, AV.gp.injEq, reduceCtorEq] at e
    rename_i i0 n0 e0 o0
    obtain ⟨rfl, rfl, rfl, rfl⟩ := e
    simp only [AV.low, decide_eq_true_eq] at hl
    refine .gp (R.unlive hi hl) fun t nl els e => ?_
    rw [← R.b i0 hl]; have := hv _ _ _ (R.m _ _ e); rwa [renL_eq, List.length_map] at this
  | nilm => intro a e hl; cases a <;> simp only [AV.ren, reduceCtorEq] at e; exact .nilm
  | @mp i r hi hb =>
    intro a e hl; cases a <;> simp only [AV.ren, AV.mp.injEq, reduceCtorEq] at e
    subst e
    simp only [AV.low, decide_eq_true_eq] at hl
    refine .mp (R.unlive hi hl) fun cs e => ?_
    rw [← R.b _ hl]; exact hb _ (R.m _ _ e)
  | nilf => intro a e hl; cases a <;> simp only [AV.ren, reduceCtorEq] at e; exact .nilf
  | @yld i b hi hb =>
    intro a e hl; cases a <;> simp only [AV.ren, AV.yld.injEq, reduceCtorEq] at e
    subst e
    simp only [AV.low, decide_eq_true_eq] at hl
    refine .yld (R.unlive hi hl) fun x e hx => ?_
    rw [← R.b _ hl]; exact hb _ (R.m _ _ e) (by rw [Blk.ren_rec]; exact hx)
  | @fn f caps vs us hs hc _ ih =>
    intro a e hl; cases a <;> simp only [AV.ren, AV.fn.injEq, reduceCtorEq] at e
    rename_i f0 cs0
    obtain ⟨rfl, e⟩ := e
    rw [renL_eq] at e; subst e
    exact .fn us (by rw [hs, List.length_map]) (fun j x e => hc j _ (map_get e)) (fun j x e => ih j _ (map_get e) rfl (lowL_get hl e))
  | @bf f caps vs us hs hc _ ih =>
    intro a e hl; cases a <;> simp only [AV.ren, AV.bf.injEq, reduceCtorEq] at e
    rename_i f0 cs0
    obtain ⟨rfl, e⟩ := e
    rw [renL_eq] at e; subst e
    exact .bf us (by rw [hs, List.length_map]) (fun j x e => hc j _ (map_get e)) (fun j x e => ih j _ (map_get e) rfl (lowL_get hl e))
  | @os i m o n b q cap hi hn hc hg hz =>
    intro a e hl; cases a <;> simp only [AV.ren, AV.os.injEq, reduceCtorEq] at e
    rename_i i0 m0 o0 n0
    obtain ⟨rfl, rfl, rfl, rfl⟩ := e
    simp only [AV.low, decide_eq_true_eq] at hl
    refine .os (R.unlive hi hl) hn (fun cs e hne => ?_) (fun t nl els e => ?_) fun ho t nl els e hlen => ?_
    · rw [← R.b i0 hl]; exact hc _ (R.m _ _ e) hne
    · rw [← R.b i0 hl]; have := hg _ _ _ (R.m _ _ e); rwa [renL_eq, List.length_map] at this
    · rw [← R.b i0 hl]; have := hz ho _ _ _ (R.m _ _ e); rw [renL_eq, List.length_map] at this; exact this hlen
  | @agg caps vs us hs hone hc _ ih =>
    intro a e hl; cases a <;> simp only [AV.ren, AV.agg.injEq, reduceCtorEq] at e
    rename_i cs0
    rw [renL_eq] at e; subst e
    exact .agg us (by rw [hs, List.length_map]) (fun x hx => by rw [← AV.ren_one ρ]; exact hone _ (List.mem_map.2 ⟨x, hx, rfl⟩)) (fun j x e => hc j _ (map_get e)) (fun j x e => ih j _ (map_get e) rfl (lowL_get hl e))
  | @tup caps vs us hs hc _ ih =>
    intro a e hl; cases a <;> simp only [AV.ren, AV.tup.injEq, reduceCtorEq] at e
    rename_i cs0
    rw [renL_eq] at e; subst e
    exact .tup us (by rw [hs, List.length_map]) (fun j x e => hc j _ (map_get e)) (fun j x e => ih j _ (map_get e) rfl (lowL_get hl e))
  | @im ks vs r ents clock us h0 h1 h2 h3 h4 _ ih =>
    intro a e hl; cases a <;> simp only [AV.ren, AV.im.injEq, reduceCtorEq] at e
    rename_i ks0 cs0
    obtain ⟨rfl, e⟩ := e
    rw [renL_eq] at e; subst e
    rw [List.length_map] at h1
    exact .im us h0 h1 h2 h3 (fun j q x e1 e2 => h4 j q _ e1 (map_get e2)) (fun j x e => ih j _ (map_get e) rfl (lowL_get hl e))

theorem Ren.cells (R : Ren ρ β1 H1 β H) {cs : List AV} {c : Array Value} (k : CellsOk P h β1 H1 cs c) : CellsOk P h β H (cs.map (AV.ren ρ)) c := by
  obtain ⟨us, a, b⟩ := k
  refine ⟨us, fun j x e => ?_, fun j x e => ?_⟩ <;> (rw [List.getElem?_map] at e; cases hq : cs[j]? with | none => simp [hq] at e | some y => ?_)
  · exact a j y hq
  · simp only [hq, Option.map_some, Option.some.injEq] at e; subst e; exact R.rep (b j y hq)
theorem Ren.uncells (R : Ren ρ β1 H1 β H) {cs : List AV} {c : Array Value} (hl : lowL H1.length cs = true) (k : CellsOk P h β H (cs.map (AV.ren ρ)) c) : CellsOk P h β1 H1 cs c := by
  obtain ⟨us, a, b⟩ := k
  exact ⟨us, fun j x e => a j _ (map_get e), fun j x e => R.unrep (b j _ (map_get e)) rfl (lowL_get hl e)⟩

theorem Ren.blk (R : Ren ρ β1 H1 β H) {heap : Array Obj} {i : Nat} (hi : i < H1.length) {x : Blk} (k : BlkOk P h β1 H1 heap i x) : BlkOk P h β H heap (ρ i) (x.ren ρ) := by
  have hb := R.b i hi
  cases x with
  | dead => trivial
  | free => trivial
  | cells cs =>
    obtain ⟨b, c, t, h1, h2, h3, h4, h5⟩ := k
    rw [Blk.ren, renL_eq]
    refine ⟨b, c, t, hb.trans h1, h2, by rw [h3, List.length_map], fun x hx => ?_, R.cells h5⟩
    obtain ⟨y, hy, rfl⟩ := List.mem_map.1 hx; rw [AV.ren_one]; exact h4 y hy
  | grow t nl els =>
    rw [Blk.ren, renL_eq]
    rcases k with ⟨h1, h2, h3⟩ | ⟨h1, h2, a, h3⟩ | ⟨h1, b, cap, c, h2, h3, h4, h5, h6, h7, h8, h9, h10, h11⟩
    · exact .inl ⟨h1, by rw [h2]; rfl, hb.trans h3⟩
    · exact .inr (.inl ⟨h1, by rw [h2]; rfl, a, hb.trans h3⟩)
    · refine .inr (.inr ⟨h1, b, cap, c, by rw [hb, h2, List.length_map], h3, h4, by rw [List.length_map]; exact h5, h6, h7, h8, fun e he => ?_, fun x hx => ?_, by rw [flat_ren]; exact R.cells h11⟩)
      · obtain ⟨y, hy, rfl⟩ := List.mem_map.1 he; rw [AV.ren_cells, List.length_map]; exact h9 y hy
      · rw [flat_ren] at hx; obtain ⟨y, hy, rfl⟩ := List.mem_map.1 hx; rw [AV.ren_one]; exact h10 y hy
  | map es =>
    obtain ⟨r, ents, clock, h1, h2, h3, h4, us, h5⟩ := k
    refine ⟨r, ents, clock, hb.trans h1, h2, ?_, by rw [h4, List.length_map], us, fun j q x e => ?_⟩
    · rw [List.map_map]; exact h3
    · rw [List.getElem?_map] at e
      cases hq : es[j]? with
      | none => simp [hq] at e
      | some y =>
        obtain ⟨a, b⟩ := y
        simp only [hq, Option.map_some, Option.some.injEq, Prod.mk.injEq] at e
        obtain ⟨rfl, rfl⟩ := e
        obtain ⟨h6, h7⟩ := h5 j _ _ hq
        exact ⟨R.rep h6, h7⟩
  | raw o => obtain ⟨b, h1, h2⟩ := k; exact ⟨b, hb.trans h1, h2⟩
  | lp st pend f tm ps x y n =>
    obtain ⟨b, dfr, tmps, h1, h2, h3, h4⟩ := k
    refine ⟨b, dfr, tmps, hb.trans h1, h2, h3, fun t r e => ?_⟩
    obtain ⟨⟨t', r'⟩, hm, he⟩ := List.mem_map.1 e
    simp only [Prod.mk.injEq] at he; obtain ⟨rfl, rfl⟩ := he
    obtain ⟨v, h5, h6⟩ := h4 _ _ hm
    exact ⟨v, h5, R.rep h6⟩

theorem Ren.unblk (R : Ren ρ β1 H1 β H) {heap : Array Obj} {i : Nat} (hi : i < H1.length) {x : Blk} (hl : x.low H1.length = true) (k : BlkOk P h β H heap (ρ i) (x.ren ρ)) : BlkOk P h β1 H1 heap i x := by
  have hb := R.b i hi
  cases x with
  | dead => trivial
  | free => trivial
  | cells cs =>
    rw [Blk.ren, renL_eq] at k
    obtain ⟨b, c, t, h1, h2, h3, h4, h5⟩ := k
    exact ⟨b, c, t, hb.symm.trans h1, h2, by rw [h3, List.length_map], fun x hx => by rw [← AV.ren_one ρ]; exact h4 _ (List.mem_map.2 ⟨x, hx, rfl⟩), R.uncells hl h5⟩
  | grow t nl els =>
    rw [Blk.ren, renL_eq] at k
    rcases k with ⟨h1, h2, h3⟩ | ⟨h1, h2, a, h3⟩ | ⟨h1, b, cap, c, h2, h3, h4, h5, h6, h7, h8, h9, h10, h11⟩
    · exact .inl ⟨h1, List.map_eq_nil_iff.1 h2, hb.symm.trans h3⟩
    · exact .inr (.inl ⟨h1, List.map_eq_nil_iff.1 h2, a, hb.symm.trans h3⟩)
    · rw [List.length_map] at h2 h5
      rw [flat_ren] at h10 h11
      refine .inr (.inr ⟨h1, b, cap, c, hb.symm.trans h2, h3, h4, h5, h6, h7, h8, fun e he => ?_, fun x hx => ?_, R.uncells ?_ h11⟩)
      · have := h9 _ (List.mem_map.2 ⟨e, he, rfl⟩); rwa [AV.ren_cells, List.length_map] at this
      · rw [← AV.ren_one ρ]; exact h10 _ (List.mem_map.2 ⟨x, hx, rfl⟩)
      · exact lowL_iff.2 (low_flat.1 hl)
  | map es =>
    obtain ⟨r, ents, clock, h1, h2, h3, h4, us, h5⟩ := k
    refine ⟨r, ents, clock, hb.symm.trans h1, h2, ?_, by rw [h4, List.length_map], us, fun j q x e => ?_⟩
    · rw [List.map_map] at h3; exact h3
    · obtain ⟨h6, h7⟩ := h5 j q (x.ren ρ) (by rw [List.getElem?_map, e]; rfl)
      refine ⟨R.unrep h6 rfl ?_, h7⟩
      exact lowL_iff.1 hl x (List.mem_map.2 ⟨(q, x), List.mem_of_getElem? e, rfl⟩)
  | raw o => obtain ⟨b, h1, h2⟩ := k; exact ⟨b, hb.symm.trans h1, h2⟩
  | lp st pend f tm ps x y n =>
    obtain ⟨b, dfr, tmps, h1, h2, h3, h4⟩ := k
    refine ⟨b, dfr, tmps, hb.symm.trans h1, h2, h3, fun t r e => ?_⟩
    obtain ⟨v, h5, h6⟩ := h4 t (r.ren ρ) (List.mem_map.2 ⟨(t, r), e, rfl⟩)
    exact ⟨v, h5, R.unrep h6 rfl (lowL_iff.1 hl r (List.mem_map.2 ⟨(t, r), e, rfl⟩))⟩

theorem Ren.blkOf (R : Ren ρ β1 H1 β H) {i : Nat} (hi : i < H1.length) : GA.blkOf β H (ρ i) = GA.blkOf β1 H1 i := by
  have h1 := R.m i _ (List.getElem?_eq_getElem hi)
  unfold GA.blkOf
  rw [h1, List.getElem?_eq_getElem hi, R.b i hi]
  generalize H1[i] = x
  cases x <;> rfl
theorem Ren.to {x x' : Blk} {β' β1' : Nat → Value} {i : Nat} (h1 : β (ρ i) = β1 i) (h2 : β' (ρ i) = β1' i) (k : x.to β1 β1' i x') : (x.ren ρ).to β β' (ρ i) (x'.ren ρ) := by
  cases x with
  | dead => simp only [Blk.to] at k; subst k; rfl
  | free => trivial
  | cells cs =>
    rcases k with rfl | ⟨cs', rfl, hb⟩
    · exact .inl rfl
    · exact .inr ⟨_, rfl, by rw [h1, h2]; exact hb⟩
  | grow t nl els =>
    rcases k with rfl | ⟨nl', els', rfl, hl, hb⟩
    · exact .inl rfl
    · exact .inr ⟨_, _, rfl, by simp only [renL_eq, List.length_map]; exact hl, fun e => by rw [h1, h2]; simp only [renL_eq, List.length_map] at e; exact hb e⟩
  | map es =>
    rcases k with rfl | ⟨cs', rfl, hb⟩
    · exact .inl rfl
    · exact .inr ⟨_, rfl, by rw [h1, h2]; exact hb⟩
  | raw o =>
    rcases k with rfl | ⟨cs', rfl, hb⟩
    · exact .inl rfl
    · exact .inr ⟨_, rfl, by rw [h1, h2]; exact hb⟩
  | lp st pend f tm ps x y n =>
    rcases k with rfl | ⟨st', pend', rfl, hb⟩
    · exact .inl rfl
    · exact .inr ⟨_, _, rfl, by rw [h1, h2]; exact hb⟩

theorem Ren.sr (R : Ren ρ β1 H1 β H) (s : SR P E h β H w) (inj : ∀ i j, i < H1.length → j < H1.length → ρ i = ρ j → i = j) (lo : ∀ x ∈ H1, x.low H1.length = true) : SR P E h β1 H1 w := by
  have hlt : ∀ {i x}, GA.blkOf β1 H1 i = some x → i < H1.length := fun e => (blkOf_some e).1
  refine ⟨s.env, s.imm, fun i x e => ?_, fun i j x e1 e2 => ?_, fun i x e => ?_, s.frm, fun i x e => ?_⟩
  · have hi := (List.getElem?_eq_some_iff.1 e).1
    exact R.unblk hi (lo x (List.mem_of_getElem? e)) (s.blk _ _ (R.m i x e))
  · exact inj i j (hlt e1) (hlt e2) (s.own _ _ x (by rw [R.blkOf (hlt e1)]; exact e1) (by rw [R.blkOf (hlt e2)]; exact e2))
  · exact s.fresh (ρ i) x (by rw [R.blkOf (hlt e)]; exact e)
  · exact s.fro (ρ i) x (by rw [R.blkOf (hlt e)]; exact e)

noncomputable def othE (E : Env) (β : Nat → Value) (H : List Blk) (w : World) (im : Nat → Prop) : Env := by
  classical exact ⟨E.b, fun b => if ∃ j, ¬ im j ∧ GA.blkOf β H j = some b then w.heap[b]? else E.fr b, E.en⟩
theorem othE_hit {im : Nat → Prop} {b j : Nat} (hj : ¬ im j) (hb : GA.blkOf β H j = some b) : (othE E β H w im).fr b = w.heap[b]? := by
  simp only [othE]; rw [if_pos ⟨j, hj, hb⟩]
theorem othE_miss {im : Nat → Prop} {b : Nat} (hn : ∀ j, ¬ im j → GA.blkOf β H j ≠ some b) : (othE E β H w im).fr b = E.fr b := by
  simp only [othE]; rw [if_neg (fun ⟨j, h1, h2⟩ => hn j h1 h2)]

theorem Ren.srE (R : Ren ρ β1 H1 β H) (s : SR P E h β H w) (inj : ∀ i j, i < H1.length → j < H1.length → ρ i = ρ j → i = j) (lo : ∀ x ∈ H1, x.low H1.length = true) :
    SR P (othE E β H w fun j => ∃ i, i < H1.length ∧ ρ i = j) h β1 H1 w := by
  have s1 := R.sr s inj lo
  refine ⟨s1.env, s1.imm, s1.blk, s1.own, s1.fresh, fun b o e => ?_, fun i x e => ?_⟩
  · by_cases hh : ∃ j, ¬ (∃ i, i < H1.length ∧ ρ i = j) ∧ GA.blkOf β H j = some b
    · obtain ⟨j, h1, h2⟩ := hh
      rw [othE_hit h1 h2] at e
      exact ⟨e, s.fresh _ _ h2⟩
    · rw [othE_miss (fun j h1 h2 => hh ⟨j, h1, h2⟩)] at e; exact s.frm b o e
  · have hi := (blkOf_some e).1
    have hb := R.blkOf hi
    rw [othE_miss]
    · exact s.fro (ρ i) x (by rw [hb]; exact e)
    · intro j h1 h2
      exact h1 ⟨i, hi, s.own _ _ x (by rw [hb]; exact e) h2⟩

theorem ACall.frame {f : FuncId} {rs1 : List AV} {k1 k : AV → List Blk → Prop} (x : ACall P f rs1 H1 k1)
    (inj : ∀ i j, i < H1.length → j < H1.length → ρ i = ρ j → i = j) (hm : ∀ (i : Nat) x1, H1[i]? = some x1 → H[ρ i]? = some (x1.ren ρ))
    (lo : ∀ x ∈ H1, x.low H1.length = true) (lor : lowL H1.length rs1 = true)
    (hk : ∀ r1 H1', k1 r1 H1' → H1'.length = H1.length ∧ ∃ H', H'.length = H.length ∧ (∀ (i : Nat) x1, H1'[i]? = some x1 → H'[ρ i]? = some (x1.ren ρ)) ∧ (∀ j, (∀ i, i < H1.length → ρ i ≠ j) → H'[j]? = H[j]?) ∧ k (r1.ren ρ) H') :
    ACall P f (rs1.map (AV.ren ρ)) H k := by
  refine ⟨x.1, fun E h β w vs s hr => ?_⟩
  have R : Ren ρ (fun i => β (ρ i)) H1 β H := ⟨hm, fun _ _ => rfl⟩
  have s1 := R.srE s inj lo
  have hr1 : RepL P h (fun i => β (ρ i)) H1 rs1 vs := ⟨by rw [hr.1, List.length_map], fun j r e => by
    obtain ⟨v, h1, h2⟩ := hr.2 j _ (map_get e)
    exact ⟨v, h1, R.unrep h2 rfl (lowL_get lor e)⟩⟩
  refine (x.2 _ h _ w vs s1 hr1).mono ?_
  rintro e w' ⟨r1, H1', h', β1', v, rfl, q, X, s', hv⟩
  obtain ⟨hlen, H', hlen', hm', ho, hk'⟩ := hk r1 H1' q
  classical
  let β' : Nat → Value := fun j => if hj : ∃ i, i < H1.length ∧ ρ i = j then β1' (Classical.choose hj) else β j
  have hβ1 : ∀ i, i < H1.length → β' (ρ i) = β1' i := by
    intro i hi
    have hj : ∃ i', i' < H1.length ∧ ρ i' = ρ i := ⟨i, hi, rfl⟩
    simp only [β', dif_pos hj]
    rw [inj _ _ (Classical.choose_spec hj).1 hi (Classical.choose_spec hj).2]
  have hβ2 : ∀ j, (∀ i, i < H1.length → ρ i ≠ j) → β' j = β j := by
    intro j hj
    have hn : ¬ ∃ i, i < H1.length ∧ ρ i = j := fun ⟨i, h1, h2⟩ => hj i h1 h2
    simp only [β', dif_neg hn]
  have R' : Ren ρ β1' H1' β' H' := ⟨hm', fun i hi => hβ1 i (by omega)⟩
  have im : ∀ j, (∃ i, i < H1.length ∧ ρ i = j) ∨ ∀ i, i < H1.length → ρ i ≠ j := by
    intro j
    by_cases hj : ∃ i, i < H1.length ∧ ρ i = j
    · exact .inl hj
    · exact .inr fun i hi e => hj ⟨i, hi, e⟩
  have X' : Ext h β H h' β' H' := by
    refine ⟨X.imm, by omega, fun j y y' e e' => ?_⟩
    rcases im j with ⟨i, hi, rfl⟩ | hj
    · have h1 : H1[i]? = some H1[i] := List.getElem?_eq_getElem hi
      have h2 : H1'[i]? = some (H1'[i]'(by omega)) := List.getElem?_eq_getElem (by omega)
      rw [hm i _ h1] at e; cases e
      rw [hm' i _ h2] at e'; cases e'
      exact Ren.to (β1 := fun i => β (ρ i)) rfl (hβ1 i hi) (X.to i _ _ h1 h2)
    · rw [ho j hj, e] at e'; cases e'
      have := Blk.to_refl β j y
      cases y with
      | dead => rfl
      | free => trivial
      | cells cs => exact .inr ⟨_, rfl, hβ2 j hj⟩
      | grow t nl els => exact .inr ⟨_, _, rfl, Nat.le_refl _, fun _ => hβ2 j hj⟩
      | map es => exact .inr ⟨_, rfl, hβ2 j hj⟩
      | raw o => exact .inr ⟨_, rfl, hβ2 j hj⟩
      | lp st pend f tm ps x y n => exact .inr ⟨_, _, rfl, hβ2 j hj⟩
  have hb1 : ∀ i, i < H1.length → GA.blkOf β' H' (ρ i) = GA.blkOf β1' H1' i := fun i hi => R'.blkOf (by omega)
  have hb2 : ∀ j, (∀ i, i < H1.length → ρ i ≠ j) → GA.blkOf β' H' j = GA.blkOf β H j := fun j hj => blkOf_congr (hβ2 j hj) (ho j hj)
  have hsome : ∀ j b, GA.blkOf β H j = some b → ∃ o, w.heap[b]? = some o := fun j b e => ⟨_, Array.getElem?_eq_getElem (s.lt e)⟩
  have hfr : ∀ j b o, (∀ i, i < H1.length → ρ i ≠ j) → GA.blkOf β H j = some b → w.heap[b]? = some o → w'.heap[b]? = some o ∧ h' b = none := by
    intro j b o hj e eo
    refine s'.frm b o ?_
    rw [othE_hit (j := j) (fun ⟨i, h1, h2⟩ => hj i h1 h2) e]; exact eo
  have hE : ∀ b o, E.fr b = some o → (othE E β H w fun j => ∃ i, i < H1.length ∧ ρ i = j).fr b = some o := by
    intro b o e
    rw [othE_miss]
    · exact e
    · intro j _ h2; rw [s.fro j b h2] at e; cases e
  refine ⟨r1.ren ρ, H', h', β', v, rfl, hk', X', ?_, R'.rep hv⟩
  refine ⟨s'.env, s'.imm, fun j y e => ?_, fun i j b e1 e2 => ?_, fun j b e => ?_, fun b o e => s'.frm b o (hE b o e), fun j b e => ?_⟩
  · rcases im j with ⟨i, hi, rfl⟩ | hj
    · have h2 : H1'[i]? = some (H1'[i]'(by omega)) := List.getElem?_eq_getElem (by omega)
      rw [hm' i _ h2] at e; cases e
      exact R'.blk (by omega) (s'.blk i _ h2)
    · rw [ho j hj] at e
      refine (s.blk j y e).keep X' (hβ2 j hj) fun hd hd' b hb => ?_
      have hbo : GA.blkOf β H j = some b := by unfold GA.blkOf; rw [e]; cases y <;> first | exact absurd rfl hd | exact absurd rfl hd' | exact hb
      obtain ⟨o, ho'⟩ := hsome j b hbo
      rw [ho', (hfr j b o hj hbo ho').1]
  · rcases im i with ⟨i0, hi, rfl⟩ | hi <;> rcases im j with ⟨j0, hj, rfl⟩ | hj
    · rw [hb1 i0 hi] at e1; rw [hb1 j0 hj] at e2
      rw [s'.own _ _ b e1 e2]
    · rw [hb1 i0 hi] at e1; rw [hb2 j hj] at e2
      obtain ⟨o, ho'⟩ := hsome j b e2
      have h3 := s'.fro _ _ e1
      rw [othE_hit (j := j) (fun ⟨i, h1, h2⟩ => hj i h1 h2) e2, ho'] at h3; cases h3
    · rw [hb2 i hi] at e1; rw [hb1 j0 hj] at e2
      obtain ⟨o, ho'⟩ := hsome i b e1
      have h3 := s'.fro _ _ e2
      rw [othE_hit (j := i) (fun ⟨i', h1, h2⟩ => hi i' h1 h2) e1, ho'] at h3; cases h3
    · rw [hb2 i hi] at e1; rw [hb2 j hj] at e2
      exact s.own _ _ b e1 e2
  · rcases im j with ⟨i, hi, rfl⟩ | hj
    · rw [hb1 i hi] at e; exact s'.fresh _ _ e
    · rw [hb2 j hj] at e
      obtain ⟨o, ho'⟩ := hsome j b e
      exact (hfr j b o hj e ho').2
  · rcases im j with ⟨i, hi, rfl⟩ | hj
    · rw [hb1 i hi] at e
      have h3 := s'.fro _ _ e
      cases hx : E.fr b with
      | none => rfl
      | some o => rw [hE b o hx] at h3; cases h3
    · rw [hb2 j hj] at e; exact s.fro _ _ e
end
end GA
end

section
namespace GA
open Go Go.RowKit
set_option linter.unusedVariables false

section
variable {P : Program} {T : Tab} {N : Nat} {ρ : Option Nat} {own : List Nat} {D : List Nat} {σ : St} {H : List Blk} {Q : Post} {E : Env} {h : Nat → Option Obj} {β : Nat → Value} {w : World}

structure RenS (f : Nat → Nat) (base : Nat) (H1 : List Blk) (σ1 : St) (H : List Blk) (σ : St) : Prop where
  inj : ∀ i j, i < H1.length → j < H1.length → f i = f j → i = j
  fix : ∀ i, i < base → f i = i
  len : base ≤ H1.length
  hm : ∀ (i : Nat) x1, H1[i]? = some x1 → H[f i]? = some (x1.ren f)
  lowb : ∀ (i : Nat) x1, i < base → H1[i]? = some x1 → x1.ren f = x1
  low : ∀ x ∈ H1, x.low H1.length = true
  st : ∀ t r, σ1 t = some r → σ t = some (r.ren f) ∧ r.low H1.length = true

theorem AWp.loopR {c : Code} {G : Type} (st : G → St) (hp : G → List Blk) (μ : G → Nat) (g0 : G) (hσ : ∀ t r, st g0 t = some r → σ t = some r) (hH : hp g0 = H) (hD : D = [])
    (round : ∀ g, AWp P N ρ c (thenQ (fun D' σ' H' => D' = D ∧ ∃ g' f, μ g' < μ g ∧ RenS f H.length (hp g') (st g') H' σ') Q) D (st g) (hp g)) : AWp P N ρ (.loop c) Q D σ H := by
  intro E h β a w s
  subst hH; subst hD
  let I : G → Act → World → Prop := fun g a w => ∃ h' β', Ext h β (hp g0) h' β' (hp g) ∧ Stands P E N h' β' [] (st g) (hp g) a w
  have least : ∀ a w, (∃ g, I g a w) → ∃ n, (∃ g, I g a w ∧ μ g = n) ∧ ∀ m, m < n → ¬ ∃ g, I g a w ∧ μ g = m :=
    fun a w ⟨g, hg⟩ => exists_least ⟨μ g, g, hg, rfl⟩
  classical
  let M : Act → World → Nat := fun a w => if e : ∃ g, I g a w then Classical.choose (least a w e) else 0
  have hM : ∀ a w (e : ∃ g, I g a w), (∃ g, I g a w ∧ μ g = M a w) ∧ ∀ g, I g a w → M a w ≤ μ g := by
    intro a w e
    have hc := Classical.choose_spec (least a w e)
    have hm : M a w = Classical.choose (least a w e) := by simp only [M, dif_pos e]
    rw [hm]
    refine ⟨hc.1, fun g hg => ?_⟩
    rcases Nat.lt_or_ge (μ g) (Classical.choose (least a w e)) with hlt | hge
    · exact absurd ⟨g, hg, rfl⟩ (hc.2 _ hlt)
    · exact hge
  refine wpIn_loop (fun a w => ∃ g, I g a w) M ⟨g0, h, β, Ext.refl _ _ _, s.sr, fun t r e => s.fits t r (hσ t r e), s.size, s.df⟩ ?_
  intro a' w' hI
  obtain ⟨⟨g, hg, hmu⟩, _⟩ := hM a' w' hI
  obtain ⟨h', β', X, s'⟩ := hg
  refine wpIn_mono (round g E h' β' a' w' s') ?_
  rintro e a'' w'' ⟨D'', σ'', H'', h'', β'', q, X', s''⟩
  cases e with
  | normal =>
    obtain ⟨rfl, g', f, hlt, r⟩ := q
    have R : Ren f (fun i => β'' (f i)) (hp g') β'' H'' := ⟨r.hm, fun _ _ => rfl⟩
    have hI' : I g' a'' w'' := by
      refine ⟨h'', fun i => β'' (f i), ⟨(X.trans X').imm, r.len, fun i x x' e e' => ?_⟩, R.sr s''.sr r.inj r.low, fun t r0 e => ?_, s''.size, s''.df.any⟩
      · have hi := (List.getElem?_eq_some_iff.1 e).1
        have h1 := r.hm i x' e'
        rw [r.fix i hi, r.lowb i x' hi e'] at h1
        have h2 := (X.trans X').to i x x' e h1
        cases x with
        | dead => exact h2
        | free => trivial
        | _ => simpa only [Blk.to, r.fix i hi] using h2
      · obtain ⟨h1, h2⟩ := r.st t r0 e
        obtain ⟨v, h3, h4⟩ := s''.fits t _ h1
        exact ⟨v, h3, R.unrep h4 rfl h2⟩
    refine ⟨⟨g', hI'⟩, ?_⟩
    have := (hM a'' w'' ⟨g', hI'⟩).2 g' hI'
    omega
  | _ => exact ⟨D'', σ'', H'', h'', β'', q, X.trans X', s''⟩

def rnF (l : List Nat) (i : Nat) : Nat := match lget l i with | some j => j | none => i
def XBlkR (f : Nat → Nat) (base : Nat) (x : Blk) (o : Option Blk) : Prop := (o = some x ∧ x.low base = true) ∨ o = some (x.ren f)
def XValR (f : Nat → Nat) (base : Nat) (x : AV) (o : Option AV) : Prop := (o = some x ∧ x.low base = true) ∨ o = some (x.ren f)
def BlksR (f : Nat → Nat) (base : Nat) (H : List Blk) : Nat → List Blk → Prop
  | _, [] => True
  | i, x :: l => XBlkR f base x (lget H (f i)) ∧ BlksR f base H (i + 1) l
def SubR (f : Nat → Nat) (base : Nat) (n : Nat) (σ : St) : List (Nat × AV) → Prop
  | [] => True
  | (t, r) :: l => (XValR f base r (σ t) ∧ r.low n = true) ∧ SubR f base n σ l
structure XAgainR {G : Type} (I : G → Prop) (L : G → List (Nat × AV)) (hp : G → List Blk) (μ : G → Nat) (base : Nat) (g : G) (D' : List Nat) (σ' : St) (H' : List Blk) : Prop where
  d : D' = []
  o : ∃ g' l, I g' ∧ μ g' < μ g ∧ (l.length = (hp g').length ∧ l.Nodup ∧ (∀ i, i < base → lget l i = some i) ∧ base ≤ l.length) ∧ (∀ x ∈ hp g', x.low (hp g').length = true) ∧ (∀ (i : Nat) x, i < base → lget (hp g') i = some x → x.low base = true) ∧
    BlksR (rnF l) base H' 0 (hp g') ∧ SubR (rnF l) base (hp g').length σ' (L g')

theorem mapS_low {f : Nat → Nat} {n : Nat} {α : Type} (h : ∀ i, i < n → f i = i) {es : List (α × AV)} (hl : lowL n (es.map (·.2)) = true) : (es.map fun p => (p.1, p.2.ren f)) = es := by
  have : ∀ p ∈ es, (fun p : α × AV => (p.1, p.2.ren f)) p = id p := fun p hp => by
    have := lowL_iff.1 hl p.2 (List.mem_map.2 ⟨p, hp, rfl⟩)
    simp only [id, AV.ren_low h this]
  rw [List.map_congr_left this, List.map_id]
theorem Blk.ren_low {f : Nat → Nat} {n : Nat} (h : ∀ i, i < n → f i = i) {x : Blk} (hl : x.low n = true) : x.ren f = x := by
  cases x with
  | cells cs => simp only [Blk.ren]; rw [renL_low h hl]
  | grow t nl els => simp only [Blk.ren]; rw [renL_low h hl]
  | map es => simp only [Blk.ren]; rw [mapS_low h hl]
  | lp st pend f tm ps x y n => simp only [Blk.ren]; rw [mapS_low h hl]
  | _ => rfl
theorem BlksR.get {f : Nat → Nat} {base : Nat} {H : List Blk} : ∀ {l : List Blk} {i : Nat}, BlksR f base H i l → ∀ (j : Nat) x, l[j]? = some x → XBlkR f base x (lget H (f (i + j)))
  | [], _, _, j, x, e => by simp at e
  | y :: l, i, h, 0, x, e => by simp at e; subst e; exact h.1
  | y :: l, i, h, j + 1, x, e => by
    have := BlksR.get h.2 j x (by simpa using e)
    rwa [Nat.add_right_comm] at this
theorem SubR.get {f : Nat → Nat} {base n : Nat} {σ : St} : ∀ {l : List (Nat × AV)}, SubR f base n σ l → ∀ t r, stX l t = some r → XValR f base r (σ t) ∧ r.low n = true
  | [], _, t, r, e => by cases e
  | (u, x) :: l, h, t, r, e => by
    simp only [stX, updX_eq, upd] at e
    split at e
    · rename_i hh; cases e; subst hh; exact h.1
    · exact SubR.get h.2 t r e
theorem Walk.loopR {c : Code} {G : Type} (ok : TabOk P T) (own : List Nat) (I : G → Prop) (L : G → List (Nat × AV)) (hp : G → List Blk) (μ : G → Nat) (g0 : G) (base : Nat) (h0 : I g0) (hH : hp g0 = H) (hb : base = H.length) (hs : SubX (L g0) σ)
    (round : ∀ g, I g → XRun P T N ρ own c (thenQ (XAgainR I L hp μ base g) Q) [] (stX (L g)) (hp g)) : Walk P N ρ (.loop c) Q [] σ H := by
  constructor
  refine AWp.loopR (G := {g : G // I g}) (fun g => stX (L g.1)) (fun g => hp g.1) (fun g => μ g.1) ⟨g0, h0⟩ (stX_sub hs) hH rfl fun g => ?_
  refine (XRun.sound ok (round g.1 g.2)).mono fun e D' σ' H' q => ?_
  cases e with
  | normal =>
    obtain ⟨h1, g', l, h2, h3, ⟨h4, h5, h6, h6'⟩, h7, h8, h9, h10⟩ := q
    have hfix : ∀ i, i < base → rnF l i = i := fun i hi => by unfold rnF; rw [h6 i hi]
    refine ⟨h1, ⟨g', h2⟩, rnF l, h3, ⟨fun i j hi hj e => ?_, by rw [← hb]; exact hfix, by rw [← hb, ← h4]; exact h6', fun i x e => ?_, fun i x hi e => ?_, h7, fun t r e => ?_⟩⟩
    · dsimp only at hi hj
      unfold rnF at e
      rw [lget_eq, lget_eq, List.getElem?_eq_getElem (by omega), List.getElem?_eq_getElem (by omega)] at e
      exact (List.getElem_inj h5).1 e
    · have := h9.get i x e
      rw [Nat.zero_add, lget_eq] at this
      rcases this with ⟨e1, e2⟩ | e1
      · rw [e1, Blk.ren_low hfix e2]
      · exact e1
    · rw [← hb] at hi
      exact Blk.ren_low hfix (h8 i x hi (by rw [lget_eq]; exact e))
    · obtain ⟨e0, e3⟩ := h10.get t r e
      refine ⟨?_, e3⟩
      rcases e0 with ⟨e1, e2⟩ | e1
      · rw [e1, AV.ren_low hfix e2]
      · exact e1
  | _ => exact q
theorem XAgainR.go {G : Type} {I : G → Prop} {L : G → List (Nat × AV)} {hp : G → List Blk} {μ : G → Nat} {base : Nat} {g : G} (g' : G) (l : List Nat) (h1 : I g') (h2 : μ g' < μ g) (h3 : l.length = (hp g').length ∧ l.Nodup ∧ (∀ i, i < base → lget l i = some i) ∧ base ≤ l.length)
    (h4 : ∀ x ∈ hp g', x.low (hp g').length = true) (h5 : ∀ (i : Nat) x, i < base → lget (hp g') i = some x → x.low base = true) (h6 : BlksR (rnF l) base H 0 (hp g')) (h7 : SubR (rnF l) base (hp g').length σ (L g')) : XAgainR I L hp μ base g [] σ H :=
  ⟨rfl, g', l, h1, h2, h3, h4, h5, h6, h7⟩

theorem opLoad_ex {t : TypeId} {p : AV} {k : AV → Prop} (x : opLoad P t H p k) : ∃ r, k r ∧ ∀ k' : AV → Prop, k' r → opLoad P t H p k' := by
  unfold opLoad at x
  obtain ⟨ti, h1, x⟩ := bnd_elim x
  obtain ⟨cs, h2, x⟩ := bnd_elim x
  split at x
  · rename_i e
    exact ⟨_, x.2, fun k' hk => by unfold opLoad; rw [h1, bnd_some, h2, bnd_some, if_pos e]; exact ⟨x.1, hk⟩⟩
  · rename_i e
    obtain ⟨c, h3, x⟩ := bnd_elim x
    exact ⟨c, x, fun k' hk => by unfold opLoad; rw [h1, bnd_some, h2, bnd_some, if_neg e, h3, bnd_some]; exact hk⟩
theorem resA_ex : ∀ {l : List ResultVar} {k : List AV → Prop}, resA P σ H l k → ∃ rs, k rs ∧ ∀ k' : List AV → Prop, k' rs → resA P σ H l k'
  | [], k, x => ⟨[], x, fun _ h => h⟩
  | .tmp t :: l, k, x => by
    obtain ⟨r, h1, x⟩ := bnd_elim x
    obtain ⟨rs, h2, h3⟩ := resA_ex x
    exact ⟨r :: rs, h2, fun k' h => by simp only [resA]; rw [h1, bnd_some]; exact h3 (fun rs => k' (r :: rs)) h⟩
  | .cell a t :: l, k, x => by
    obtain ⟨p, h1, x⟩ := bnd_elim x
    obtain ⟨r, x, h4⟩ := opLoad_ex x
    obtain ⟨rs, h2, h3⟩ := resA_ex x
    exact ⟨r :: rs, h2, fun k' h => by simp only [resA]; rw [h1, bnd_some]; exact h4 _ (h3 (fun rs => k' (r :: rs)) h)⟩
structure XCut (n : Nat) (D : List Nat) (H : List Blk) (r : AV) (k : AV → List Blk → Prop) : Prop where
  o : ∃ H1 l, H = H1 ++ l ∧ H1.length = n ∧ (∀ x ∈ H1, x.low n = true) ∧ D.Nodup ∧ (∀ i ∈ D, n ≤ i ∧ H[i]? = some (.raw (.deferred (some [])))) ∧ r.low n = true ∧ k r H1
def XFk (T : Tab) (res : List ResultVar) (n : Nat) (k : AV → List Blk → Prop) : Post := fun e D σ H =>
  match e with
  | .normal | .ret => xRes T σ H res fun rs => XCut n D H (pack rs) k
  | _ => False
theorem ACall.bodyK {f : FuncId} {fn : Func} {c : Code} {rs : List AV} {res : List ResultVar} {k : AV → List Blk → Prop} (ok : TabOk P T) (own : List Nat) (hf : P.funcs[f]? = some fn) (hb : fn.body = some c) (hn : (fn.name == "runtime.NumGoroutine") = false)
    (hN : fn.ntmps = N) (hr : fn.results = res.toArray) (hl : rs.length ≤ N) (x : XRun P T N none own c (XFk T res H.length k) [] (argX rs) H) : ACall P f rs H k := by
  subst hN
  refine ACall.of_body hf hb hn hl ?_
  rw [hr, ← argX_eq]
  refine (XRun.sound ok x).mono fun e D σ H' q => ?_
  have go : xRes T σ H' res (fun rs => XCut H.length D H' (pack rs) k) → ∃ H1 l, H' = H1 ++ l ∧ H.length ≤ H1.length ∧ (∀ x ∈ H1, x ∈ H ∨ x.low H1.length = true) ∧ D.Nodup ∧
    (∀ i ∈ D, H1.length ≤ i ∧ H'[i]? = some (.raw (.deferred (some [])))) ∧ resA P σ H' res fun rs => (pack rs).low H1.length = true ∧ k (pack rs) H1 := by
    intro x
    obtain ⟨rs, ⟨H1, l, h1, h2, h3, h4, h5, h6, h7⟩, hx⟩ := resA_ex (xRes_sound ok x)
    exact ⟨H1, l, h1, by omega, fun x hx => .inr (by rw [h2]; exact h3 x hx), h4, by rw [h2]; exact h5, hx _ ⟨by rw [h2]; exact h6, h7⟩⟩
  cases e <;> first | exact ⟨.inl rfl, go q⟩ | exact ⟨.inr rfl, go q⟩ | exact q.elim
theorem XCut.mk' {n : Nat} {H : List Blk} {r : AV} {k : AV → List Blk → Prop} (H1 l : List Blk) (h1 : H1 ++ l = H) (h2 : H1.length = n) (h3 : ∀ x ∈ H1, x.low n = true) (h4 : r.low n = true) (h5 : k r H1) : XCut n [] H r k :=
  ⟨H1, l, h1.symm, h2, h3, by simp, by simp, h4, h5⟩
end
end GA
end

section
namespace GA
open Go Go.RowKit
set_option linter.unusedVariables false

def hsV (H : List Blk) (l : List (List Blk → List Blk)) (fl : List Bool) : List Blk := match lget l (fl.countP id) with | some f => f H | none => H
def hsW (H : List Blk) (l : List (List Blk → List Blk)) (fl : List Bool) : List Blk := match lget l (bin fl) with | some f => f H | none => H
def look (n : Int) : List (Int × Nat) → Option Nat
  | [] => none
  | (k, u) :: l => if k = n then some u else look n l
def putm (n : Int) (v : Nat) : List (Int × Nat) → List (Int × Nat)
  | [] => [(n, v)]
  | (k, u) :: l => if k = n then (k, v) :: l else (k, u) :: putm n v l
def esA (m : List (Int × Nat)) : List (Int × AV) := m.map fun p => (p.1, .int .i64 p.2)
theorem mget_esA (n : Int) : ∀ m : List (Int × Nat), mget n (esA m) = (look n m).map fun v : Nat => AV.int .i64 v
  | [] => rfl
  | (k, u) :: l => by
    have := mget_esA n l
    simp only [esA, List.map_cons, mget, look] at this ⊢
    split
    · rfl
    · exact this
theorem mput_esA (n : Int) (v : Nat) : ∀ m : List (Int × Nat), mput n (.int .i64 v) (esA m) = esA (putm n v m)
  | [] => rfl
  | (k, u) :: l => by
    have := mput_esA n v l
    simp only [esA, List.map_cons, mput, putm] at this ⊢
    split
    · rfl
    · simp only [List.map_cons, this]
theorem look_put (n k : Int) (v : Nat) : ∀ m : List (Int × Nat), look k (putm n v m) = if k = n then some v else look k m
  | [] => by simp only [putm, look]; split <;> split <;> simp_all
  | (j, u) :: l => by
    have := look_put n k v l
    simp only [putm]
    split
    · rename_i e
      subst e
      simp only [look]
      split
      · rename_i e; rw [if_pos e.symm]
      · rename_i e; rw [if_neg (fun h => e h.symm)]
    · rename_i e
      simp only [look]
      split
      · rename_i e2; subst e2; rw [if_neg e]
      · exact this
theorem low_esA {n : Nat} (m : List (Int × Nat)) : (Blk.map (esA m)).low n = true := by
  simp only [Blk.low, esA, List.map_map]
  exact lowL_iff.2 fun x hx => by obtain ⟨p, _, rfl⟩ := List.mem_map.1 hx; rfl
theorem ren_esA (f : Nat → Nat) (m : List (Int × Nat)) : (Blk.map (esA m)).ren f = .map (esA m) := Blk.ren_low (n := 0) (fun i hi => by omega) (low_esA m)
end GA
end

section
namespace GA
open Go Go.RowKit
set_option linter.unusedVariables false

section
variable {P : Program} {T : Tab} {N : Nat} {ρ : Option Nat} {own : List Nat} {D : List Nat} {σ : St} {H : List Blk} {Q : Post} {E : Env} {h : Nat → Option Obj} {β : Nat → Value} {w : World} {a : Act}

theorem DfL.mem {en : Nat → Option Obj} {D : List Nat} {ds : List Deferred} (d : DfL P h β H en D ds) {b : Nat} (hb : ({ target := .collected b, args := #[] } : Deferred) ∈ ds) : (∃ j ∈ D, Rep P h β H (.yld j) (.func (.yield b) #[] #[])) ∨ h b = some (.deferred (some [])) := by
  induction d with
  | nil => simp at hb
  | @own i b' D ds r t ih =>
    rcases List.mem_cons.1 hb with e | e
    · cases e; exact .inl ⟨i, List.mem_cons_self, r⟩
    · rcases ih e with ⟨j, h1, h2⟩ | h1
      · exact .inl ⟨j, List.mem_cons_of_mem _ h1, h2⟩
      · exact .inr h1
  | @lost b' D ds h1 he nd t ih =>
    rcases List.mem_cons.1 hb with e | e
    · cases e; exact .inr h1
    · exact ih e
theorem DfL.lose {en : Nat → Option Obj} {h' : Nat → Option Obj} {H' : List Blk} {i b : Nat} {D0 : List Nat} {ds : List Deferred} (s : SR P E h β H w) (X : Ext h β H h' β H') (hbo : blkOf β H i = some b) (hb' : h' b = some (.deferred (some []))) (he : en b = none) (hm : h b = none) (hi : H[i]? = some (.raw (.deferred (some []))))
    (d : DfL P h β H en D0 ds) : ∀ {D : List Nat}, D0 = i :: D → i ∉ D → (∀ j ∈ D, H[j]? = some (.raw (.deferred (some [])))) → DfL P h' β H' en D ds := by
  induction d with
  | nil => intro D e; cases e
  | @own i' b' D' ds r t ih =>
    intro D e hni hD
    cases e
    have hbb : b' = b := by
      cases r with
      | yld hlv hb =>
        have hbi := hb _ hi rfl
        have : blkOf β H i = some b' := by simp only [blkOf, hi, hbi]; rfl
        rw [hbo] at this; cases this; rfl
    subst hbb
    refine .lost hb' he (fun b2 hb2 => ?_) (t.ext X)
    rintro rfl
    rcases t.mem hb2 with ⟨j, h1, h2⟩ | h1
    · cases h2 with
      | yld hlv hb =>
        have hj := hD j h1
        have hbj := hb _ hj rfl
        have : blkOf β H j = some b2 := by simp only [blkOf, hj, hbj]; rfl
        exact hni (s.own _ _ _ hbo this ▸ h1)
    · rw [hm] at h1; cases h1
  | @lost b' D' ds h1 he' nd t ih =>
    intro D e hni hD
    exact .lost (X.imm _ _ h1) he' nd (ih e hni hD)
theorem Stands.lose : ∀ {D : List Nat} {h : Nat → Option Obj} {H : List Blk}, Stands P E N h β D σ H a w → D.Nodup → (∀ i ∈ D, H[i]? = some (.raw (.deferred (some [])))) →
    ∃ h' H', Stands P E N h' β [] σ H' a w ∧ Ext h β H h' β H' ∧ H'.length = H.length ∧ ∀ j, j ∉ D → H'[j]? = H[j]?
  | [], h, H, s, _, _ => ⟨h, H, s, Ext.refl _ _ _, rfl, fun _ _ => rfl⟩
  | i :: D, h, H, s, hnd, hD => by
    have hi := hD i List.mem_cons_self
    obtain ⟨b, hb1, hb2⟩ := s.sr.blk i _ hi
    have hbo : blkOf β H i = some b := by simp only [blkOf, hi, hb1]; rfl
    have hm := s.sr.fresh _ _ hbo
    have he : E.en b = none := by
      cases hx : E.en b with
      | none => rfl
      | some o => rw [s.df.en b o hx] at hm; cases hm
    obtain ⟨h1, s1, X1, hf⟩ := s.sr.freeze hi
    have hni := (List.nodup_cons.1 hnd).1
    have hDs : ∀ j ∈ D, H[j]? = some (.raw (.deferred (some []))) := fun j hj => hD j (List.mem_cons_of_mem _ hj)
    have d1 := DfL.lose s.sr X1 hbo (hf b _ hbo hb2) he hm hi s.df.l rfl hni hDs
    have s2 : Stands P E N h1 β D σ (H.set i .dead) a w := ⟨s1, s.fits.ext X1, s.size, ⟨(s.df.ext X1).en, d1⟩⟩
    obtain ⟨h', H', s3, X3, hl, ho⟩ := Stands.lose s2 (List.nodup_cons.1 hnd).2 (fun j hj => by rw [List.getElem?_set_ne (show i ≠ j from fun e => hni (by rw [e]; exact hj))]; exact hDs j hj)
    refine ⟨h', H', s3, X1.trans X3, by rw [hl]; simp, fun j hj => ?_⟩
    rw [ho j (fun h => hj (List.mem_cons_of_mem _ h)), List.getElem?_set_ne (show i ≠ j from fun e => hj (by rw [← e]; exact List.mem_cons_self))]

theorem Walk.norm {id : Nat} {ops : Array Oper} (ok : TabOk P T) (own : List Nat) (L : List (Nat × AV)) (hs : SubX L σ) (x : XReg P T N own ops.toList ops.toList (stX L) H (Q .normal D)) : Walk P N ρ (.region id ops false) Q D σ H :=
  ⟨AWp.weaken (stX_sub hs) (AWp.regionX ok x)⟩
structure MarksOk (D : List Nat) (H : List Blk) (f : Nat → Nat) (n : Nat) : Prop where
  nd : D.Nodup
  raw : ∀ i ∈ D, H[i]? = some (.raw (.deferred (some [])))
  out : ∀ i, i < n → f i ∉ D

theorem AWp.loopM {c : Code} {G : Type} (st : G → St) (hp : G → List Blk) (μ : G → Nat) (g0 : G) (hσ : ∀ t r, st g0 t = some r → σ t = some r) (hH : hp g0 = H) (hD : D = [])
    (round : ∀ g, AWp P N ρ c (thenQ (fun D' σ' H' => ∃ g' f, μ g' < μ g ∧ MarksOk D' H' f (hp g').length ∧ RenS f H.length (hp g') (st g') H' σ') Q) D (st g) (hp g)) : AWp P N ρ (.loop c) Q D σ H := by
  intro E h β a w s
  subst hH; subst hD
  let I : G → Act → World → Prop := fun g a w => ∃ h' β', Ext h β (hp g0) h' β' (hp g) ∧ Stands P E N h' β' [] (st g) (hp g) a w
  have least : ∀ a w, (∃ g, I g a w) → ∃ n, (∃ g, I g a w ∧ μ g = n) ∧ ∀ m, m < n → ¬ ∃ g, I g a w ∧ μ g = m :=
    fun a w ⟨g, hg⟩ => exists_least ⟨μ g, g, hg, rfl⟩
  classical
  let M : Act → World → Nat := fun a w => if e : ∃ g, I g a w then Classical.choose (least a w e) else 0
  have hM : ∀ a w (e : ∃ g, I g a w), (∃ g, I g a w ∧ μ g = M a w) ∧ ∀ g, I g a w → M a w ≤ μ g := by
    intro a w e
    have hc := Classical.choose_spec (least a w e)
    have hm : M a w = Classical.choose (least a w e) := by simp only [M, dif_pos e]
    rw [hm]
    refine ⟨hc.1, fun g hg => ?_⟩
    rcases Nat.lt_or_ge (μ g) (Classical.choose (least a w e)) with hlt | hge
    · exact absurd ⟨g, hg, rfl⟩ (hc.2 _ hlt)
    · exact hge
  refine wpIn_loop (fun a w => ∃ g, I g a w) M ⟨g0, h, β, Ext.refl _ _ _, s.sr, fun t r e => s.fits t r (hσ t r e), s.size, s.df⟩ ?_
  intro a' w' hI
  obtain ⟨⟨g, hg, hmu⟩, _⟩ := hM a' w' hI
  obtain ⟨h', β', X, s'⟩ := hg
  refine wpIn_mono (round g E h' β' a' w' s') ?_
  rintro e a'' w'' ⟨D'', σ'', H0', h0', β'', q, X0', s0''⟩
  cases e with
  | normal =>
    obtain ⟨g', f, hlt, m, r0⟩ := q
    obtain ⟨h'', H'', s'', X1, hl, ho⟩ := s0''.lose m.nd m.raw
    have X' := X0'.trans X1
    have hm : ∀ (i : Nat) x1, (hp g')[i]? = some x1 → H''[f i]? = some (x1.ren f) := fun i x1 e => by
      rw [ho _ (m.out i (List.getElem?_eq_some_iff.1 e).1)]; exact r0.hm i x1 e
    have R : Ren f (fun i => β'' (f i)) (hp g') β'' H'' := ⟨hm, fun _ _ => rfl⟩
    have hI' : I g' a'' w'' := by
      refine ⟨h'', fun i => β'' (f i), ⟨(X.trans X').imm, r0.len, fun i x x' e e' => ?_⟩, R.sr s''.sr r0.inj r0.low, fun t r e => ?_, s''.size, s''.df.any⟩
      · have hi := (List.getElem?_eq_some_iff.1 e).1
        have h1 := hm i x' e'
        rw [r0.fix i hi, r0.lowb i x' hi e'] at h1
        have h2 := (X.trans X').to i x x' e h1
        cases x with
        | dead => exact h2
        | free => trivial
        | _ => simpa only [Blk.to, r0.fix i hi] using h2
      · obtain ⟨h1, h2⟩ := r0.st t r e
        obtain ⟨v, h3, h4⟩ := s''.fits t _ h1
        exact ⟨v, h3, R.unrep h4 rfl h2⟩
    refine ⟨⟨g', hI'⟩, ?_⟩
    have := (hM a'' w'' ⟨g', hI'⟩).2 g' hI'
    omega
  | _ => exact ⟨D'', σ'', H0', h0', β'', q, X.trans X0', s0''⟩

structure XAgainM {G : Type} (I : G → Prop) (L : G → List (Nat × AV)) (hp : G → List Blk) (μ : G → Nat) (base : Nat) (g : G) (D' : List Nat) (σ' : St) (H' : List Blk) : Prop where
  o : ∃ g' f, I g' ∧ μ g' < μ g ∧ MarksOk D' H' f (hp g').length ∧ RenS f base (hp g') (stX (L g')) H' σ'
theorem Walk.loopM {c : Code} {G : Type} (ok : TabOk P T) (own : List Nat) (I : G → Prop) (L : G → List (Nat × AV)) (hp : G → List Blk) (μ : G → Nat) (g0 : G) (base : Nat) (h0 : I g0) (hH : hp g0 = H) (hb : base = H.length) (hs : SubX (L g0) σ)
    (round : ∀ g, I g → XRun P T N ρ own c (thenQ (XAgainM I L hp μ base g) Q) [] (stX (L g)) (hp g)) : Walk P N ρ (.loop c) Q [] σ H := by
  constructor
  refine AWp.loopM (G := {g : G // I g}) (fun g => stX (L g.1)) (fun g => hp g.1) (fun g => μ g.1) ⟨g0, h0⟩ (stX_sub hs) hH rfl fun g => ?_
  refine (XRun.sound ok (round g.1 g.2)).mono fun e D' σ' H' q => ?_
  cases e with
  | normal => obtain ⟨g', f, h2, h3, h4, h5⟩ := q; exact ⟨⟨g', h2⟩, f, h3, h4, hb ▸ h5⟩
  | _ => exact q
theorem stX_mem : ∀ (l : List (Nat × AV)) t r, stX l t = some r → (t, r) ∈ l := by
  intro l; induction l with
  | nil => intro t r h; cases h
  | cons p l ih =>
    obtain ⟨u, x⟩ := p
    intro t r h; simp only [stX, updX_eq, upd] at h
    split at h
    · rename_i e; cases h; subst e; exact List.mem_cons_self
    · exact List.mem_cons_of_mem _ (ih t r h)
theorem AV.ren_id (a : AV) : a.ren id = a := by
  refine AV.rec (motive_1 := fun a => a.ren id = a) (motive_2 := fun l => renL id l = l) ?_ ?_ ?_ ?_ ?_ ?_ ?_ ?_ ?_ ?_ ?_ ?_ ?_ ?_ ?_ ?_ ?_ ?_ ?_ ?_ ?_ a
  all_goals first | (intros; rfl) | (intro cs ih; simp only [AV.ren, ih]) | (intro f cs ih; simp only [AV.ren, ih]) | (intro x l ih1 ih2; simp only [renL, ih1, ih2])
theorem Blk.ren_id (x : Blk) : x.ren id = x := by
  have hL : ∀ l : List AV, renL id l = l := fun l => by have := AV.ren_id (.agg l); simpa [AV.ren] using this
  cases x with
  | cells cs => simp only [Blk.ren, hL]
  | grow t nl els => simp only [Blk.ren, hL]
  | map es =>
    simp only [Blk.ren]
    have : ∀ p ∈ es, (fun p : Int × AV => (p.1, p.2.ren id)) p = id p := fun p _ => by simp only [AV.ren_id]; rfl
    rw [List.map_congr_left this, List.map_id]
  | lp st pend f tm ps x y n =>
    simp only [Blk.ren]
    have : ∀ p ∈ tm, (fun p : Nat × AV => (p.1, p.2.ren id)) p = id p := fun p _ => by simp only [AV.ren_id]; rfl
    rw [List.map_congr_left this, List.map_id]
  | _ => rfl
theorem XAgainM.go {G : Type} {I : G → Prop} {L : G → List (Nat × AV)} {hp : G → List Blk} {μ : G → Nat} {base : Nat} {g : G} {D : List Nat} (g' : G) (l : List Blk) (h1 : I g') (h2 : μ g' < μ g) (h3 : hp g' ++ l = H) (h4 : SubX (L g') σ) (hb : base ≤ (hp g').length)
    (h5 : ∀ x ∈ hp g', x.low (hp g').length = true) (h6 : ∀ p ∈ L g', p.2.low (hp g').length = true) (hnd : D.Nodup) (hD : ∀ i ∈ D, (hp g').length ≤ i ∧ lget H i = some (.raw (.deferred (some [])))) : XAgainM I L hp μ base g D σ H :=
  ⟨g', id, h1, h2, ⟨hnd, fun i hi => by have := (hD i hi).2; rwa [lget_eq] at this, fun i hi h => by have := (hD _ h).1; simp only [id] at this; omega⟩,
    ⟨fun _ _ _ _ e => e, fun _ _ => rfl, hb, fun i x1 e => by
      rw [← h3, Blk.ren_id]; simp only [id]
      rw [List.getElem?_append_left (List.getElem?_eq_some_iff.1 e).1]; exact e, fun _ x1 _ _ => Blk.ren_id x1, h5, fun t r e => by
      refine ⟨by rw [AV.ren_id]; exact stX_sub h4 t r e, h6 (t, r) (stX_mem _ _ _ e)⟩⟩⟩
end
end GA
end

section
namespace GA
open Go Go.RowKit Go.ChangeShapes Go.WideShapes
set_option linter.unusedVariables false

section
variable {P : Program} {W : World}

def RepC (P : Program) (W : World) (qs : List AV) (cs : List Value) : Prop :=
  qs.length = cs.length ∧ (∀ a ∈ qs, a.one = true) ∧ ∀ (j : Nat) a, qs[j]? = some a → ∃ v, cs[j]? = some v ∧ Rep P (fun b => W.heap[b]?) (fun _ => undef) [] a v
theorem RepC.nil : RepC P W [] [] := ⟨rfl, by simp, by simp⟩
theorem RepC.app {qs bs : List AV} {cs ds : List Value} (h1 : RepC P W qs cs) (h2 : RepC P W bs ds) : RepC P W (qs ++ bs) (cs ++ ds) := by
  refine ⟨by simp [h1.1, h2.1], fun a ha => ?_, fun j a e => ?_⟩
  · rcases List.mem_append.1 ha with h | h
    · exact h1.2.1 a h
    · exact h2.2.1 a h
  · rcases Nat.lt_or_ge j qs.length with hj | hj
    · rw [List.getElem?_append_left hj] at e
      obtain ⟨v, e1, e2⟩ := h1.2.2 j a e
      exact ⟨v, by rw [List.getElem?_append_left (by rw [← h1.1]; exact hj)]; exact e1, e2⟩
    · rw [List.getElem?_append_right hj] at e
      obtain ⟨v, e1, e2⟩ := h2.2.2 _ a e
      exact ⟨v, by rw [List.getElem?_append_right (by rw [← h1.1]; exact hj), ← h1.1]; exact e1, e2⟩
theorem RepC.single {a : AV} {v : Value} (h0 : a.one = true) (h : Rep P (fun b => W.heap[b]?) (fun _ => undef) [] a v) : RepC P W [a] [v] := by
  refine ⟨rfl, by simpa using h0, fun j x e => ?_⟩
  cases j with
  | zero => simp at e; subst e; exact ⟨v, rfl, h⟩
  | succ j => simp at e

structure Opens (P : Program) (t : TypeId) (n : Nat) {A : Type} (f : A → List AV) : Prop where
  size : P.cellsOf t = n
  len : ∀ a, (f a).length = n
  go : ∀ (H : Type) (enc : TypeId × Value → H) (W : World) (fuel : Nat) (cs : List Value) (x : DataW H × List MemPlace), cs.length = n → DataW.trod enc P W 0 (fun _ => true) true fuel t cs = some x → ∃ a : A, RepC P W (f a) cs

theorem Opens.as {t : TypeId} {n : Nat} {A B : Type} {f : A → List AV} {g : B → List AV} (o : Opens P t n f) (h : ∀ a, ∃ b, g b = f a) (hl : ∀ b, (g b).length = n) : Opens P t n g :=
  ⟨o.size, hl, fun H enc W fuel cs x h1 h2 => let ⟨a, h3⟩ := o.go H enc W fuel cs x h1 h2; let ⟨b, h4⟩ := h a; ⟨b, h4 ▸ h3⟩⟩
theorem Opens.int {t : TypeId} {k : IntKind} (hu : P.underlying t = some (.int k)) (hc : P.cellsOf t = 1) : Opens P t 1 (fun a : {n : Int // k.min ≤ n ∧ n ≤ k.max} => [AV.int k a.1]) :=
  ⟨hc, fun _ => rfl, fun H enc W fuel cs x h1 h2 => by
    obtain ⟨n, rfl, _, hw⟩ := DataW.trod_int hu h2
    simp only [Lit.wf, Bool.and_eq_true, decide_eq_true_eq] at hw
    exact ⟨⟨n, hw⟩, .single rfl (.int k n)⟩⟩

theorem flat_un {els : List AV} {n : Nat} (h0 : 0 < n) (hw : ∀ e ∈ els, e.cells.length = n) : ∀ (k : Nat) x, (flat els)[k]? = some x → ∃ e, els[k / n]? = some e ∧ e.cells[k % n]? = some x := by
  induction els with
  | nil => intro k x e; simp [flat] at e
  | cons y els ih =>
    intro k x e
    have hy := hw y List.mem_cons_self
    have hfl : flat (y :: els) = y.cells ++ flat els := by simp [flat]
    rw [hfl] at e
    rcases Nat.lt_or_ge k n with hk | hk
    · rw [List.getElem?_append_left (by omega)] at e
      exact ⟨y, by rw [Nat.div_eq_of_lt hk]; rfl, by rw [Nat.mod_eq_of_lt hk]; exact e⟩
    · rw [List.getElem?_append_right (by omega), hy] at e
      obtain ⟨z, h1, h2⟩ := ih (fun e he => hw e (List.mem_cons_of_mem _ he)) (k - n) x e
      have e1 : k / n = (k - n) / n + 1 := Nat.div_eq_sub_div h0 hk
      have e2 : k % n = (k - n) % n := by rw [Nat.mod_eq_sub_mod hk]
      exact ⟨z, by rw [e1]; exact h1, by rw [e2]; exact h2⟩

theorem cell_heap {a : Addr} {v : Value} (h : W.cell? a = some v) : ∃ c t fz, W.heap[a.block]? = some (.cells c t fz) ∧ a.spot = none ∧ c[a.off]? = some v := by
  unfold World.cell? at h
  split at h
  · rename_i c t fz hh
    split at h
    · cases h
    · rename_i hs; exact ⟨c, t, fz, hh, by simpa using hs, h⟩
  · cases h
theorem add_block (a : Addr) (i : Nat) : (a.add i).block = a.block := by unfold Addr.add; split <;> rfl
theorem add_off (a : Addr) (i : Nat) : (a.add i).off = a.off + i := by
  unfold Addr.add; split
  · rename_i h; simp [h]
  · rfl
theorem add_zero (a : Addr) : a.add 0 = a := by unfold Addr.add; rw [if_pos rfl]
theorem Opens.slice {t e : TypeId} {n : Nat} {A : Type} {f : A → List AV} (hu : P.underlying t = some (.slice e)) (hc : P.cellsOf t = 1) (o : Opens P e n f) (hn : 0 < n) (mk : A → AV) (hmk : ∀ a, (mk a).cells = f a) :
    Opens P t 1 (fun p : {p : Bool × List A // (p.1 = true → p.2 = []) ∧ p.2.length ≤ maxLen} => [AV.sl p.1.1 (p.1.2.map mk)]) := by
  refine ⟨hc, fun _ => rfl, fun H enc W fuel cs x h1 h2 => ?_⟩
  rcases Go.Deep.open_slice hu h2 with ⟨rfl, rfl⟩ | ⟨a, len, cap, m, nf, D, Pl, rfl, hb, hl, hm, hmd, hx, hel⟩
  · exact ⟨⟨(true, []), fun _ => rfl, by simp⟩, .single rfl .slnil⟩
  · rw [if_pos rfl] at hmd
    subst hmd
    rw [o.size] at hel
    rcases Nat.eq_zero_or_pos len with h0 | h0
    · subst h0
      exact ⟨⟨(false, []), fun h => rfl, by simp⟩, .single rfl .slemp⟩
    · have hex : ∀ i, i < len → ∃ (y : A) (cs' : List Value), W.cells? 0 (a.add (i * n)) n = some cs' ∧ RepC P W (f y) cs' := by
        intro i hi
        obtain ⟨cs', h3, h4⟩ := hel i (by omega)
        obtain ⟨y, hy⟩ := o.go H enc W nf cs' _ (World.cells?_some h3).2.1 h4
        exact ⟨y, cs', h3, hy⟩
      classical
      let ys : Nat → A := fun i => if h : i < len then Classical.choose (hex i h) else Classical.choose (hex 0 h0)
      have hys : ∀ i, i < len → ∃ cs', W.cells? 0 (a.add (i * n)) n = some cs' ∧ RepC P W (f (ys i)) cs' := fun i hi => by
        simp only [ys, dif_pos hi]; exact Classical.choose_spec (hex i hi)
      refine ⟨⟨(false, (List.range len).map ys), (fun h => by cases h), (by simp only [List.length_map, List.length_range]; omega)⟩, .single rfl ?_⟩
      dsimp only
      obtain ⟨cs0, hc0, hr0⟩ := hys 0 h0
      have hcell := (World.cells?_some hc0).2.2 0 hn
      have hcl := (World.cells?_some hc0).2.1
      rw [List.getElem?_eq_getElem (by omega), Nat.zero_mul, add_zero, add_zero] at hcell
      obtain ⟨c, ty, fz, hh, hsp, _⟩ := cell_heap hcell
      obtain ⟨b, off, sp⟩ := a
      have hsp : sp = none := hsp
      subst hsp
      have hw : ∀ e ∈ ((List.range len).map ys).map mk, e.cells.length = n := by
        intro e he
        simp only [List.mem_map] at he
        obtain ⟨y, _, rfl⟩ := he
        rw [hmk]; exact o.len y
      have key : ∀ (j : Nat) x, (flat (((List.range len).map ys).map mk))[j]? = some x → ∃ v, c[off + j]? = some v ∧ Rep P (fun b => W.heap[b]?) (fun _ => undef) [] x v ∧ x.one = true := by
        intro j x e
        obtain ⟨el, e1, e2⟩ := flat_un hn hw j x e
        simp only [List.getElem?_map] at e1
        cases hr : (List.range len)[j / n]? with
        | none => simp [hr] at e1
        | some i =>
          obtain ⟨hi, hi2⟩ := List.getElem?_eq_some_iff.1 hr
          have hie : i = j / n := by simpa using hi2.symm
          have hil : j / n < len := by simpa using hi
          simp only [hr, Option.map_some, Option.some.injEq] at e1
          subst e1
          rw [hmk] at e2
          subst hie
          obtain ⟨cs', h3, h4⟩ := hys _ hil
          obtain ⟨v, h5, h6⟩ := h4.2.2 _ _ e2
          have h7 := (World.cells?_some h3).2.2 (j % n) (Nat.mod_lt _ hn)
          rw [h5] at h7
          obtain ⟨c', ty', fz', h8, _, h9⟩ := cell_heap h7
          rw [add_block, add_block] at h8
          rw [add_off, add_off] at h9
          rw [h8] at hh; cases hh
          refine ⟨v, ?_, h6, h4.2.1 x (List.mem_of_getElem? e2)⟩
          have : off + j / n * n + j % n = off + j := by have := Nat.div_add_mod j n; rw [Nat.mul_comm] at this; omega
          rw [this] at h9; exact h9
      refine .sl (w := n) (fun j => (c[off + j]?).getD undef) (by simp) (by simp; omega) hh hw hn (fun x hx => ?_) (by simp; omega) (fun j x e => ?_) (fun j x e => ?_)
      · obtain ⟨j, hj⟩ := mem_get hx
        obtain ⟨v, _, _, h⟩ := key j x hj; exact h
      · obtain ⟨v, h1, _⟩ := key j x e; rw [h1]; rfl
      · obtain ⟨v, h1, h2, _⟩ := key j x e; rw [h1]; exact h2

structure OpensF (P : Program) (fs : List Field) (off n : Nat) {A : Type} (f : A → List AV) : Prop where
  len : ∀ a, (f a).length = n
  go : ∀ (H : Type) (enc : TypeId × Value → H) (W : World) (fuel : Nat) (cs : List Value), off + n = cs.length →
    (∀ fd ∈ fs, ∃ x, DataW.trod enc P W 0 (fun _ => true) true fuel fd.type ((cs.drop fd.offset).take (P.cellsOf fd.type)) = some x) → ∃ a : A, RepC P W (f a) (cs.drop off)
theorem OpensF.nil {off : Nat} : OpensF P [] off 0 (fun _ : Unit => []) :=
  ⟨fun _ => rfl, fun H enc W fuel cs h _ => ⟨(), by rw [List.drop_eq_nil_of_le (by omega)]; exact .nil⟩⟩
theorem OpensF.cons {fd : Field} {fs : List Field} {off n m : Nat} {A B : Type} {f : A → List AV} {g : B → List AV} (o : Opens P fd.type n f) (ho : fd.offset = off) (r : OpensF P fs (off + n) m g) : OpensF P (fd :: fs) off (n + m) (fun p : A × B => f p.1 ++ g p.2) := by
  refine ⟨fun p => by rw [List.length_append, o.len, r.len], fun H enc W fuel cs h hx => ?_⟩
  obtain ⟨x, h1⟩ := hx fd List.mem_cons_self
  rw [ho, o.size] at h1
  obtain ⟨a, ha⟩ := o.go H enc W fuel _ x (by rw [List.length_take, List.length_drop]; omega) h1
  obtain ⟨b, hb⟩ := r.go H enc W fuel cs (by omega) (fun fd' hf => hx fd' (List.mem_cons_of_mem _ hf))
  refine ⟨(a, b), ?_⟩
  have : cs.drop off = (cs.drop off).take n ++ cs.drop (off + n) := by
    conv => lhs; rw [← List.take_append_drop n (cs.drop off)]
    rw [List.drop_drop]
  rw [this]
  exact ha.app hb
theorem Opens.struct {t : TypeId} {fs : Array Field} {n : Nat} {A : Type} {f : A → List AV} (hu : P.underlying t = some (.struct fs)) (hc : P.cellsOf t = n) (o : OpensF P fs.toList 0 n f) : Opens P t n f := by
  refine ⟨hc, o.len, fun H enc W fuel cs x h1 h2 => ?_⟩
  obtain ⟨xs, k, rfl, rfl, h3, h4, h5⟩ := DataW.trod_struct hu h2
  obtain ⟨a, ha⟩ := o.go H enc W k cs (by omega) (fun fd hf => by
    obtain ⟨i, hi⟩ := List.mem_iff_getElem?.1 hf
    have hi' : fs[i]? = some fd := by simpa using hi
    have hlt := (Array.getElem?_eq_some_iff.1 hi').1
    exact ⟨xs[i]'(by omega), by rw [h5 i fd hi', List.getElem?_eq_getElem]⟩)
  exact ⟨a, by simpa using ha⟩
theorem Opens.array {t e : TypeId} {m n k : Nat} {A : Type} {f : A → List AV} (hu : P.underlying t = some (.array m e)) (hc : P.cellsOf t = k) (hk : k = m * n) (o : Opens P e n f) : Opens P t k (fun l : {l : List A // l.length = m} => l.1.flatMap f) := by
  have hlen : ∀ l : List A, (l.flatMap f).length = l.length * n := fun l => by
    induction l with
    | nil => simp
    | cons x l ih => rw [List.flatMap_cons, List.length_append, o.len, ih, List.length_cons, Nat.add_mul]; omega
  refine ⟨hc, fun l => by rw [hlen, l.2, hk], fun H enc W fuel cs x h1 h2 => ?_⟩
  obtain ⟨xs, q, rfl, rfl, h3, h4, h5⟩ := DataW.trod_array hu h2
  rw [o.size] at h5
  have go : ∀ j, j ≤ m → ∃ l : List A, l.length = j ∧ RepC P W (l.flatMap f) (cs.drop ((m - j) * n)) := by
    intro j
    induction j with
    | zero => intro _; exact ⟨[], rfl, by rw [Nat.sub_zero, List.drop_eq_nil_of_le (by rw [h1, hk]; exact Nat.le_refl _)]; exact .nil⟩
    | succ j ih =>
      intro hj
      obtain ⟨l, hl, hr⟩ := ih (by omega)
      have e1 : (m - j) * n = (m - (j + 1)) * n + n := by rw [show m - j = m - (j + 1) + 1 by omega, Nat.add_mul]; omega
      have hle : (m - (j + 1)) * n + n ≤ cs.length := by
        rw [h1, hk, ← e1]; exact Nat.mul_le_mul_right _ (by omega)
      have h6 := h5 (m - (j + 1)) (by omega)
      rw [List.getElem?_eq_getElem (by omega)] at h6
      obtain ⟨a, ha⟩ := o.go H enc W q _ _ (by rw [List.length_take, List.length_drop]; omega) h6
      refine ⟨a :: l, by simp [hl], ?_⟩
      have : cs.drop ((m - (j + 1)) * n) = (cs.drop ((m - (j + 1)) * n)).take n ++ cs.drop ((m - j) * n) := by
        conv => lhs; rw [← List.take_append_drop n (cs.drop ((m - (j + 1)) * n))]
        rw [List.drop_drop, e1]
      rw [this, List.flatMap_cons]
      exact ha.app hr
  obtain ⟨l, hl, hr⟩ := go m (Nat.le_refl _)
  exact ⟨⟨l, hl⟩, by simpa using hr⟩

theorem Opens.arg {H : Type} {enc : TypeId × Value → H} {t : TypeId} {A : Type} {g : A → AV} {v : Value} {d : DataW H} {ps : List MemPlace} (o : Opens P t 1 (fun a => [g a])) (hv : v.cells = #[v]) (h : DataW.Trod enc P W 0 (fun _ => true) true t v d ps) :
    ∃ a, Rep P (fun b => W.heap[b]?) (fun _ => undef) [] (g a) v := by
  obtain ⟨fuel, hf⟩ := h
  obtain ⟨a, ha⟩ := o.go H enc W fuel v.cells.toList _ (by rw [hv]; rfl) hf
  obtain ⟨u, h1, h2⟩ := ha.2.2 0 (g a) rfl
  rw [hv] at h1; simp at h1; subst h1
  exact ⟨a, h2⟩
theorem SR.start (W : World) : SR P ⟨World.env W, fun _ => none, fun _ => none⟩ (fun b => W.heap[b]?) (fun _ => undef) [] W :=
  ⟨rfl, fun _ _ h => h, by simp, fun i j x e => by simp [blkOf] at e, fun i x e => by simp [blkOf] at e, by simp, fun i x e => by simp [blkOf] at e⟩
theorem Comp.law {f : FuncId} {rs : List AV} (x : Comp P f rs (.bool true)) {args : Array Value} (hr : RepL P (fun b => W.heap[b]?) (fun _ => undef) [] rs args.toList) :
    Calls P f args W fun e W' => e = .returned (.bool true) ∧ World.env W' = World.env W ∧ ∀ (b : Nat) o, W.heap[b]? = some o → W'.heap[b]? = some o := by
  have h := (x.o.2 _ _ _ W args.toList (SR.start W) hr).calls (fun _ _ hd => by cases hd)
  have e : args.toList.toArray = args := by simp
  rw [e] at h
  refine h.mono ?_
  rintro e w' ⟨r, H', h', β', v, rfl, ⟨rfl, rfl⟩, X, s', hv⟩
  cases hv
  exact ⟨rfl, s'.env, fun b o hb => s'.imm b o (X.imm b o hb)⟩
theorem keptBut_of {W' : World} {may : MemPlace → Prop} (he : World.env W' = World.env W) (hk : ∀ (b : Nat) o, W.heap[b]? = some o → W'.heap[b]? = some o) : W.keptBut W' may := by
  refine ⟨congrArg Env0.os he, congrArg Env0.out he, fun i hi => ?_⟩
  have h1 : W.heap[i]? = some W.heap[i] := Array.getElem?_eq_getElem hi
  have h2 := hk i _ h1
  rw [h1, h2]
  generalize W.heap[i] = o
  cases o <;> simp
theorem trodAll_stays {H : Type} {enc : TypeId × Value → H} (hl : laidOutB P = true) {W' : World} {sp' : Nat → Bool} (hk : ∀ (b : Nat) o, W.heap[b]? = some o → W'.heap[b]? = some o) (hwt : ∀ p, (∃ o, W.heap[MemPlace.block p]? = some o) → sp' p.block = true) :
    ∀ {ts : List TypeId} {vs : List Value} {ds : List (DataW H)} {ps : List MemPlace}, (∀ t ∈ ts, P.readableRec t = true ∧ t < P.types.size) → (∀ p ∈ ps, ∃ o, W.heap[MemPlace.block p]? = some o) → DataW.TrodAll enc P W 0 (fun _ => true) true ts vs ds ps → DataW.TrodAll enc P W' 0 sp' true ts vs ds ps
  | [], vs, ds, ps, _, _, h => by obtain ⟨rfl, rfl, rfl⟩ := trodAll_nil h; rfl
  | t :: ts, vs, ds, ps, ht, hp, h => by
    obtain ⟨v, vs1, d, ds1, p, q, rfl, rfl, rfl, h1, h2⟩ := trodAll_cons h
    have ht0 := ht t List.mem_cons_self
    refine ⟨p, q, Go.WideElems.Trod_stays hl ht0.1 ht0.2 h1 (fun x hx => ?_) (fun x hx => hwt x (hp x (List.mem_append_left _ hx))), trodAll_stays hl hk hwt (fun t' h' => ht t' (List.mem_cons_of_mem _ h')) (fun x hx => hp x (List.mem_append_right _ hx)) h2, rfl⟩
    obtain ⟨o, ho⟩ := hp x (List.mem_append_left _ hx)
    cases x with
    | cell b off => simp only [World.sameAt, World.cell?, MemPlace.block] at ho ⊢; rw [ho, hk _ _ ho]
    | map b => simp only [World.sameAt, MemPlace.block] at ho ⊢; rw [ho, hk _ _ ho]
theorem post_true {H : Type} {enc : TypeId × Value → H} {fn : Func} {s : ChangeSpec} {tb : TypeId} {W' : World} {args : Array Value} {ds gs : List (DataW H)} {before : List MemPlace}
    (ht : fn.resultTypes = #[tb]) (hu : P.underlying tb = some .bool) (hl : laidOutB P = true) (hr : ∀ t ∈ fn.params.toList, P.readableRec t = true ∧ t < P.types.size) (hv : s.vars = [])
    (hW : DataW.Whole enc P fn.params.toList s.vars false W args.toList ds gs before) (hs : gs = [] → s.fn H (ds ++ gs) = { results := [.lit (.bool true)], args := ds })
    (he : World.env W' = World.env W) (hk : ∀ (b : Nat) o, W.heap[b]? = some o → W'.heap[b]? = some o) : s.post enc P fn false true false false W args (.bool true) W' := by
  have hW' := hW
  obtain ⟨p, q, hA, hV, hb, hz, _⟩ := hW
  rw [hv] at hV
  obtain ⟨rfl, rfl⟩ := trodVars_none hV
  rw [List.append_nil] at hb
  subst hb
  have hs := hs rfl
  have hlt : ∀ x ∈ before, ∃ o, W.heap[MemPlace.block x]? = some o := fun x hx => ⟨_, Array.getElem?_eq_getElem (hW'.lt x hx)⟩
  refine ⟨ds, [], before, [], before, [], hW', ?_, ?_, ?_, keptBut_of he hk, fun h => by cases h⟩
  · rw [hs, ht]
    exact trodAll_cons_mk (shut_bool hu _) trodAll_mk0
  · rw [hs]
    exact trodAll_stays hl hk (fun x ⟨o, ho⟩ => by simpa using (Array.getElem?_eq_some_iff.1 ho).1) hr hlt hA
  · rw [hv, hs]; rfl
end
end GA
end
