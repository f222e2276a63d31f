/- The table of the types of this translation, by program. -/
import Derived.Test.YtlbdomhfcghjdaaAbs18
import Derived.Test.YtlbdomhfcghjdaaProg
import Derived.KernelRfl
namespace GA
open Go Go.Proofs
set_option maxRecDepth 100000
def te1 : TE := ⟨false, 1, some (.nilf), .oth, none⟩
theorem te1_ok : TeOk Try.prog 1 te1 := ⟨by kernel_rfl, by kernel_rfl, (fun _ => zsome (by kernel_rfl)), trivial, fun _ => qnone⟩
def te2 : TE := ⟨false, 1, some (.int .i64 0), .int .i64, none⟩
theorem te2_ok : TeOk Try.prog 2 te2 := ⟨by kernel_rfl, by kernel_rfl, (fun _ => zsome (by kernel_rfl)), show Try.prog.underlying 2 = some (.int .i64) by kernel_rfl, fun _ => qnone⟩
def te3 : TE := ⟨false, 1, some (.int .i64 0), .int .i64, none⟩
theorem te3_ok : TeOk Try.prog 3 te3 := ⟨by kernel_rfl, by kernel_rfl, (fun _ => zsome (by kernel_rfl)), show Try.prog.underlying 3 = some (.int .i64) by kernel_rfl, fun _ => qnone⟩
def te4 : TE := ⟨false, 1, some (.bool false), .bool, none⟩
theorem te4_ok : TeOk Try.prog 4 te4 := ⟨by kernel_rfl, by kernel_rfl, (fun _ => zsome (by kernel_rfl)), show isBoolT _ _ by (unfold isBoolT; kernel_rfl), fun _ => qnone⟩
def te5 : TE := ⟨false, 1, some (.int .u8 0), .int .u8, none⟩
theorem te5_ok : TeOk Try.prog 5 te5 := ⟨by kernel_rfl, by kernel_rfl, (fun _ => zsome (by kernel_rfl)), show Try.prog.underlying 5 = some (.int .u8) by kernel_rfl, fun _ => qnone⟩
def te7 : TE := ⟨true, 4, some (.agg [.int .i64 0, .int .i64 0, .bool false, .int .u8 0]), .st [(0, false, 1), (1, false, 1), (2, false, 1), (3, false, 1)], none⟩
theorem te7_ok : TeOk Try.prog 7 te7 := .st (by kernel_rfl) (by kernel_rfl) (fun _ => zsome (by kernel_rfl)) (by kernel_rfl) ⟨by kernel_rfl, by kernel_rfl, by kernel_rfl, by kernel_rfl, trivial⟩ (by kernel_rfl) (fun _ => qnone)
def te12 : TE := ⟨false, 1, some (.int .u64 0), .int .u64, none⟩
theorem te12_ok : TeOk Try.prog 12 te12 := ⟨by kernel_rfl, by kernel_rfl, (fun _ => zsome (by kernel_rfl)), show Try.prog.underlying 12 = some (.int .u64) by kernel_rfl, fun _ => qnone⟩
def te13 : TE := ⟨true, 2, none, .st [(0, false, 1), (1, false, 1)], none⟩
theorem te13_ok : TeOk Try.prog 13 te13 := .st (by kernel_rfl) (by kernel_rfl) (fun _ => znone) (by kernel_rfl) ⟨by kernel_rfl, by kernel_rfl, trivial⟩ (by kernel_rfl) (fun _ => qnone)
def te18 : TE := ⟨true, 1, some (.agg [.nilp]), .st [(0, false, 1)], none⟩
theorem te18_ok : TeOk Try.prog 18 te18 := .st (by kernel_rfl) (by kernel_rfl) (fun _ => zsome (by kernel_rfl)) (by kernel_rfl) ⟨by kernel_rfl, trivial⟩ (by kernel_rfl) (fun _ => qnone)
def te21 : TE := ⟨false, 1, some (.int .i32 0), .int .i32, none⟩
theorem te21_ok : TeOk Try.prog 21 te21 := ⟨by kernel_rfl, by kernel_rfl, (fun _ => zsome (by kernel_rfl)), show Try.prog.underlying 21 = some (.int .i32) by kernel_rfl, fun _ => qnone⟩
def te22 : TE := ⟨false, 1, some (.sl true []), .sl 5 1 1 (.int .u8 0), none⟩
theorem te22_ok : TeOk Try.prog 22 te22 := ⟨by kernel_rfl, by kernel_rfl, (fun _ => zsome (by kernel_rfl)), ⟨by kernel_rfl, by kernel_rfl, ⟨5, by kernel_rfl⟩, by kernel_rfl⟩, fun _ => qnone⟩
def te23 : TE := ⟨false, 1, some (.sl true []), .sl 113 2 16 (.agg [.int .i64 0, .int .i64 0]), none⟩
theorem te23_ok : TeOk Try.prog 23 te23 := ⟨by kernel_rfl, by kernel_rfl, (fun _ => zsome (by kernel_rfl)), ⟨by kernel_rfl, by kernel_rfl, ⟨113, by kernel_rfl⟩, by kernel_rfl⟩, fun _ => qnone⟩
def te24 : TE := ⟨false, 1, some (.sl true []), .sl 118 2 16 (.agg [.int .i64 0, .int .i64 0]), none⟩
theorem te24_ok : TeOk Try.prog 24 te24 := ⟨by kernel_rfl, by kernel_rfl, (fun _ => zsome (by kernel_rfl)), ⟨by kernel_rfl, by kernel_rfl, ⟨118, by kernel_rfl⟩, by kernel_rfl⟩, fun _ => qnone⟩
def te25 : TE := ⟨true, 5, some (.agg [.int .i64 0, .int .i64 0, .sl true [], .sl true [], .sl true []]), .st [(0, false, 1), (1, false, 1), (2, false, 1), (3, false, 1), (4, false, 1)], none⟩
theorem te25_ok : TeOk Try.prog 25 te25 := .st (by kernel_rfl) (by kernel_rfl) (fun _ => zsome (by kernel_rfl)) (by kernel_rfl) ⟨by kernel_rfl, by kernel_rfl, by kernel_rfl, by kernel_rfl, by kernel_rfl, trivial⟩ (by kernel_rfl) (fun _ => qnone)
def te26 : TE := ⟨true, 5, some (.agg [.int .i64 0, .int .i64 0, .sl true [], .sl true [], .sl true []]), .st [(0, false, 1), (1, false, 1), (2, false, 1), (3, false, 1), (4, false, 1)], none⟩
theorem te26_ok : TeOk Try.prog 26 te26 := .st (by kernel_rfl) (by kernel_rfl) (fun _ => zsome (by kernel_rfl)) (by kernel_rfl) ⟨by kernel_rfl, by kernel_rfl, by kernel_rfl, by kernel_rfl, by kernel_rfl, trivial⟩ (by kernel_rfl) (fun _ => qnone)
def te27 : TE := ⟨false, 1, some (.nilf), .oth, none⟩
theorem te27_ok : TeOk Try.prog 27 te27 := ⟨by kernel_rfl, by kernel_rfl, (fun _ => zsome (by kernel_rfl)), trivial, fun _ => qnone⟩
def te28 : TE := ⟨false, 1, some (.nilp), .oth, none⟩
theorem te28_ok : TeOk Try.prog 28 te28 := ⟨by kernel_rfl, by kernel_rfl, (fun _ => zsome (by kernel_rfl)), trivial, fun _ => qnone⟩
def te29 : TE := ⟨false, 1, some (.nilf), .oth, none⟩
theorem te29_ok : TeOk Try.prog 29 te29 := ⟨by kernel_rfl, by kernel_rfl, (fun _ => zsome (by kernel_rfl)), trivial, fun _ => qnone⟩
def te30 : TE := ⟨false, 1, some (.sl true []), .sl 3 1 8 (.int .i64 0), none⟩
theorem te30_ok : TeOk Try.prog 30 te30 := ⟨by kernel_rfl, by kernel_rfl, (fun _ => zsome (by kernel_rfl)), ⟨by kernel_rfl, by kernel_rfl, ⟨3, by kernel_rfl⟩, by kernel_rfl⟩, fun _ => qnone⟩
def te31 : TE := ⟨false, 1, some (.int .i64 0), .int .i64, none⟩
theorem te31_ok : TeOk Try.prog 31 te31 := ⟨by kernel_rfl, by kernel_rfl, (fun _ => zsome (by kernel_rfl)), show Try.prog.underlying 31 = some (.int .i64) by kernel_rfl, fun _ => qnone⟩
def te33 : TE := ⟨false, 1, some (.nilf), .oth, none⟩
theorem te33_ok : TeOk Try.prog 33 te33 := ⟨by kernel_rfl, by kernel_rfl, (fun _ => zsome (by kernel_rfl)), trivial, fun _ => qnone⟩
def te34 : TE := ⟨false, 1, some (.nilf), .oth, none⟩
theorem te34_ok : TeOk Try.prog 34 te34 := ⟨by kernel_rfl, by kernel_rfl, (fun _ => zsome (by kernel_rfl)), trivial, fun _ => qnone⟩
def te35 : TE := ⟨false, 1, some (.nilf), .oth, none⟩
theorem te35_ok : TeOk Try.prog 35 te35 := ⟨by kernel_rfl, by kernel_rfl, (fun _ => zsome (by kernel_rfl)), trivial, fun _ => qnone⟩
def te36 : TE := ⟨false, 1, some (.sl true []), .sl 26 5 88 (.agg [.int .i64 0, .int .i64 0, .sl true [], .sl true [], .sl true []]), none⟩
theorem te36_ok : TeOk Try.prog 36 te36 := ⟨by kernel_rfl, by kernel_rfl, (fun _ => zsome (by kernel_rfl)), ⟨by kernel_rfl, by kernel_rfl, ⟨26, by kernel_rfl⟩, by kernel_rfl⟩, fun _ => qnone⟩
def te37 : TE := ⟨false, 1, some (.nilf), .oth, none⟩
theorem te37_ok : TeOk Try.prog 37 te37 := ⟨by kernel_rfl, by kernel_rfl, (fun _ => zsome (by kernel_rfl)), trivial, fun _ => qnone⟩
def te39 : TE := ⟨false, 1, some (.nilf), .oth, none⟩
theorem te39_ok : TeOk Try.prog 39 te39 := ⟨by kernel_rfl, by kernel_rfl, (fun _ => zsome (by kernel_rfl)), trivial, fun _ => qnone⟩
def te40 : TE := ⟨true, 2, some (.agg [.int .i64 0, .sl true []]), .st [(0, false, 1), (1, false, 1)], none⟩
theorem te40_ok : TeOk Try.prog 40 te40 := .st (by kernel_rfl) (by kernel_rfl) (fun _ => zsome (by kernel_rfl)) (by kernel_rfl) ⟨by kernel_rfl, by kernel_rfl, trivial⟩ (by kernel_rfl) (fun _ => qnone)
def te41 : TE := ⟨true, 2, some (.agg [.int .i64 0, .sl true []]), .st [(0, false, 1), (1, false, 1)], none⟩
theorem te41_ok : TeOk Try.prog 41 te41 := .st (by kernel_rfl) (by kernel_rfl) (fun _ => zsome (by kernel_rfl)) (by kernel_rfl) ⟨by kernel_rfl, by kernel_rfl, trivial⟩ (by kernel_rfl) (fun _ => qnone)
def te42 : TE := ⟨false, 1, some (.sl true []), .sl 41 2 32 (.agg [.int .i64 0, .sl true []]), none⟩
theorem te42_ok : TeOk Try.prog 42 te42 := ⟨by kernel_rfl, by kernel_rfl, (fun _ => zsome (by kernel_rfl)), ⟨by kernel_rfl, by kernel_rfl, ⟨41, by kernel_rfl⟩, by kernel_rfl⟩, fun _ => qnone⟩
def te43 : TE := ⟨false, 1, some (.nilf), .oth, none⟩
theorem te43_ok : TeOk Try.prog 43 te43 := ⟨by kernel_rfl, by kernel_rfl, (fun _ => zsome (by kernel_rfl)), trivial, fun _ => qnone⟩
def te44 : TE := ⟨false, 1, some (.nilf), .oth, none⟩
theorem te44_ok : TeOk Try.prog 44 te44 := ⟨by kernel_rfl, by kernel_rfl, (fun _ => zsome (by kernel_rfl)), trivial, fun _ => qnone⟩
def te46 : TE := ⟨false, 1, some (.nilf), .oth, none⟩
theorem te46_ok : TeOk Try.prog 46 te46 := ⟨by kernel_rfl, by kernel_rfl, (fun _ => zsome (by kernel_rfl)), trivial, fun _ => qnone⟩
def te48 : TE := ⟨false, 1, some (.nilf), .oth, none⟩
theorem te48_ok : TeOk Try.prog 48 te48 := ⟨by kernel_rfl, by kernel_rfl, (fun _ => zsome (by kernel_rfl)), trivial, fun _ => qnone⟩
def te49 : TE := ⟨false, 1, some (.nilf), .oth, none⟩
theorem te49_ok : TeOk Try.prog 49 te49 := ⟨by kernel_rfl, by kernel_rfl, (fun _ => zsome (by kernel_rfl)), trivial, fun _ => qnone⟩
def te50 : TE := ⟨false, 1, some (.nilf), .oth, none⟩
theorem te50_ok : TeOk Try.prog 50 te50 := ⟨by kernel_rfl, by kernel_rfl, (fun _ => zsome (by kernel_rfl)), trivial, fun _ => qnone⟩
def te52 : TE := ⟨false, 1, some (.nilf), .oth, none⟩
theorem te52_ok : TeOk Try.prog 52 te52 := ⟨by kernel_rfl, by kernel_rfl, (fun _ => zsome (by kernel_rfl)), trivial, fun _ => qnone⟩
def te53 : TE := ⟨false, 1, some (.nilf), .oth, none⟩
theorem te53_ok : TeOk Try.prog 53 te53 := ⟨by kernel_rfl, by kernel_rfl, (fun _ => zsome (by kernel_rfl)), trivial, fun _ => qnone⟩
def te55 : TE := ⟨false, 1, some (.nilf), .oth, none⟩
theorem te55_ok : TeOk Try.prog 55 te55 := ⟨by kernel_rfl, by kernel_rfl, (fun _ => zsome (by kernel_rfl)), trivial, fun _ => qnone⟩
def te56 : TE := ⟨false, 1, some (.nilf), .oth, none⟩
theorem te56_ok : TeOk Try.prog 56 te56 := ⟨by kernel_rfl, by kernel_rfl, (fun _ => zsome (by kernel_rfl)), trivial, fun _ => qnone⟩
def te57 : TE := ⟨false, 1, some (.nilf), .oth, none⟩
theorem te57_ok : TeOk Try.prog 57 te57 := ⟨by kernel_rfl, by kernel_rfl, (fun _ => zsome (by kernel_rfl)), trivial, fun _ => qnone⟩
def te58 : TE := ⟨false, 1, some (.nilf), .oth, none⟩
theorem te58_ok : TeOk Try.prog 58 te58 := ⟨by kernel_rfl, by kernel_rfl, (fun _ => zsome (by kernel_rfl)), trivial, fun _ => qnone⟩
def te59 : TE := ⟨false, 1, some (.int .u16 0), .int .u16, none⟩
theorem te59_ok : TeOk Try.prog 59 te59 := ⟨by kernel_rfl, by kernel_rfl, (fun _ => zsome (by kernel_rfl)), show Try.prog.underlying 59 = some (.int .u16) by kernel_rfl, fun _ => qnone⟩
def te60 : TE := ⟨false, 1, some (.nilf), .oth, none⟩
theorem te60_ok : TeOk Try.prog 60 te60 := ⟨by kernel_rfl, by kernel_rfl, (fun _ => zsome (by kernel_rfl)), trivial, fun _ => qnone⟩
def te61 : TE := ⟨false, 1, some (.nilf), .oth, none⟩
theorem te61_ok : TeOk Try.prog 61 te61 := ⟨by kernel_rfl, by kernel_rfl, (fun _ => zsome (by kernel_rfl)), trivial, fun _ => qnone⟩
def te62 : TE := ⟨false, 1, some (.nilf), .oth, none⟩
theorem te62_ok : TeOk Try.prog 62 te62 := ⟨by kernel_rfl, by kernel_rfl, (fun _ => zsome (by kernel_rfl)), trivial, fun _ => qnone⟩
def te63 : TE := ⟨false, 1, some (.nilf), .oth, none⟩
theorem te63_ok : TeOk Try.prog 63 te63 := ⟨by kernel_rfl, by kernel_rfl, (fun _ => zsome (by kernel_rfl)), trivial, fun _ => qnone⟩
def te64 : TE := ⟨false, 1, some (.nilf), .oth, none⟩
theorem te64_ok : TeOk Try.prog 64 te64 := ⟨by kernel_rfl, by kernel_rfl, (fun _ => zsome (by kernel_rfl)), trivial, fun _ => qnone⟩
def te65 : TE := ⟨false, 1, some (.nilf), .oth, none⟩
theorem te65_ok : TeOk Try.prog 65 te65 := ⟨by kernel_rfl, by kernel_rfl, (fun _ => zsome (by kernel_rfl)), trivial, fun _ => qnone⟩
def te66 : TE := ⟨false, 1, some (.nilf), .oth, none⟩
theorem te66_ok : TeOk Try.prog 66 te66 := ⟨by kernel_rfl, by kernel_rfl, (fun _ => zsome (by kernel_rfl)), trivial, fun _ => qnone⟩
def te67 : TE := ⟨false, 1, some (.sl true []), .sl 152 2 16 (.agg [.int .i64 0, .int .i64 0]), none⟩
theorem te67_ok : TeOk Try.prog 67 te67 := ⟨by kernel_rfl, by kernel_rfl, (fun _ => zsome (by kernel_rfl)), ⟨by kernel_rfl, by kernel_rfl, ⟨152, by kernel_rfl⟩, by kernel_rfl⟩, fun _ => qnone⟩
def te68 : TE := ⟨true, 5, some (.agg [.int .i64 0, .int .i64 0, .sl true [], .sl true [], .sl true []]), .st [(0, false, 1), (1, false, 1), (2, false, 1), (3, false, 1), (4, false, 1)], none⟩
theorem te68_ok : TeOk Try.prog 68 te68 := .st (by kernel_rfl) (by kernel_rfl) (fun _ => zsome (by kernel_rfl)) (by kernel_rfl) ⟨by kernel_rfl, by kernel_rfl, by kernel_rfl, by kernel_rfl, by kernel_rfl, trivial⟩ (by kernel_rfl) (fun _ => qnone)
def te69 : TE := ⟨true, 5, some (.agg [.int .i64 0, .int .i64 0, .sl true [], .sl true [], .sl true []]), .st [(0, false, 1), (1, false, 1), (2, false, 1), (3, false, 1), (4, false, 1)], none⟩
theorem te69_ok : TeOk Try.prog 69 te69 := .st (by kernel_rfl) (by kernel_rfl) (fun _ => zsome (by kernel_rfl)) (by kernel_rfl) ⟨by kernel_rfl, by kernel_rfl, by kernel_rfl, by kernel_rfl, by kernel_rfl, trivial⟩ (by kernel_rfl) (fun _ => qnone)
def te70 : TE := ⟨false, 1, some (.nilf), .oth, none⟩
theorem te70_ok : TeOk Try.prog 70 te70 := ⟨by kernel_rfl, by kernel_rfl, (fun _ => zsome (by kernel_rfl)), trivial, fun _ => qnone⟩
def te71 : TE := ⟨false, 1, some (.nilf), .oth, none⟩
theorem te71_ok : TeOk Try.prog 71 te71 := ⟨by kernel_rfl, by kernel_rfl, (fun _ => zsome (by kernel_rfl)), trivial, fun _ => qnone⟩
def te72 : TE := ⟨false, 1, some (.nilf), .oth, none⟩
theorem te72_ok : TeOk Try.prog 72 te72 := ⟨by kernel_rfl, by kernel_rfl, (fun _ => zsome (by kernel_rfl)), trivial, fun _ => qnone⟩
def te73 : TE := ⟨false, 1, some (.sl true []), .sl 4 1 1 (.bool false), none⟩
theorem te73_ok : TeOk Try.prog 73 te73 := ⟨by kernel_rfl, by kernel_rfl, (fun _ => zsome (by kernel_rfl)), ⟨by kernel_rfl, by kernel_rfl, ⟨4, by kernel_rfl⟩, by kernel_rfl⟩, fun _ => qnone⟩
def te74 : TE := ⟨false, 1, some (.nilf), .oth, none⟩
theorem te74_ok : TeOk Try.prog 74 te74 := ⟨by kernel_rfl, by kernel_rfl, (fun _ => zsome (by kernel_rfl)), trivial, fun _ => qnone⟩
def te75 : TE := ⟨false, 1, some (.nilf), .oth, none⟩
theorem te75_ok : TeOk Try.prog 75 te75 := ⟨by kernel_rfl, by kernel_rfl, (fun _ => zsome (by kernel_rfl)), trivial, fun _ => qnone⟩
def te76 : TE := ⟨false, 1, some (.nilf), .oth, none⟩
theorem te76_ok : TeOk Try.prog 76 te76 := ⟨by kernel_rfl, by kernel_rfl, (fun _ => zsome (by kernel_rfl)), trivial, fun _ => qnone⟩
def te77 : TE := ⟨false, 1, some (.nilf), .oth, none⟩
theorem te77_ok : TeOk Try.prog 77 te77 := ⟨by kernel_rfl, by kernel_rfl, (fun _ => zsome (by kernel_rfl)), trivial, fun _ => qnone⟩
def te78 : TE := ⟨false, 1, some (.sl true []), .sl 30 1 24 (.sl true []), none⟩
theorem te78_ok : TeOk Try.prog 78 te78 := ⟨by kernel_rfl, by kernel_rfl, (fun _ => zsome (by kernel_rfl)), ⟨by kernel_rfl, by kernel_rfl, ⟨30, by kernel_rfl⟩, by kernel_rfl⟩, fun _ => qnone⟩
def te80 : TE := ⟨false, 1, some (.nilf), .oth, none⟩
theorem te80_ok : TeOk Try.prog 80 te80 := ⟨by kernel_rfl, by kernel_rfl, (fun _ => zsome (by kernel_rfl)), trivial, fun _ => qnone⟩
def te81 : TE := ⟨false, 1, some (.nilf), .oth, none⟩
theorem te81_ok : TeOk Try.prog 81 te81 := ⟨by kernel_rfl, by kernel_rfl, (fun _ => zsome (by kernel_rfl)), trivial, fun _ => qnone⟩
def te82 : TE := ⟨false, 1, some (.nilf), .oth, none⟩
theorem te82_ok : TeOk Try.prog 82 te82 := ⟨by kernel_rfl, by kernel_rfl, (fun _ => zsome (by kernel_rfl)), trivial, fun _ => qnone⟩
def te83 : TE := ⟨false, 1, some (.nilf), .oth, none⟩
theorem te83_ok : TeOk Try.prog 83 te83 := ⟨by kernel_rfl, by kernel_rfl, (fun _ => zsome (by kernel_rfl)), trivial, fun _ => qnone⟩
def te84 : TE := ⟨false, 1, some (.nilf), .oth, none⟩
theorem te84_ok : TeOk Try.prog 84 te84 := ⟨by kernel_rfl, by kernel_rfl, (fun _ => zsome (by kernel_rfl)), trivial, fun _ => qnone⟩
def te85 : TE := ⟨false, 1, some (.nilf), .oth, none⟩
theorem te85_ok : TeOk Try.prog 85 te85 := ⟨by kernel_rfl, by kernel_rfl, (fun _ => zsome (by kernel_rfl)), trivial, fun _ => qnone⟩
def te86 : TE := ⟨true, 2, some (.agg [.int .i64 0, .int .i64 0]), .st [(0, false, 1), (1, false, 1)], some 2⟩
theorem te86_ok : TeOk Try.prog 86 te86 := .st (by kernel_rfl) (by kernel_rfl) (fun _ => zsome (by kernel_rfl)) (by kernel_rfl) ⟨by kernel_rfl, by kernel_rfl, trivial⟩ (by kernel_rfl) (fun _ => qsome (by kernel_rfl))
def te87 : TE := ⟨true, 2, some (.agg [.int .i64 0, .int .i64 0]), .st [(0, false, 1), (1, false, 1)], some 2⟩
theorem te87_ok : TeOk Try.prog 87 te87 := .st (by kernel_rfl) (by kernel_rfl) (fun _ => zsome (by kernel_rfl)) (by kernel_rfl) ⟨by kernel_rfl, by kernel_rfl, trivial⟩ (by kernel_rfl) (fun _ => qsome (by kernel_rfl))
def te89 : TE := ⟨false, 1, some (.nilf), .oth, none⟩
theorem te89_ok : TeOk Try.prog 89 te89 := ⟨by kernel_rfl, by kernel_rfl, (fun _ => zsome (by kernel_rfl)), trivial, fun _ => qnone⟩
def te90 : TE := ⟨false, 1, some (.nilf), .oth, none⟩
theorem te90_ok : TeOk Try.prog 90 te90 := ⟨by kernel_rfl, by kernel_rfl, (fun _ => zsome (by kernel_rfl)), trivial, fun _ => qnone⟩
def te92 : TE := ⟨false, 1, some (.nilf), .oth, none⟩
theorem te92_ok : TeOk Try.prog 92 te92 := ⟨by kernel_rfl, by kernel_rfl, (fun _ => zsome (by kernel_rfl)), trivial, fun _ => qnone⟩
def te93 : TE := ⟨false, 1, some (.nilf), .oth, none⟩
theorem te93_ok : TeOk Try.prog 93 te93 := ⟨by kernel_rfl, by kernel_rfl, (fun _ => zsome (by kernel_rfl)), trivial, fun _ => qnone⟩
def te94 : TE := ⟨false, 1, some (.nilf), .oth, none⟩
theorem te94_ok : TeOk Try.prog 94 te94 := ⟨by kernel_rfl, by kernel_rfl, (fun _ => zsome (by kernel_rfl)), trivial, fun _ => qnone⟩
def te95 : TE := ⟨false, 1, some (.nilf), .oth, none⟩
theorem te95_ok : TeOk Try.prog 95 te95 := ⟨by kernel_rfl, by kernel_rfl, (fun _ => zsome (by kernel_rfl)), trivial, fun _ => qnone⟩
def te96 : TE := ⟨false, 1, some (.nilf), .oth, none⟩
theorem te96_ok : TeOk Try.prog 96 te96 := ⟨by kernel_rfl, by kernel_rfl, (fun _ => zsome (by kernel_rfl)), trivial, fun _ => qnone⟩
def te97 : TE := ⟨false, 1, some (.nilf), .oth, none⟩
theorem te97_ok : TeOk Try.prog 97 te97 := ⟨by kernel_rfl, by kernel_rfl, (fun _ => zsome (by kernel_rfl)), trivial, fun _ => qnone⟩
def te98 : TE := ⟨false, 1, some (.nilf), .oth, none⟩
theorem te98_ok : TeOk Try.prog 98 te98 := ⟨by kernel_rfl, by kernel_rfl, (fun _ => zsome (by kernel_rfl)), trivial, fun _ => qnone⟩
def te100 : TE := ⟨false, 1, some (.nilf), .oth, none⟩
theorem te100_ok : TeOk Try.prog 100 te100 := ⟨by kernel_rfl, by kernel_rfl, (fun _ => zsome (by kernel_rfl)), trivial, fun _ => qnone⟩
def te101 : TE := ⟨false, 1, some (.nilf), .oth, none⟩
theorem te101_ok : TeOk Try.prog 101 te101 := ⟨by kernel_rfl, by kernel_rfl, (fun _ => zsome (by kernel_rfl)), trivial, fun _ => qnone⟩
def te102 : TE := ⟨false, 1, some (.nilf), .oth, none⟩
theorem te102_ok : TeOk Try.prog 102 te102 := ⟨by kernel_rfl, by kernel_rfl, (fun _ => zsome (by kernel_rfl)), trivial, fun _ => qnone⟩
def te103 : TE := ⟨false, 1, some (.nilf), .oth, none⟩
theorem te103_ok : TeOk Try.prog 103 te103 := ⟨by kernel_rfl, by kernel_rfl, (fun _ => zsome (by kernel_rfl)), trivial, fun _ => qnone⟩
def te104 : TE := ⟨false, 1, some (.sl true []), .sl 174 6 48 (.agg [.int .i64 0, .int .i64 0, .int .i64 0, .int .i64 0, .int .i64 0, .int .i64 0]), none⟩
theorem te104_ok : TeOk Try.prog 104 te104 := ⟨by kernel_rfl, by kernel_rfl, (fun _ => zsome (by kernel_rfl)), ⟨by kernel_rfl, by kernel_rfl, ⟨174, by kernel_rfl⟩, by kernel_rfl⟩, fun _ => qnone⟩
def te105 : TE := ⟨false, 1, some (.sl true []), .sl 201 3 24 (.agg [.int .i64 0, .int .i64 0, .int .i64 0]), none⟩
theorem te105_ok : TeOk Try.prog 105 te105 := ⟨by kernel_rfl, by kernel_rfl, (fun _ => zsome (by kernel_rfl)), ⟨by kernel_rfl, by kernel_rfl, ⟨201, by kernel_rfl⟩, by kernel_rfl⟩, fun _ => qnone⟩
def te106 : TE := ⟨true, 5, some (.agg [.int .i64 0, .int .i64 0, .int .i64 0, .sl true [], .sl true []]), .st [(0, false, 1), (1, false, 1), (2, false, 1), (3, false, 1), (4, false, 1)], none⟩
theorem te106_ok : TeOk Try.prog 106 te106 := .st (by kernel_rfl) (by kernel_rfl) (fun _ => zsome (by kernel_rfl)) (by kernel_rfl) ⟨by kernel_rfl, by kernel_rfl, by kernel_rfl, by kernel_rfl, by kernel_rfl, trivial⟩ (by kernel_rfl) (fun _ => qnone)
def te107 : TE := ⟨true, 5, some (.agg [.int .i64 0, .int .i64 0, .int .i64 0, .sl true [], .sl true []]), .st [(0, false, 1), (1, false, 1), (2, false, 1), (3, false, 1), (4, false, 1)], none⟩
theorem te107_ok : TeOk Try.prog 107 te107 := .st (by kernel_rfl) (by kernel_rfl) (fun _ => zsome (by kernel_rfl)) (by kernel_rfl) ⟨by kernel_rfl, by kernel_rfl, by kernel_rfl, by kernel_rfl, by kernel_rfl, trivial⟩ (by kernel_rfl) (fun _ => qnone)
def te108 : TE := ⟨false, 1, some (.sl true []), .sl 176 2 16 (.agg [.int .i64 0, .int .i64 0]), none⟩
theorem te108_ok : TeOk Try.prog 108 te108 := ⟨by kernel_rfl, by kernel_rfl, (fun _ => zsome (by kernel_rfl)), ⟨by kernel_rfl, by kernel_rfl, ⟨176, by kernel_rfl⟩, by kernel_rfl⟩, fun _ => qnone⟩
def te110 : TE := ⟨false, 1, some (.nilf), .oth, none⟩
theorem te110_ok : TeOk Try.prog 110 te110 := ⟨by kernel_rfl, by kernel_rfl, (fun _ => zsome (by kernel_rfl)), trivial, fun _ => qnone⟩
def te111 : TE := ⟨false, 1, some (.nilf), .oth, none⟩
theorem te111_ok : TeOk Try.prog 111 te111 := ⟨by kernel_rfl, by kernel_rfl, (fun _ => zsome (by kernel_rfl)), trivial, fun _ => qnone⟩
def te112 : TE := ⟨true, 2, some (.agg [.int .i64 0, .int .i64 0]), .st [(0, false, 1), (1, false, 1)], some 2⟩
theorem te112_ok : TeOk Try.prog 112 te112 := .st (by kernel_rfl) (by kernel_rfl) (fun _ => zsome (by kernel_rfl)) (by kernel_rfl) ⟨by kernel_rfl, by kernel_rfl, trivial⟩ (by kernel_rfl) (fun _ => qsome (by kernel_rfl))
def te113 : TE := ⟨true, 2, some (.agg [.int .i64 0, .int .i64 0]), .st [(0, false, 1), (1, false, 1)], some 2⟩
theorem te113_ok : TeOk Try.prog 113 te113 := .st (by kernel_rfl) (by kernel_rfl) (fun _ => zsome (by kernel_rfl)) (by kernel_rfl) ⟨by kernel_rfl, by kernel_rfl, trivial⟩ (by kernel_rfl) (fun _ => qsome (by kernel_rfl))
def te114 : TE := ⟨false, 1, some (.nilf), .oth, none⟩
theorem te114_ok : TeOk Try.prog 114 te114 := ⟨by kernel_rfl, by kernel_rfl, (fun _ => zsome (by kernel_rfl)), trivial, fun _ => qnone⟩
def te115 : TE := ⟨false, 1, some (.nilf), .oth, none⟩
theorem te115_ok : TeOk Try.prog 115 te115 := ⟨by kernel_rfl, by kernel_rfl, (fun _ => zsome (by kernel_rfl)), trivial, fun _ => qnone⟩
def te116 : TE := ⟨false, 1, some (.nilf), .oth, none⟩
theorem te116_ok : TeOk Try.prog 116 te116 := ⟨by kernel_rfl, by kernel_rfl, (fun _ => zsome (by kernel_rfl)), trivial, fun _ => qnone⟩
def te117 : TE := ⟨false, 1, some (.nilf), .oth, none⟩
theorem te117_ok : TeOk Try.prog 117 te117 := ⟨by kernel_rfl, by kernel_rfl, (fun _ => zsome (by kernel_rfl)), trivial, fun _ => qnone⟩
def te118 : TE := ⟨true, 2, some (.agg [.int .i64 0, .int .i64 0]), .ar 2 false 1, some 2⟩
theorem te118_ok : TeOk Try.prog 118 te118 := .ar (by kernel_rfl) (by kernel_rfl) (fun _ => zsome (by kernel_rfl)) (el := 3) (by kernel_rfl) (by kernel_rfl) (by kernel_rfl) (fun _ => qsome (by kernel_rfl))
def te119 : TE := ⟨false, 1, some (.nilf), .oth, none⟩
theorem te119_ok : TeOk Try.prog 119 te119 := ⟨by kernel_rfl, by kernel_rfl, (fun _ => zsome (by kernel_rfl)), trivial, fun _ => qnone⟩
def te120 : TE := ⟨false, 1, some (.nilf), .oth, none⟩
theorem te120_ok : TeOk Try.prog 120 te120 := ⟨by kernel_rfl, by kernel_rfl, (fun _ => zsome (by kernel_rfl)), trivial, fun _ => qnone⟩
def te121 : TE := ⟨false, 1, some (.nilf), .oth, none⟩
theorem te121_ok : TeOk Try.prog 121 te121 := ⟨by kernel_rfl, by kernel_rfl, (fun _ => zsome (by kernel_rfl)), trivial, fun _ => qnone⟩
def te122 : TE := ⟨false, 1, some (.nilm), .mp (.int .i64 0), none⟩
theorem te122_ok : TeOk Try.prog 122 te122 := ⟨by kernel_rfl, by kernel_rfl, (fun _ => zsome (by kernel_rfl)), show mapT Try.prog 122 = some (.int .i64 0) by kernel_rfl, fun _ => qnone⟩
def te123 : TE := ⟨false, 1, some (.sl true []), .sl 24 1 24 (.sl true []), none⟩
theorem te123_ok : TeOk Try.prog 123 te123 := ⟨by kernel_rfl, by kernel_rfl, (fun _ => zsome (by kernel_rfl)), ⟨by kernel_rfl, by kernel_rfl, ⟨24, by kernel_rfl⟩, by kernel_rfl⟩, fun _ => qnone⟩
def te125 : TE := ⟨false, 1, some (.nilf), .oth, none⟩
theorem te125_ok : TeOk Try.prog 125 te125 := ⟨by kernel_rfl, by kernel_rfl, (fun _ => zsome (by kernel_rfl)), trivial, fun _ => qnone⟩
def te126 : TE := ⟨false, 1, some (.int .u32 0), .int .u32, none⟩
theorem te126_ok : TeOk Try.prog 126 te126 := ⟨by kernel_rfl, by kernel_rfl, (fun _ => zsome (by kernel_rfl)), show Try.prog.underlying 126 = some (.int .u32) by kernel_rfl, fun _ => qnone⟩
def te127 : TE := ⟨true, 3, some (.agg [.sl true [], .int .i64 0, .int .u32 0]), .st [(0, false, 1), (1, false, 1), (2, false, 1)], none⟩
theorem te127_ok : TeOk Try.prog 127 te127 := .st (by kernel_rfl) (by kernel_rfl) (fun _ => zsome (by kernel_rfl)) (by kernel_rfl) ⟨by kernel_rfl, by kernel_rfl, by kernel_rfl, trivial⟩ (by kernel_rfl) (fun _ => qnone)
def te128 : TE := ⟨true, 3, some (.agg [.sl true [], .int .i64 0, .int .u32 0]), .st [(0, false, 1), (1, false, 1), (2, false, 1)], none⟩
theorem te128_ok : TeOk Try.prog 128 te128 := .st (by kernel_rfl) (by kernel_rfl) (fun _ => zsome (by kernel_rfl)) (by kernel_rfl) ⟨by kernel_rfl, by kernel_rfl, by kernel_rfl, trivial⟩ (by kernel_rfl) (fun _ => qnone)
def te129 : TE := ⟨false, 1, some (.nilp), .oth, none⟩
theorem te129_ok : TeOk Try.prog 129 te129 := ⟨by kernel_rfl, by kernel_rfl, (fun _ => zsome (by kernel_rfl)), trivial, fun _ => qnone⟩
def te131 : TE := ⟨false, 1, some (.nilf), .oth, none⟩
theorem te131_ok : TeOk Try.prog 131 te131 := ⟨by kernel_rfl, by kernel_rfl, (fun _ => zsome (by kernel_rfl)), trivial, fun _ => qnone⟩
def te132 : TE := ⟨true, 1, some (.agg [.nilf]), .st [(0, false, 1)], none⟩
theorem te132_ok : TeOk Try.prog 132 te132 := .st (by kernel_rfl) (by kernel_rfl) (fun _ => zsome (by kernel_rfl)) (by kernel_rfl) ⟨by kernel_rfl, trivial⟩ (by kernel_rfl) (fun _ => qnone)
def te133 : TE := ⟨true, 1, some (.agg [.nilf]), .st [(0, false, 1)], none⟩
theorem te133_ok : TeOk Try.prog 133 te133 := .st (by kernel_rfl) (by kernel_rfl) (fun _ => zsome (by kernel_rfl)) (by kernel_rfl) ⟨by kernel_rfl, trivial⟩ (by kernel_rfl) (fun _ => qnone)
def te134 : TE := ⟨false, 1, some (.nilf), .oth, none⟩
theorem te134_ok : TeOk Try.prog 134 te134 := ⟨by kernel_rfl, by kernel_rfl, (fun _ => zsome (by kernel_rfl)), trivial, fun _ => qnone⟩
def te135 : TE := ⟨false, 1, some (.nilf), .oth, none⟩
theorem te135_ok : TeOk Try.prog 135 te135 := ⟨by kernel_rfl, by kernel_rfl, (fun _ => zsome (by kernel_rfl)), trivial, fun _ => qnone⟩
def te136 : TE := ⟨false, 1, some (.nilf), .oth, none⟩
theorem te136_ok : TeOk Try.prog 136 te136 := ⟨by kernel_rfl, by kernel_rfl, (fun _ => zsome (by kernel_rfl)), trivial, fun _ => qnone⟩
def te137 : TE := ⟨false, 1, some (.nilf), .oth, none⟩
theorem te137_ok : TeOk Try.prog 137 te137 := ⟨by kernel_rfl, by kernel_rfl, (fun _ => zsome (by kernel_rfl)), trivial, fun _ => qnone⟩
def te138 : TE := ⟨false, 1, some (.nilf), .oth, none⟩
theorem te138_ok : TeOk Try.prog 138 te138 := ⟨by kernel_rfl, by kernel_rfl, (fun _ => zsome (by kernel_rfl)), trivial, fun _ => qnone⟩
def te139 : TE := ⟨false, 1, some (.nilf), .oth, none⟩
theorem te139_ok : TeOk Try.prog 139 te139 := ⟨by kernel_rfl, by kernel_rfl, (fun _ => zsome (by kernel_rfl)), trivial, fun _ => qnone⟩
def te140 : TE := ⟨false, 1, some (.nilf), .oth, none⟩
theorem te140_ok : TeOk Try.prog 140 te140 := ⟨by kernel_rfl, by kernel_rfl, (fun _ => zsome (by kernel_rfl)), trivial, fun _ => qnone⟩
def te141 : TE := ⟨false, 1, some (.nilf), .oth, none⟩
theorem te141_ok : TeOk Try.prog 141 te141 := ⟨by kernel_rfl, by kernel_rfl, (fun _ => zsome (by kernel_rfl)), trivial, fun _ => qnone⟩
def te142 : TE := ⟨false, 1, some (.nilf), .oth, none⟩
theorem te142_ok : TeOk Try.prog 142 te142 := ⟨by kernel_rfl, by kernel_rfl, (fun _ => zsome (by kernel_rfl)), trivial, fun _ => qnone⟩
def te143 : TE := ⟨false, 1, some (.nilf), .oth, none⟩
theorem te143_ok : TeOk Try.prog 143 te143 := ⟨by kernel_rfl, by kernel_rfl, (fun _ => zsome (by kernel_rfl)), trivial, fun _ => qnone⟩
def te144 : TE := ⟨false, 1, some (.nilf), .oth, none⟩
theorem te144_ok : TeOk Try.prog 144 te144 := ⟨by kernel_rfl, by kernel_rfl, (fun _ => zsome (by kernel_rfl)), trivial, fun _ => qnone⟩
def te145 : TE := ⟨false, 1, some (.nilf), .oth, none⟩
theorem te145_ok : TeOk Try.prog 145 te145 := ⟨by kernel_rfl, by kernel_rfl, (fun _ => zsome (by kernel_rfl)), trivial, fun _ => qnone⟩
def te146 : TE := ⟨false, 1, some (.nilf), .oth, none⟩
theorem te146_ok : TeOk Try.prog 146 te146 := ⟨by kernel_rfl, by kernel_rfl, (fun _ => zsome (by kernel_rfl)), trivial, fun _ => qnone⟩
def te147 : TE := ⟨true, 2, some (.agg [.int .i64 0, .int .i64 0]), .st [(0, false, 1), (1, false, 1)], some 2⟩
theorem te147_ok : TeOk Try.prog 147 te147 := .st (by kernel_rfl) (by kernel_rfl) (fun _ => zsome (by kernel_rfl)) (by kernel_rfl) ⟨by kernel_rfl, by kernel_rfl, trivial⟩ (by kernel_rfl) (fun _ => qsome (by kernel_rfl))
def te148 : TE := ⟨true, 2, some (.agg [.int .i64 0, .int .i64 0]), .st [(0, false, 1), (1, false, 1)], some 2⟩
theorem te148_ok : TeOk Try.prog 148 te148 := .st (by kernel_rfl) (by kernel_rfl) (fun _ => zsome (by kernel_rfl)) (by kernel_rfl) ⟨by kernel_rfl, by kernel_rfl, trivial⟩ (by kernel_rfl) (fun _ => qsome (by kernel_rfl))
def te149 : TE := ⟨false, 1, some (.nilf), .oth, none⟩
theorem te149_ok : TeOk Try.prog 149 te149 := ⟨by kernel_rfl, by kernel_rfl, (fun _ => zsome (by kernel_rfl)), trivial, fun _ => qnone⟩
def te150 : TE := ⟨false, 1, some (.nilf), .oth, none⟩
theorem te150_ok : TeOk Try.prog 150 te150 := ⟨by kernel_rfl, by kernel_rfl, (fun _ => zsome (by kernel_rfl)), trivial, fun _ => qnone⟩
def te151 : TE := ⟨false, 1, some (.nilf), .oth, none⟩
theorem te151_ok : TeOk Try.prog 151 te151 := ⟨by kernel_rfl, by kernel_rfl, (fun _ => zsome (by kernel_rfl)), trivial, fun _ => qnone⟩
def te152 : TE := ⟨true, 2, some (.agg [.int .i64 0, .int .i64 0]), .st [(0, false, 1), (1, false, 1)], some 2⟩
theorem te152_ok : TeOk Try.prog 152 te152 := .st (by kernel_rfl) (by kernel_rfl) (fun _ => zsome (by kernel_rfl)) (by kernel_rfl) ⟨by kernel_rfl, by kernel_rfl, trivial⟩ (by kernel_rfl) (fun _ => qsome (by kernel_rfl))
def te153 : TE := ⟨false, 1, some (.nilf), .oth, none⟩
theorem te153_ok : TeOk Try.prog 153 te153 := ⟨by kernel_rfl, by kernel_rfl, (fun _ => zsome (by kernel_rfl)), trivial, fun _ => qnone⟩
def te154 : TE := ⟨true, 9, some (.agg [.int .i64 0, .int .i64 0, .int .i64 0, .int .i64 0, .int .i64 0, .int .i64 0, .int .i64 0, .int .i64 0, .int .i64 0]), .ar 9 false 1, some 9⟩
theorem te154_ok : TeOk Try.prog 154 te154 := .ar (by kernel_rfl) (by kernel_rfl) (fun _ => zsome (by kernel_rfl)) (el := 3) (by kernel_rfl) (by kernel_rfl) (by kernel_rfl) (fun _ => qsome (by kernel_rfl))
def te155 : TE := ⟨false, 1, some (.nilf), .oth, none⟩
theorem te155_ok : TeOk Try.prog 155 te155 := ⟨by kernel_rfl, by kernel_rfl, (fun _ => zsome (by kernel_rfl)), trivial, fun _ => qnone⟩
def te156 : TE := ⟨false, 1, some (.nilf), .oth, none⟩
theorem te156_ok : TeOk Try.prog 156 te156 := ⟨by kernel_rfl, by kernel_rfl, (fun _ => zsome (by kernel_rfl)), trivial, fun _ => qnone⟩
def te157 : TE := ⟨false, 1, some (.nilf), .oth, none⟩
theorem te157_ok : TeOk Try.prog 157 te157 := ⟨by kernel_rfl, by kernel_rfl, (fun _ => zsome (by kernel_rfl)), trivial, fun _ => qnone⟩
def te158 : TE := ⟨true, 512, some (.agg (List.replicate 512 (.int .i64 0))), .ar 512 false 1, some 512⟩
theorem te158_ok : TeOk Try.prog 158 te158 := .ar (by kernel_rfl) (by kernel_rfl) (fun _ => zsome (by kernel_rfl)) (el := 3) (by kernel_rfl) (by kernel_rfl) (by kernel_rfl) (fun _ => qsome (by kernel_rfl))
def te159 : TE := ⟨true, 9, some (.agg [.int .i64 0, .int .i64 0, .int .i64 0, .int .i64 0, .int .i64 0, .int .i64 0, .int .i64 0, .int .i64 0, .int .i64 0]), .ar 9 false 1, some 9⟩
theorem te159_ok : TeOk Try.prog 159 te159 := .ar (by kernel_rfl) (by kernel_rfl) (fun _ => zsome (by kernel_rfl)) (el := 3) (by kernel_rfl) (by kernel_rfl) (by kernel_rfl) (fun _ => qsome (by kernel_rfl))
def te160 : TE := ⟨true, 526, some (.agg ([.int .i64 0, .int .i64 0, .sl true [], .sl true [], .sl true []] ++ List.replicate 521 (.int .i64 0))), .st [(0, true, 5), (5, true, 512), (517, true, 9)], none⟩
theorem te160_ok : TeOk Try.prog 160 te160 := .st (by kernel_rfl) (by kernel_rfl) (fun _ => zsome (by kernel_rfl)) (by kernel_rfl) ⟨by kernel_rfl, by kernel_rfl, by kernel_rfl, trivial⟩ (by kernel_rfl) (fun _ => qnone)
def te161 : TE := ⟨true, 526, some (.agg ([.int .i64 0, .int .i64 0, .sl true [], .sl true [], .sl true []] ++ List.replicate 521 (.int .i64 0))), .st [(0, true, 5), (5, true, 512), (517, true, 9)], none⟩
theorem te161_ok : TeOk Try.prog 161 te161 := .st (by kernel_rfl) (by kernel_rfl) (fun _ => zsome (by kernel_rfl)) (by kernel_rfl) ⟨by kernel_rfl, by kernel_rfl, by kernel_rfl, trivial⟩ (by kernel_rfl) (fun _ => qnone)
def te162 : TE := ⟨false, 1, some (.nilf), .oth, none⟩
theorem te162_ok : TeOk Try.prog 162 te162 := ⟨by kernel_rfl, by kernel_rfl, (fun _ => zsome (by kernel_rfl)), trivial, fun _ => qnone⟩
def te163 : TE := ⟨false, 1, some (.nilf), .oth, none⟩
theorem te163_ok : TeOk Try.prog 163 te163 := ⟨by kernel_rfl, by kernel_rfl, (fun _ => zsome (by kernel_rfl)), trivial, fun _ => qnone⟩
def te164 : TE := ⟨false, 1, some (.nilf), .oth, none⟩
theorem te164_ok : TeOk Try.prog 164 te164 := ⟨by kernel_rfl, by kernel_rfl, (fun _ => zsome (by kernel_rfl)), trivial, fun _ => qnone⟩
def te165 : TE := ⟨false, 1, some (.sl true []), .sl 148 2 16 (.agg [.int .i64 0, .int .i64 0]), none⟩
theorem te165_ok : TeOk Try.prog 165 te165 := ⟨by kernel_rfl, by kernel_rfl, (fun _ => zsome (by kernel_rfl)), ⟨by kernel_rfl, by kernel_rfl, ⟨148, by kernel_rfl⟩, by kernel_rfl⟩, fun _ => qnone⟩
def te166 : TE := ⟨false, 1, some (.nilf), .oth, none⟩
theorem te166_ok : TeOk Try.prog 166 te166 := ⟨by kernel_rfl, by kernel_rfl, (fun _ => zsome (by kernel_rfl)), trivial, fun _ => qnone⟩
def te167 : TE := ⟨false, 1, some (.nilf), .oth, none⟩
theorem te167_ok : TeOk Try.prog 167 te167 := ⟨by kernel_rfl, by kernel_rfl, (fun _ => zsome (by kernel_rfl)), trivial, fun _ => qnone⟩
def te168 : TE := ⟨false, 1, some (.nilf), .oth, none⟩
theorem te168_ok : TeOk Try.prog 168 te168 := ⟨by kernel_rfl, by kernel_rfl, (fun _ => zsome (by kernel_rfl)), trivial, fun _ => qnone⟩
def te169 : TE := ⟨false, 1, some (.nilf), .oth, none⟩
theorem te169_ok : TeOk Try.prog 169 te169 := ⟨by kernel_rfl, by kernel_rfl, (fun _ => zsome (by kernel_rfl)), trivial, fun _ => qnone⟩
def te170 : TE := ⟨false, 1, some (.nilf), .oth, none⟩
theorem te170_ok : TeOk Try.prog 170 te170 := ⟨by kernel_rfl, by kernel_rfl, (fun _ => zsome (by kernel_rfl)), trivial, fun _ => qnone⟩
def te171 : TE := ⟨true, 2, some (.agg [.int .i64 0, .int .i64 0]), .st [(0, false, 1), (1, false, 1)], some 2⟩
theorem te171_ok : TeOk Try.prog 171 te171 := .st (by kernel_rfl) (by kernel_rfl) (fun _ => zsome (by kernel_rfl)) (by kernel_rfl) ⟨by kernel_rfl, by kernel_rfl, trivial⟩ (by kernel_rfl) (fun _ => qsome (by kernel_rfl))
def te172 : TE := ⟨true, 2, some (.agg [.int .i64 0, .int .i64 0]), .st [(0, false, 1), (1, false, 1)], some 2⟩
theorem te172_ok : TeOk Try.prog 172 te172 := .st (by kernel_rfl) (by kernel_rfl) (fun _ => zsome (by kernel_rfl)) (by kernel_rfl) ⟨by kernel_rfl, by kernel_rfl, trivial⟩ (by kernel_rfl) (fun _ => qsome (by kernel_rfl))
def te173 : TE := ⟨true, 6, some (.agg [.int .i64 0, .int .i64 0, .int .i64 0, .int .i64 0, .int .i64 0, .int .i64 0]), .st [(0, false, 1), (1, false, 1), (2, true, 2), (4, true, 2)], none⟩
theorem te173_ok : TeOk Try.prog 173 te173 := .st (by kernel_rfl) (by kernel_rfl) (fun _ => zsome (by kernel_rfl)) (by kernel_rfl) ⟨by kernel_rfl, by kernel_rfl, by kernel_rfl, by kernel_rfl, trivial⟩ (by kernel_rfl) (fun _ => qnone)
def te174 : TE := ⟨true, 6, some (.agg [.int .i64 0, .int .i64 0, .int .i64 0, .int .i64 0, .int .i64 0, .int .i64 0]), .st [(0, false, 1), (1, false, 1), (2, true, 2), (4, true, 2)], none⟩
theorem te174_ok : TeOk Try.prog 174 te174 := .st (by kernel_rfl) (by kernel_rfl) (fun _ => zsome (by kernel_rfl)) (by kernel_rfl) ⟨by kernel_rfl, by kernel_rfl, by kernel_rfl, by kernel_rfl, trivial⟩ (by kernel_rfl) (fun _ => qnone)
def te175 : TE := ⟨true, 2, some (.agg [.int .i64 0, .int .i64 0]), .st [(0, false, 1), (1, false, 1)], some 2⟩
theorem te175_ok : TeOk Try.prog 175 te175 := .st (by kernel_rfl) (by kernel_rfl) (fun _ => zsome (by kernel_rfl)) (by kernel_rfl) ⟨by kernel_rfl, by kernel_rfl, trivial⟩ (by kernel_rfl) (fun _ => qsome (by kernel_rfl))
def te176 : TE := ⟨true, 2, some (.agg [.int .i64 0, .int .i64 0]), .st [(0, false, 1), (1, false, 1)], some 2⟩
theorem te176_ok : TeOk Try.prog 176 te176 := .st (by kernel_rfl) (by kernel_rfl) (fun _ => zsome (by kernel_rfl)) (by kernel_rfl) ⟨by kernel_rfl, by kernel_rfl, trivial⟩ (by kernel_rfl) (fun _ => qsome (by kernel_rfl))
def te177 : TE := ⟨false, 1, some (.nilf), .oth, none⟩
theorem te177_ok : TeOk Try.prog 177 te177 := ⟨by kernel_rfl, by kernel_rfl, (fun _ => zsome (by kernel_rfl)), trivial, fun _ => qnone⟩
def te178 : TE := ⟨false, 1, some (.nilp), .oth, none⟩
theorem te178_ok : TeOk Try.prog 178 te178 := ⟨by kernel_rfl, by kernel_rfl, (fun _ => zsome (by kernel_rfl)), trivial, fun _ => qnone⟩
def te180 : TE := ⟨false, 1, some (.nilf), .oth, none⟩
theorem te180_ok : TeOk Try.prog 180 te180 := ⟨by kernel_rfl, by kernel_rfl, (fun _ => zsome (by kernel_rfl)), trivial, fun _ => qnone⟩
def te181 : TE := ⟨false, 1, some (.sl true []), .sl 182 121 968 (.agg (List.replicate 121 (.int .i64 0))), none⟩
theorem te181_ok : TeOk Try.prog 181 te181 := ⟨by kernel_rfl, by kernel_rfl, (fun _ => zsome (by kernel_rfl)), ⟨by kernel_rfl, by kernel_rfl, ⟨182, by kernel_rfl⟩, by kernel_rfl⟩, fun _ => qnone⟩
def te182 : TE := ⟨true, 121, some (.agg (List.replicate 121 (.int .i64 0))), .ar 121 false 1, some 121⟩
theorem te182_ok : TeOk Try.prog 182 te182 := .ar (by kernel_rfl) (by kernel_rfl) (fun _ => zsome (by kernel_rfl)) (el := 3) (by kernel_rfl) (by kernel_rfl) (by kernel_rfl) (fun _ => qsome (by kernel_rfl))
def te183 : TE := ⟨false, 1, some (.nilf), .oth, none⟩
theorem te183_ok : TeOk Try.prog 183 te183 := ⟨by kernel_rfl, by kernel_rfl, (fun _ => zsome (by kernel_rfl)), trivial, fun _ => qnone⟩
def te184 : TE := ⟨false, 1, some (.nilm), .mp (.sl true []), none⟩
theorem te184_ok : TeOk Try.prog 184 te184 := ⟨by kernel_rfl, by kernel_rfl, (fun _ => zsome (by kernel_rfl)), show mapT Try.prog 184 = some (.sl true []) by kernel_rfl, fun _ => qnone⟩
def te185 : TE := ⟨true, 6, some (.agg [.int .i64 0, .int .i64 0, .int .i64 0, .sl true [], .sl true [], .nilm]), .st [(0, true, 5), (5, false, 1)], none⟩
theorem te185_ok : TeOk Try.prog 185 te185 := .st (by kernel_rfl) (by kernel_rfl) (fun _ => zsome (by kernel_rfl)) (by kernel_rfl) ⟨by kernel_rfl, by kernel_rfl, trivial⟩ (by kernel_rfl) (fun _ => qnone)
def te186 : TE := ⟨true, 6, some (.agg [.int .i64 0, .int .i64 0, .int .i64 0, .sl true [], .sl true [], .nilm]), .st [(0, true, 5), (5, false, 1)], none⟩
theorem te186_ok : TeOk Try.prog 186 te186 := .st (by kernel_rfl) (by kernel_rfl) (fun _ => zsome (by kernel_rfl)) (by kernel_rfl) ⟨by kernel_rfl, by kernel_rfl, trivial⟩ (by kernel_rfl) (fun _ => qnone)
def te187 : TE := ⟨false, 1, some (.nilf), .oth, none⟩
theorem te187_ok : TeOk Try.prog 187 te187 := ⟨by kernel_rfl, by kernel_rfl, (fun _ => zsome (by kernel_rfl)), trivial, fun _ => qnone⟩
def te188 : TE := ⟨false, 1, some (.nilf), .oth, none⟩
theorem te188_ok : TeOk Try.prog 188 te188 := ⟨by kernel_rfl, by kernel_rfl, (fun _ => zsome (by kernel_rfl)), trivial, fun _ => qnone⟩
def te189 : TE := ⟨false, 1, some (.nilf), .oth, none⟩
theorem te189_ok : TeOk Try.prog 189 te189 := ⟨by kernel_rfl, by kernel_rfl, (fun _ => zsome (by kernel_rfl)), trivial, fun _ => qnone⟩
def te190 : TE := ⟨false, 1, some (.nilf), .oth, none⟩
theorem te190_ok : TeOk Try.prog 190 te190 := ⟨by kernel_rfl, by kernel_rfl, (fun _ => zsome (by kernel_rfl)), trivial, fun _ => qnone⟩
def te191 : TE := ⟨false, 1, some (.nilf), .oth, none⟩
theorem te191_ok : TeOk Try.prog 191 te191 := ⟨by kernel_rfl, by kernel_rfl, (fun _ => zsome (by kernel_rfl)), trivial, fun _ => qnone⟩
def te192 : TE := ⟨false, 1, some (.nilf), .oth, none⟩
theorem te192_ok : TeOk Try.prog 192 te192 := ⟨by kernel_rfl, by kernel_rfl, (fun _ => zsome (by kernel_rfl)), trivial, fun _ => qnone⟩
def te193 : TE := ⟨false, 1, some (.nilf), .oth, none⟩
theorem te193_ok : TeOk Try.prog 193 te193 := ⟨by kernel_rfl, by kernel_rfl, (fun _ => zsome (by kernel_rfl)), trivial, fun _ => qnone⟩
def te194 : TE := ⟨false, 1, some (.int .u64 0), .int .u64, none⟩
theorem te194_ok : TeOk Try.prog 194 te194 := ⟨by kernel_rfl, by kernel_rfl, (fun _ => zsome (by kernel_rfl)), show Try.prog.underlying 194 = some (.int .u64) by kernel_rfl, fun _ => qnone⟩
def te195 : TE := ⟨false, 1, some (.nilf), .oth, none⟩
theorem te195_ok : TeOk Try.prog 195 te195 := ⟨by kernel_rfl, by kernel_rfl, (fun _ => zsome (by kernel_rfl)), trivial, fun _ => qnone⟩
def te196 : TE := ⟨false, 1, some (.nilf), .oth, none⟩
theorem te196_ok : TeOk Try.prog 196 te196 := ⟨by kernel_rfl, by kernel_rfl, (fun _ => zsome (by kernel_rfl)), trivial, fun _ => qnone⟩
def te197 : TE := ⟨false, 1, some (.nilf), .oth, none⟩
theorem te197_ok : TeOk Try.prog 197 te197 := ⟨by kernel_rfl, by kernel_rfl, (fun _ => zsome (by kernel_rfl)), trivial, fun _ => qnone⟩
def te198 : TE := ⟨false, 1, some (.nilf), .oth, none⟩
theorem te198_ok : TeOk Try.prog 198 te198 := ⟨by kernel_rfl, by kernel_rfl, (fun _ => zsome (by kernel_rfl)), trivial, fun _ => qnone⟩
def te199 : TE := ⟨false, 1, some (.nilf), .oth, none⟩
theorem te199_ok : TeOk Try.prog 199 te199 := ⟨by kernel_rfl, by kernel_rfl, (fun _ => zsome (by kernel_rfl)), trivial, fun _ => qnone⟩
def te200 : TE := ⟨true, 3, some (.agg [.int .i64 0, .int .i64 0, .int .i64 0]), .st [(0, false, 1), (1, true, 2)], none⟩
theorem te200_ok : TeOk Try.prog 200 te200 := .st (by kernel_rfl) (by kernel_rfl) (fun _ => zsome (by kernel_rfl)) (by kernel_rfl) ⟨by kernel_rfl, by kernel_rfl, trivial⟩ (by kernel_rfl) (fun _ => qnone)
def te201 : TE := ⟨true, 3, some (.agg [.int .i64 0, .int .i64 0, .int .i64 0]), .st [(0, false, 1), (1, true, 2)], none⟩
theorem te201_ok : TeOk Try.prog 201 te201 := .st (by kernel_rfl) (by kernel_rfl) (fun _ => zsome (by kernel_rfl)) (by kernel_rfl) ⟨by kernel_rfl, by kernel_rfl, trivial⟩ (by kernel_rfl) (fun _ => qnone)
def te202 : TE := ⟨false, 1, some (.nilf), .oth, none⟩
theorem te202_ok : TeOk Try.prog 202 te202 := ⟨by kernel_rfl, by kernel_rfl, (fun _ => zsome (by kernel_rfl)), trivial, fun _ => qnone⟩
def te203 : TE := ⟨false, 1, some (.nilf), .oth, none⟩
theorem te203_ok : TeOk Try.prog 203 te203 := ⟨by kernel_rfl, by kernel_rfl, (fun _ => zsome (by kernel_rfl)), trivial, fun _ => qnone⟩
def te204 : TE := ⟨false, 1, some (.nilf), .oth, none⟩
theorem te204_ok : TeOk Try.prog 204 te204 := ⟨by kernel_rfl, by kernel_rfl, (fun _ => zsome (by kernel_rfl)), trivial, fun _ => qnone⟩
def te205 : TE := ⟨false, 1, some (.nilf), .oth, none⟩
theorem te205_ok : TeOk Try.prog 205 te205 := ⟨by kernel_rfl, by kernel_rfl, (fun _ => zsome (by kernel_rfl)), trivial, fun _ => qnone⟩
def te206 : TE := ⟨false, 1, some (.nilf), .oth, none⟩
theorem te206_ok : TeOk Try.prog 206 te206 := ⟨by kernel_rfl, by kernel_rfl, (fun _ => zsome (by kernel_rfl)), trivial, fun _ => qnone⟩
def te207 : TE := ⟨false, 1, some (.nilf), .oth, none⟩
theorem te207_ok : TeOk Try.prog 207 te207 := ⟨by kernel_rfl, by kernel_rfl, (fun _ => zsome (by kernel_rfl)), trivial, fun _ => qnone⟩
def te208 : TE := ⟨false, 1, some (.nilf), .oth, none⟩
theorem te208_ok : TeOk Try.prog 208 te208 := ⟨by kernel_rfl, by kernel_rfl, (fun _ => zsome (by kernel_rfl)), trivial, fun _ => qnone⟩
def te209 : TE := ⟨false, 1, some (.nilf), .oth, none⟩
theorem te209_ok : TeOk Try.prog 209 te209 := ⟨by kernel_rfl, by kernel_rfl, (fun _ => zsome (by kernel_rfl)), trivial, fun _ => qnone⟩
def te210 : TE := ⟨false, 1, some (.nilf), .oth, none⟩
theorem te210_ok : TeOk Try.prog 210 te210 := ⟨by kernel_rfl, by kernel_rfl, (fun _ => zsome (by kernel_rfl)), trivial, fun _ => qnone⟩
def te211 : TE := ⟨true, 4, none, .st [(0, false, 1), (1, false, 1), (2, false, 1), (3, false, 1)], none⟩
theorem te211_ok : TeOk Try.prog 211 te211 := .st (by kernel_rfl) (by kernel_rfl) (fun _ => znone) (by kernel_rfl) ⟨by kernel_rfl, by kernel_rfl, by kernel_rfl, by kernel_rfl, trivial⟩ (by kernel_rfl) (fun _ => qnone)
def te213 : TE := ⟨true, 0, some (.agg []), .ar 0 false 1, none⟩
theorem te213_ok : TeOk Try.prog 213 te213 := .ar (by kernel_rfl) (by kernel_rfl) (fun _ => zsome (by kernel_rfl)) (el := 16) (by kernel_rfl) (by kernel_rfl) (by kernel_rfl) (fun _ => qnone)
def te214 : TE := ⟨true, 0, some (.agg []), .st [(0, true, 0)], none⟩
theorem te214_ok : TeOk Try.prog 214 te214 := .st (by kernel_rfl) (by kernel_rfl) (fun _ => zsome (by kernel_rfl)) (by kernel_rfl) ⟨by kernel_rfl, trivial⟩ (by kernel_rfl) (fun _ => qnone)
def te218 : TE := ⟨false, 1, some (.nilf), .oth, none⟩
theorem te218_ok : TeOk Try.prog 218 te218 := ⟨by kernel_rfl, by kernel_rfl, (fun _ => zsome (by kernel_rfl)), trivial, fun _ => qnone⟩
def te219 : TE := ⟨false, 1, some (.nilp), .oth, none⟩
theorem te219_ok : TeOk Try.prog 219 te219 := ⟨by kernel_rfl, by kernel_rfl, (fun _ => zsome (by kernel_rfl)), trivial, fun _ => qnone⟩
def te222 : TE := ⟨true, 11, some (.agg [.int .u64 0, .int .u64 0, .int .u32 0, .int .u8 0, .int .u8 0, .int .u8 0, .int .u8 0, .nilf, .nilp, .int .i32 0, .int .i32 0]), .st [(0, false, 1), (1, false, 1), (2, false, 1), (3, false, 1), (4, false, 1), (5, false, 1), (6, false, 1), (7, false, 1), (8, false, 1), (9, false, 1), (10, false, 1)], none⟩
theorem te222_ok : TeOk Try.prog 222 te222 := .st (by kernel_rfl) (by kernel_rfl) (fun _ => zsome (by kernel_rfl)) (by kernel_rfl) ⟨by kernel_rfl, by kernel_rfl, by kernel_rfl, by kernel_rfl, by kernel_rfl, by kernel_rfl, by kernel_rfl, by kernel_rfl, by kernel_rfl, by kernel_rfl, by kernel_rfl, trivial⟩ (by kernel_rfl) (fun _ => qnone)
def tab : Tab := [none, some te1, some te2, some te3, some te4, some te5, none, some te7, none, none, none, none, some te12, some te13, none, none, none, none, some te18, none, none, some te21, some te22, some te23, some te24, some te25, some te26, some te27, some te28, some te29, some te30, some te31, none, some te33, some te34, some te35, some te36, some te37, none, some te39, some te40, some te41, some te42, some te43, some te44, none, some te46, none, some te48, some te49, some te50, none, some te52, some te53, none, some te55, some te56, some te57, some te58, some te59, some te60, some te61, some te62, some te63, some te64, some te65, some te66, some te67, some te68, some te69, some te70, some te71, some te72, some te73, some te74, some te75, some te76, some te77, some te78, none, some te80, some te81, some te82, some te83, some te84, some te85, some te86, some te87, none, some te89, some te90, none, some te92, some te93, some te94, some te95, some te96, some te97, some te98, none, some te100, some te101, some te102, some te103, some te104, some te105, some te106, some te107, some te108, none, some te110, some te111, some te112, some te113, some te114, some te115, some te116, some te117, some te118, some te119, some te120, some te121, some te122, some te123, none, some te125, some te126, some te127, some te128, some te129, none, some te131, some te132, some te133, some te134, some te135, some te136, some te137, some te138, some te139, some te140, some te141, some te142, some te143, some te144, some te145, some te146, some te147, some te148, some te149, some te150, some te151, some te152, some te153, some te154, some te155, some te156, some te157, some te158, some te159, some te160, some te161, some te162, some te163, some te164, some te165, some te166, some te167, some te168, some te169, some te170, some te171, some te172, some te173, some te174, some te175, some te176, some te177, some te178, none, some te180, some te181, some te182, some te183, some te184, some te185, some te186, some te187, some te188, some te189, some te190, some te191, some te192, some te193, some te194, some te195, some te196, some te197, some te198, some te199, some te200, some te201, some te202, some te203, some te204, some te205, some te206, some te207, some te208, some te209, some te210, some te211, none, some te213, some te214, none, none, none, some te218, some te219, none, none, some te222]
theorem tab_ok : TabOk Try.prog tab := ⟨te1_ok, te2_ok, te3_ok, te4_ok, te5_ok, te7_ok, te12_ok, te13_ok, te18_ok, te21_ok, te22_ok, te23_ok, te24_ok, te25_ok, te26_ok, te27_ok, te28_ok, te29_ok, te30_ok, te31_ok, te33_ok, te34_ok, te35_ok, te36_ok, te37_ok, te39_ok, te40_ok, te41_ok, te42_ok, te43_ok, te44_ok, te46_ok, te48_ok, te49_ok, te50_ok, te52_ok, te53_ok, te55_ok, te56_ok, te57_ok, te58_ok, te59_ok, te60_ok, te61_ok, te62_ok, te63_ok, te64_ok, te65_ok, te66_ok, te67_ok, te68_ok, te69_ok, te70_ok, te71_ok, te72_ok, te73_ok, te74_ok, te75_ok, te76_ok, te77_ok, te78_ok, te80_ok, te81_ok, te82_ok, te83_ok, te84_ok, te85_ok, te86_ok, te87_ok, te89_ok, te90_ok, te92_ok, te93_ok, te94_ok, te95_ok, te96_ok, te97_ok, te98_ok, te100_ok, te101_ok, te102_ok, te103_ok, te104_ok, te105_ok, te106_ok, te107_ok, te108_ok, te110_ok, te111_ok, te112_ok, te113_ok, te114_ok, te115_ok, te116_ok, te117_ok, te118_ok, te119_ok, te120_ok, te121_ok, te122_ok, te123_ok, te125_ok, te126_ok, te127_ok, te128_ok, te129_ok, te131_ok, te132_ok, te133_ok, te134_ok, te135_ok, te136_ok, te137_ok, te138_ok, te139_ok, te140_ok, te141_ok, te142_ok, te143_ok, te144_ok, te145_ok, te146_ok, te147_ok, te148_ok, te149_ok, te150_ok, te151_ok, te152_ok, te153_ok, te154_ok, te155_ok, te156_ok, te157_ok, te158_ok, te159_ok, te160_ok, te161_ok, te162_ok, te163_ok, te164_ok, te165_ok, te166_ok, te167_ok, te168_ok, te169_ok, te170_ok, te171_ok, te172_ok, te173_ok, te174_ok, te175_ok, te176_ok, te177_ok, te178_ok, te180_ok, te181_ok, te182_ok, te183_ok, te184_ok, te185_ok, te186_ok, te187_ok, te188_ok, te189_ok, te190_ok, te191_ok, te192_ok, te193_ok, te194_ok, te195_ok, te196_ok, te197_ok, te198_ok, te199_ok, te200_ok, te201_ok, te202_ok, te203_ok, te204_ok, te205_ok, te206_ok, te207_ok, te208_ok, te209_ok, te210_ok, te211_ok, te213_ok, te214_ok, te218_ok, te219_ok, te222_ok, trivial⟩
end GA
