/- Part 3 of a proof: Tab, Abs19, Abs20, Abs21, Abs22, Abs23, Abs24, S1, S2, S4, S5, S6, S7, S8, S9, Abs25, S10, S11, S12. -/
import Derived.Test.YtlbdomhfcghjdaaP2
import Derived.Test.YtlbdomhfcghjdaaProg
import Derived.KernelRfl
import Derived.OrdersIn
section
namespace GA
open Go Go.Proofs
set_option maxRecDepth 100000
def te1 : TE := ⟨false, 1, some (.nilf), .oth, none⟩
theorem te1_ok : TeOk Try.prog 1 te1 := ⟨by kernel_rfl, by kernel_rfl, (fun _ => zsome (by kernel_rfl)), trivial, fun _ => qnone⟩
def te2 : TE := ⟨false, 1, some (.int .i64 0), .int .i64, none⟩
theorem te2_ok : TeOk Try.prog 2 te2 := ⟨by kernel_rfl, by kernel_rfl, (fun _ => zsome (by kernel_rfl)), show Try.prog.underlying 2 = some (.int .i64) by kernel_rfl, fun _ => qnone⟩
def te3 : TE := ⟨false, 1, some (.int .i64 0), .int .i64, none⟩
theorem te3_ok : TeOk Try.prog 3 te3 := ⟨by kernel_rfl, by kernel_rfl, (fun _ => zsome (by kernel_rfl)), show Try.prog.underlying 3 = some (.int .i64) by kernel_rfl, fun _ => qnone⟩
def te4 : TE := ⟨false, 1, some (.bool false), .bool, none⟩
theorem te4_ok : TeOk Try.prog 4 te4 := ⟨by kernel_rfl, by kernel_rfl, (fun _ => zsome (by kernel_rfl)), show isBoolT _ _ by (unfold isBoolT; kernel_rfl), fun _ => qnone⟩
def te5 : TE := ⟨false, 1, some (.int .u8 0), .int .u8, none⟩
theorem te5_ok : TeOk Try.prog 5 te5 := ⟨by kernel_rfl, by kernel_rfl, (fun _ => zsome (by kernel_rfl)), show Try.prog.underlying 5 = some (.int .u8) by kernel_rfl, fun _ => qnone⟩
def te7 : TE := ⟨true, 4, some (.agg [.int .i64 0, .int .i64 0, .bool false, .int .u8 0]), .st [(0, false, 1), (1, false, 1), (2, false, 1), (3, false, 1)], none⟩
theorem te7_ok : TeOk Try.prog 7 te7 := .st (by kernel_rfl) (by kernel_rfl) (fun _ => zsome (by kernel_rfl)) (by kernel_rfl) ⟨by kernel_rfl, by kernel_rfl, by kernel_rfl, by kernel_rfl, trivial⟩ (by kernel_rfl) (fun _ => qnone)
def te12 : TE := ⟨false, 1, some (.int .u64 0), .int .u64, none⟩
theorem te12_ok : TeOk Try.prog 12 te12 := ⟨by kernel_rfl, by kernel_rfl, (fun _ => zsome (by kernel_rfl)), show Try.prog.underlying 12 = some (.int .u64) by kernel_rfl, fun _ => qnone⟩
def te13 : TE := ⟨true, 2, none, .st [(0, false, 1), (1, false, 1)], none⟩
theorem te13_ok : TeOk Try.prog 13 te13 := .st (by kernel_rfl) (by kernel_rfl) (fun _ => znone) (by kernel_rfl) ⟨by kernel_rfl, by kernel_rfl, trivial⟩ (by kernel_rfl) (fun _ => qnone)
def te18 : TE := ⟨true, 1, some (.agg [.nilp]), .st [(0, false, 1)], none⟩
theorem te18_ok : TeOk Try.prog 18 te18 := .st (by kernel_rfl) (by kernel_rfl) (fun _ => zsome (by kernel_rfl)) (by kernel_rfl) ⟨by kernel_rfl, trivial⟩ (by kernel_rfl) (fun _ => qnone)
def te21 : TE := ⟨false, 1, some (.int .i32 0), .int .i32, none⟩
theorem te21_ok : TeOk Try.prog 21 te21 := ⟨by kernel_rfl, by kernel_rfl, (fun _ => zsome (by kernel_rfl)), show Try.prog.underlying 21 = some (.int .i32) by kernel_rfl, fun _ => qnone⟩
def te22 : TE := ⟨false, 1, some (.sl true []), .sl 5 1 1 (.int .u8 0), none⟩
theorem te22_ok : TeOk Try.prog 22 te22 := ⟨by kernel_rfl, by kernel_rfl, (fun _ => zsome (by kernel_rfl)), ⟨by kernel_rfl, by kernel_rfl, ⟨5, by kernel_rfl⟩, by kernel_rfl⟩, fun _ => qnone⟩
def te23 : TE := ⟨false, 1, some (.sl true []), .sl 113 2 16 (.agg [.int .i64 0, .int .i64 0]), none⟩
theorem te23_ok : TeOk Try.prog 23 te23 := ⟨by kernel_rfl, by kernel_rfl, (fun _ => zsome (by kernel_rfl)), ⟨by kernel_rfl, by kernel_rfl, ⟨113, by kernel_rfl⟩, by kernel_rfl⟩, fun _ => qnone⟩
def te24 : TE := ⟨false, 1, some (.sl true []), .sl 118 2 16 (.agg [.int .i64 0, .int .i64 0]), none⟩
theorem te24_ok : TeOk Try.prog 24 te24 := ⟨by kernel_rfl, by kernel_rfl, (fun _ => zsome (by kernel_rfl)), ⟨by kernel_rfl, by kernel_rfl, ⟨118, by kernel_rfl⟩, by kernel_rfl⟩, fun _ => qnone⟩
def te25 : TE := ⟨true, 5, some (.agg [.int .i64 0, .int .i64 0, .sl true [], .sl true [], .sl true []]), .st [(0, false, 1), (1, false, 1), (2, false, 1), (3, false, 1), (4, false, 1)], none⟩
theorem te25_ok : TeOk Try.prog 25 te25 := .st (by kernel_rfl) (by kernel_rfl) (fun _ => zsome (by kernel_rfl)) (by kernel_rfl) ⟨by kernel_rfl, by kernel_rfl, by kernel_rfl, by kernel_rfl, by kernel_rfl, trivial⟩ (by kernel_rfl) (fun _ => qnone)
def te26 : TE := ⟨true, 5, some (.agg [.int .i64 0, .int .i64 0, .sl true [], .sl true [], .sl true []]), .st [(0, false, 1), (1, false, 1), (2, false, 1), (3, false, 1), (4, false, 1)], none⟩
theorem te26_ok : TeOk Try.prog 26 te26 := .st (by kernel_rfl) (by kernel_rfl) (fun _ => zsome (by kernel_rfl)) (by kernel_rfl) ⟨by kernel_rfl, by kernel_rfl, by kernel_rfl, by kernel_rfl, by kernel_rfl, trivial⟩ (by kernel_rfl) (fun _ => qnone)
def te27 : TE := ⟨false, 1, some (.nilf), .oth, none⟩
theorem te27_ok : TeOk Try.prog 27 te27 := ⟨by kernel_rfl, by kernel_rfl, (fun _ => zsome (by kernel_rfl)), trivial, fun _ => qnone⟩
def te28 : TE := ⟨false, 1, some (.nilp), .oth, none⟩
theorem te28_ok : TeOk Try.prog 28 te28 := ⟨by kernel_rfl, by kernel_rfl, (fun _ => zsome (by kernel_rfl)), trivial, fun _ => qnone⟩
def te29 : TE := ⟨false, 1, some (.nilf), .oth, none⟩
theorem te29_ok : TeOk Try.prog 29 te29 := ⟨by kernel_rfl, by kernel_rfl, (fun _ => zsome (by kernel_rfl)), trivial, fun _ => qnone⟩
def te30 : TE := ⟨false, 1, some (.sl true []), .sl 3 1 8 (.int .i64 0), none⟩
theorem te30_ok : TeOk Try.prog 30 te30 := ⟨by kernel_rfl, by kernel_rfl, (fun _ => zsome (by kernel_rfl)), ⟨by kernel_rfl, by kernel_rfl, ⟨3, by kernel_rfl⟩, by kernel_rfl⟩, fun _ => qnone⟩
def te31 : TE := ⟨false, 1, some (.int .i64 0), .int .i64, none⟩
theorem te31_ok : TeOk Try.prog 31 te31 := ⟨by kernel_rfl, by kernel_rfl, (fun _ => zsome (by kernel_rfl)), show Try.prog.underlying 31 = some (.int .i64) by kernel_rfl, fun _ => qnone⟩
def te33 : TE := ⟨false, 1, some (.nilf), .oth, none⟩
theorem te33_ok : TeOk Try.prog 33 te33 := ⟨by kernel_rfl, by kernel_rfl, (fun _ => zsome (by kernel_rfl)), trivial, fun _ => qnone⟩
def te34 : TE := ⟨false, 1, some (.nilf), .oth, none⟩
theorem te34_ok : TeOk Try.prog 34 te34 := ⟨by kernel_rfl, by kernel_rfl, (fun _ => zsome (by kernel_rfl)), trivial, fun _ => qnone⟩
def te35 : TE := ⟨false, 1, some (.nilf), .oth, none⟩
theorem te35_ok : TeOk Try.prog 35 te35 := ⟨by kernel_rfl, by kernel_rfl, (fun _ => zsome (by kernel_rfl)), trivial, fun _ => qnone⟩
def te36 : TE := ⟨false, 1, some (.sl true []), .sl 26 5 88 (.agg [.int .i64 0, .int .i64 0, .sl true [], .sl true [], .sl true []]), none⟩
theorem te36_ok : TeOk Try.prog 36 te36 := ⟨by kernel_rfl, by kernel_rfl, (fun _ => zsome (by kernel_rfl)), ⟨by kernel_rfl, by kernel_rfl, ⟨26, by kernel_rfl⟩, by kernel_rfl⟩, fun _ => qnone⟩
def te37 : TE := ⟨false, 1, some (.nilf), .oth, none⟩
theorem te37_ok : TeOk Try.prog 37 te37 := ⟨by kernel_rfl, by kernel_rfl, (fun _ => zsome (by kernel_rfl)), trivial, fun _ => qnone⟩
def te39 : TE := ⟨false, 1, some (.nilf), .oth, none⟩
theorem te39_ok : TeOk Try.prog 39 te39 := ⟨by kernel_rfl, by kernel_rfl, (fun _ => zsome (by kernel_rfl)), trivial, fun _ => qnone⟩
def te40 : TE := ⟨true, 2, some (.agg [.int .i64 0, .sl true []]), .st [(0, false, 1), (1, false, 1)], none⟩
theorem te40_ok : TeOk Try.prog 40 te40 := .st (by kernel_rfl) (by kernel_rfl) (fun _ => zsome (by kernel_rfl)) (by kernel_rfl) ⟨by kernel_rfl, by kernel_rfl, trivial⟩ (by kernel_rfl) (fun _ => qnone)
def te41 : TE := ⟨true, 2, some (.agg [.int .i64 0, .sl true []]), .st [(0, false, 1), (1, false, 1)], none⟩
theorem te41_ok : TeOk Try.prog 41 te41 := .st (by kernel_rfl) (by kernel_rfl) (fun _ => zsome (by kernel_rfl)) (by kernel_rfl) ⟨by kernel_rfl, by kernel_rfl, trivial⟩ (by kernel_rfl) (fun _ => qnone)
def te42 : TE := ⟨false, 1, some (.sl true []), .sl 41 2 32 (.agg [.int .i64 0, .sl true []]), none⟩
theorem te42_ok : TeOk Try.prog 42 te42 := ⟨by kernel_rfl, by kernel_rfl, (fun _ => zsome (by kernel_rfl)), ⟨by kernel_rfl, by kernel_rfl, ⟨41, by kernel_rfl⟩, by kernel_rfl⟩, fun _ => qnone⟩
def te43 : TE := ⟨false, 1, some (.nilf), .oth, none⟩
theorem te43_ok : TeOk Try.prog 43 te43 := ⟨by kernel_rfl, by kernel_rfl, (fun _ => zsome (by kernel_rfl)), trivial, fun _ => qnone⟩
def te44 : TE := ⟨false, 1, some (.nilf), .oth, none⟩
theorem te44_ok : TeOk Try.prog 44 te44 := ⟨by kernel_rfl, by kernel_rfl, (fun _ => zsome (by kernel_rfl)), trivial, fun _ => qnone⟩
def te46 : TE := ⟨false, 1, some (.nilf), .oth, none⟩
theorem te46_ok : TeOk Try.prog 46 te46 := ⟨by kernel_rfl, by kernel_rfl, (fun _ => zsome (by kernel_rfl)), trivial, fun _ => qnone⟩
def te48 : TE := ⟨false, 1, some (.nilf), .oth, none⟩
theorem te48_ok : TeOk Try.prog 48 te48 := ⟨by kernel_rfl, by kernel_rfl, (fun _ => zsome (by kernel_rfl)), trivial, fun _ => qnone⟩
def te49 : TE := ⟨false, 1, some (.nilf), .oth, none⟩
theorem te49_ok : TeOk Try.prog 49 te49 := ⟨by kernel_rfl, by kernel_rfl, (fun _ => zsome (by kernel_rfl)), trivial, fun _ => qnone⟩
def te50 : TE := ⟨false, 1, some (.nilf), .oth, none⟩
theorem te50_ok : TeOk Try.prog 50 te50 := ⟨by kernel_rfl, by kernel_rfl, (fun _ => zsome (by kernel_rfl)), trivial, fun _ => qnone⟩
def te52 : TE := ⟨false, 1, some (.nilf), .oth, none⟩
theorem te52_ok : TeOk Try.prog 52 te52 := ⟨by kernel_rfl, by kernel_rfl, (fun _ => zsome (by kernel_rfl)), trivial, fun _ => qnone⟩
def te53 : TE := ⟨false, 1, some (.nilf), .oth, none⟩
theorem te53_ok : TeOk Try.prog 53 te53 := ⟨by kernel_rfl, by kernel_rfl, (fun _ => zsome (by kernel_rfl)), trivial, fun _ => qnone⟩
def te55 : TE := ⟨false, 1, some (.nilf), .oth, none⟩
theorem te55_ok : TeOk Try.prog 55 te55 := ⟨by kernel_rfl, by kernel_rfl, (fun _ => zsome (by kernel_rfl)), trivial, fun _ => qnone⟩
def te56 : TE := ⟨false, 1, some (.nilf), .oth, none⟩
theorem te56_ok : TeOk Try.prog 56 te56 := ⟨by kernel_rfl, by kernel_rfl, (fun _ => zsome (by kernel_rfl)), trivial, fun _ => qnone⟩
def te57 : TE := ⟨false, 1, some (.nilf), .oth, none⟩
theorem te57_ok : TeOk Try.prog 57 te57 := ⟨by kernel_rfl, by kernel_rfl, (fun _ => zsome (by kernel_rfl)), trivial, fun _ => qnone⟩
def te58 : TE := ⟨false, 1, some (.nilf), .oth, none⟩
theorem te58_ok : TeOk Try.prog 58 te58 := ⟨by kernel_rfl, by kernel_rfl, (fun _ => zsome (by kernel_rfl)), trivial, fun _ => qnone⟩
def te59 : TE := ⟨false, 1, some (.int .u16 0), .int .u16, none⟩
theorem te59_ok : TeOk Try.prog 59 te59 := ⟨by kernel_rfl, by kernel_rfl, (fun _ => zsome (by kernel_rfl)), show Try.prog.underlying 59 = some (.int .u16) by kernel_rfl, fun _ => qnone⟩
def te60 : TE := ⟨false, 1, some (.nilf), .oth, none⟩
theorem te60_ok : TeOk Try.prog 60 te60 := ⟨by kernel_rfl, by kernel_rfl, (fun _ => zsome (by kernel_rfl)), trivial, fun _ => qnone⟩
def te61 : TE := ⟨false, 1, some (.nilf), .oth, none⟩
theorem te61_ok : TeOk Try.prog 61 te61 := ⟨by kernel_rfl, by kernel_rfl, (fun _ => zsome (by kernel_rfl)), trivial, fun _ => qnone⟩
def te62 : TE := ⟨false, 1, some (.nilf), .oth, none⟩
theorem te62_ok : TeOk Try.prog 62 te62 := ⟨by kernel_rfl, by kernel_rfl, (fun _ => zsome (by kernel_rfl)), trivial, fun _ => qnone⟩
def te63 : TE := ⟨false, 1, some (.nilf), .oth, none⟩
theorem te63_ok : TeOk Try.prog 63 te63 := ⟨by kernel_rfl, by kernel_rfl, (fun _ => zsome (by kernel_rfl)), trivial, fun _ => qnone⟩
def te64 : TE := ⟨false, 1, some (.nilf), .oth, none⟩
theorem te64_ok : TeOk Try.prog 64 te64 := ⟨by kernel_rfl, by kernel_rfl, (fun _ => zsome (by kernel_rfl)), trivial, fun _ => qnone⟩
def te65 : TE := ⟨false, 1, some (.nilf), .oth, none⟩
theorem te65_ok : TeOk Try.prog 65 te65 := ⟨by kernel_rfl, by kernel_rfl, (fun _ => zsome (by kernel_rfl)), trivial, fun _ => qnone⟩
def te66 : TE := ⟨false, 1, some (.nilf), .oth, none⟩
theorem te66_ok : TeOk Try.prog 66 te66 := ⟨by kernel_rfl, by kernel_rfl, (fun _ => zsome (by kernel_rfl)), trivial, fun _ => qnone⟩
def te67 : TE := ⟨false, 1, some (.sl true []), .sl 152 2 16 (.agg [.int .i64 0, .int .i64 0]), none⟩
theorem te67_ok : TeOk Try.prog 67 te67 := ⟨by kernel_rfl, by kernel_rfl, (fun _ => zsome (by kernel_rfl)), ⟨by kernel_rfl, by kernel_rfl, ⟨152, by kernel_rfl⟩, by kernel_rfl⟩, fun _ => qnone⟩
def te68 : TE := ⟨true, 5, some (.agg [.int .i64 0, .int .i64 0, .sl true [], .sl true [], .sl true []]), .st [(0, false, 1), (1, false, 1), (2, false, 1), (3, false, 1), (4, false, 1)], none⟩
theorem te68_ok : TeOk Try.prog 68 te68 := .st (by kernel_rfl) (by kernel_rfl) (fun _ => zsome (by kernel_rfl)) (by kernel_rfl) ⟨by kernel_rfl, by kernel_rfl, by kernel_rfl, by kernel_rfl, by kernel_rfl, trivial⟩ (by kernel_rfl) (fun _ => qnone)
def te69 : TE := ⟨true, 5, some (.agg [.int .i64 0, .int .i64 0, .sl true [], .sl true [], .sl true []]), .st [(0, false, 1), (1, false, 1), (2, false, 1), (3, false, 1), (4, false, 1)], none⟩
theorem te69_ok : TeOk Try.prog 69 te69 := .st (by kernel_rfl) (by kernel_rfl) (fun _ => zsome (by kernel_rfl)) (by kernel_rfl) ⟨by kernel_rfl, by kernel_rfl, by kernel_rfl, by kernel_rfl, by kernel_rfl, trivial⟩ (by kernel_rfl) (fun _ => qnone)
def te70 : TE := ⟨false, 1, some (.nilf), .oth, none⟩
theorem te70_ok : TeOk Try.prog 70 te70 := ⟨by kernel_rfl, by kernel_rfl, (fun _ => zsome (by kernel_rfl)), trivial, fun _ => qnone⟩
def te71 : TE := ⟨false, 1, some (.nilf), .oth, none⟩
theorem te71_ok : TeOk Try.prog 71 te71 := ⟨by kernel_rfl, by kernel_rfl, (fun _ => zsome (by kernel_rfl)), trivial, fun _ => qnone⟩
def te72 : TE := ⟨false, 1, some (.nilf), .oth, none⟩
theorem te72_ok : TeOk Try.prog 72 te72 := ⟨by kernel_rfl, by kernel_rfl, (fun _ => zsome (by kernel_rfl)), trivial, fun _ => qnone⟩
def te73 : TE := ⟨false, 1, some (.sl true []), .sl 4 1 1 (.bool false), none⟩
theorem te73_ok : TeOk Try.prog 73 te73 := ⟨by kernel_rfl, by kernel_rfl, (fun _ => zsome (by kernel_rfl)), ⟨by kernel_rfl, by kernel_rfl, ⟨4, by kernel_rfl⟩, by kernel_rfl⟩, fun _ => qnone⟩
def te74 : TE := ⟨false, 1, some (.nilf), .oth, none⟩
theorem te74_ok : TeOk Try.prog 74 te74 := ⟨by kernel_rfl, by kernel_rfl, (fun _ => zsome (by kernel_rfl)), trivial, fun _ => qnone⟩
def te75 : TE := ⟨false, 1, some (.nilf), .oth, none⟩
theorem te75_ok : TeOk Try.prog 75 te75 := ⟨by kernel_rfl, by kernel_rfl, (fun _ => zsome (by kernel_rfl)), trivial, fun _ => qnone⟩
def te76 : TE := ⟨false, 1, some (.nilf), .oth, none⟩
theorem te76_ok : TeOk Try.prog 76 te76 := ⟨by kernel_rfl, by kernel_rfl, (fun _ => zsome (by kernel_rfl)), trivial, fun _ => qnone⟩
def te77 : TE := ⟨false, 1, some (.nilf), .oth, none⟩
theorem te77_ok : TeOk Try.prog 77 te77 := ⟨by kernel_rfl, by kernel_rfl, (fun _ => zsome (by kernel_rfl)), trivial, fun _ => qnone⟩
def te78 : TE := ⟨false, 1, some (.sl true []), .sl 30 1 24 (.sl true []), none⟩
theorem te78_ok : TeOk Try.prog 78 te78 := ⟨by kernel_rfl, by kernel_rfl, (fun _ => zsome (by kernel_rfl)), ⟨by kernel_rfl, by kernel_rfl, ⟨30, by kernel_rfl⟩, by kernel_rfl⟩, fun _ => qnone⟩
def te80 : TE := ⟨false, 1, some (.nilf), .oth, none⟩
theorem te80_ok : TeOk Try.prog 80 te80 := ⟨by kernel_rfl, by kernel_rfl, (fun _ => zsome (by kernel_rfl)), trivial, fun _ => qnone⟩
def te81 : TE := ⟨false, 1, some (.nilf), .oth, none⟩
theorem te81_ok : TeOk Try.prog 81 te81 := ⟨by kernel_rfl, by kernel_rfl, (fun _ => zsome (by kernel_rfl)), trivial, fun _ => qnone⟩
def te82 : TE := ⟨false, 1, some (.nilf), .oth, none⟩
theorem te82_ok : TeOk Try.prog 82 te82 := ⟨by kernel_rfl, by kernel_rfl, (fun _ => zsome (by kernel_rfl)), trivial, fun _ => qnone⟩
def te83 : TE := ⟨false, 1, some (.nilf), .oth, none⟩
theorem te83_ok : TeOk Try.prog 83 te83 := ⟨by kernel_rfl, by kernel_rfl, (fun _ => zsome (by kernel_rfl)), trivial, fun _ => qnone⟩
def te84 : TE := ⟨false, 1, some (.nilf), .oth, none⟩
theorem te84_ok : TeOk Try.prog 84 te84 := ⟨by kernel_rfl, by kernel_rfl, (fun _ => zsome (by kernel_rfl)), trivial, fun _ => qnone⟩
def te85 : TE := ⟨false, 1, some (.nilf), .oth, none⟩
theorem te85_ok : TeOk Try.prog 85 te85 := ⟨by kernel_rfl, by kernel_rfl, (fun _ => zsome (by kernel_rfl)), trivial, fun _ => qnone⟩
def te86 : TE := ⟨true, 2, some (.agg [.int .i64 0, .int .i64 0]), .st [(0, false, 1), (1, false, 1)], some 2⟩
theorem te86_ok : TeOk Try.prog 86 te86 := .st (by kernel_rfl) (by kernel_rfl) (fun _ => zsome (by kernel_rfl)) (by kernel_rfl) ⟨by kernel_rfl, by kernel_rfl, trivial⟩ (by kernel_rfl) (fun _ => qsome (by kernel_rfl))
def te87 : TE := ⟨true, 2, some (.agg [.int .i64 0, .int .i64 0]), .st [(0, false, 1), (1, false, 1)], some 2⟩
theorem te87_ok : TeOk Try.prog 87 te87 := .st (by kernel_rfl) (by kernel_rfl) (fun _ => zsome (by kernel_rfl)) (by kernel_rfl) ⟨by kernel_rfl, by kernel_rfl, trivial⟩ (by kernel_rfl) (fun _ => qsome (by kernel_rfl))
def te89 : TE := ⟨false, 1, some (.nilf), .oth, none⟩
theorem te89_ok : TeOk Try.prog 89 te89 := ⟨by kernel_rfl, by kernel_rfl, (fun _ => zsome (by kernel_rfl)), trivial, fun _ => qnone⟩
def te90 : TE := ⟨false, 1, some (.nilf), .oth, none⟩
theorem te90_ok : TeOk Try.prog 90 te90 := ⟨by kernel_rfl, by kernel_rfl, (fun _ => zsome (by kernel_rfl)), trivial, fun _ => qnone⟩
def te92 : TE := ⟨false, 1, some (.nilf), .oth, none⟩
theorem te92_ok : TeOk Try.prog 92 te92 := ⟨by kernel_rfl, by kernel_rfl, (fun _ => zsome (by kernel_rfl)), trivial, fun _ => qnone⟩
def te93 : TE := ⟨false, 1, some (.nilf), .oth, none⟩
theorem te93_ok : TeOk Try.prog 93 te93 := ⟨by kernel_rfl, by kernel_rfl, (fun _ => zsome (by kernel_rfl)), trivial, fun _ => qnone⟩
def te94 : TE := ⟨false, 1, some (.nilf), .oth, none⟩
theorem te94_ok : TeOk Try.prog 94 te94 := ⟨by kernel_rfl, by kernel_rfl, (fun _ => zsome (by kernel_rfl)), trivial, fun _ => qnone⟩
def te95 : TE := ⟨false, 1, some (.nilf), .oth, none⟩
theorem te95_ok : TeOk Try.prog 95 te95 := ⟨by kernel_rfl, by kernel_rfl, (fun _ => zsome (by kernel_rfl)), trivial, fun _ => qnone⟩
def te96 : TE := ⟨false, 1, some (.nilf), .oth, none⟩
theorem te96_ok : TeOk Try.prog 96 te96 := ⟨by kernel_rfl, by kernel_rfl, (fun _ => zsome (by kernel_rfl)), trivial, fun _ => qnone⟩
def te97 : TE := ⟨false, 1, some (.nilf), .oth, none⟩
theorem te97_ok : TeOk Try.prog 97 te97 := ⟨by kernel_rfl, by kernel_rfl, (fun _ => zsome (by kernel_rfl)), trivial, fun _ => qnone⟩
def te98 : TE := ⟨false, 1, some (.nilf), .oth, none⟩
theorem te98_ok : TeOk Try.prog 98 te98 := ⟨by kernel_rfl, by kernel_rfl, (fun _ => zsome (by kernel_rfl)), trivial, fun _ => qnone⟩
def te100 : TE := ⟨false, 1, some (.nilf), .oth, none⟩
theorem te100_ok : TeOk Try.prog 100 te100 := ⟨by kernel_rfl, by kernel_rfl, (fun _ => zsome (by kernel_rfl)), trivial, fun _ => qnone⟩
def te101 : TE := ⟨false, 1, some (.nilf), .oth, none⟩
theorem te101_ok : TeOk Try.prog 101 te101 := ⟨by kernel_rfl, by kernel_rfl, (fun _ => zsome (by kernel_rfl)), trivial, fun _ => qnone⟩
def te102 : TE := ⟨false, 1, some (.nilf), .oth, none⟩
theorem te102_ok : TeOk Try.prog 102 te102 := ⟨by kernel_rfl, by kernel_rfl, (fun _ => zsome (by kernel_rfl)), trivial, fun _ => qnone⟩
def te103 : TE := ⟨false, 1, some (.nilf), .oth, none⟩
theorem te103_ok : TeOk Try.prog 103 te103 := ⟨by kernel_rfl, by kernel_rfl, (fun _ => zsome (by kernel_rfl)), trivial, fun _ => qnone⟩
def te104 : TE := ⟨false, 1, some (.sl true []), .sl 174 6 48 (.agg [.int .i64 0, .int .i64 0, .int .i64 0, .int .i64 0, .int .i64 0, .int .i64 0]), none⟩
theorem te104_ok : TeOk Try.prog 104 te104 := ⟨by kernel_rfl, by kernel_rfl, (fun _ => zsome (by kernel_rfl)), ⟨by kernel_rfl, by kernel_rfl, ⟨174, by kernel_rfl⟩, by kernel_rfl⟩, fun _ => qnone⟩
def te105 : TE := ⟨false, 1, some (.sl true []), .sl 201 3 24 (.agg [.int .i64 0, .int .i64 0, .int .i64 0]), none⟩
theorem te105_ok : TeOk Try.prog 105 te105 := ⟨by kernel_rfl, by kernel_rfl, (fun _ => zsome (by kernel_rfl)), ⟨by kernel_rfl, by kernel_rfl, ⟨201, by kernel_rfl⟩, by kernel_rfl⟩, fun _ => qnone⟩
def te106 : TE := ⟨true, 5, some (.agg [.int .i64 0, .int .i64 0, .int .i64 0, .sl true [], .sl true []]), .st [(0, false, 1), (1, false, 1), (2, false, 1), (3, false, 1), (4, false, 1)], none⟩
theorem te106_ok : TeOk Try.prog 106 te106 := .st (by kernel_rfl) (by kernel_rfl) (fun _ => zsome (by kernel_rfl)) (by kernel_rfl) ⟨by kernel_rfl, by kernel_rfl, by kernel_rfl, by kernel_rfl, by kernel_rfl, trivial⟩ (by kernel_rfl) (fun _ => qnone)
def te107 : TE := ⟨true, 5, some (.agg [.int .i64 0, .int .i64 0, .int .i64 0, .sl true [], .sl true []]), .st [(0, false, 1), (1, false, 1), (2, false, 1), (3, false, 1), (4, false, 1)], none⟩
theorem te107_ok : TeOk Try.prog 107 te107 := .st (by kernel_rfl) (by kernel_rfl) (fun _ => zsome (by kernel_rfl)) (by kernel_rfl) ⟨by kernel_rfl, by kernel_rfl, by kernel_rfl, by kernel_rfl, by kernel_rfl, trivial⟩ (by kernel_rfl) (fun _ => qnone)
def te108 : TE := ⟨false, 1, some (.sl true []), .sl 176 2 16 (.agg [.int .i64 0, .int .i64 0]), none⟩
theorem te108_ok : TeOk Try.prog 108 te108 := ⟨by kernel_rfl, by kernel_rfl, (fun _ => zsome (by kernel_rfl)), ⟨by kernel_rfl, by kernel_rfl, ⟨176, by kernel_rfl⟩, by kernel_rfl⟩, fun _ => qnone⟩
def te110 : TE := ⟨false, 1, some (.nilf), .oth, none⟩
theorem te110_ok : TeOk Try.prog 110 te110 := ⟨by kernel_rfl, by kernel_rfl, (fun _ => zsome (by kernel_rfl)), trivial, fun _ => qnone⟩
def te111 : TE := ⟨false, 1, some (.nilf), .oth, none⟩
theorem te111_ok : TeOk Try.prog 111 te111 := ⟨by kernel_rfl, by kernel_rfl, (fun _ => zsome (by kernel_rfl)), trivial, fun _ => qnone⟩
def te112 : TE := ⟨true, 2, some (.agg [.int .i64 0, .int .i64 0]), .st [(0, false, 1), (1, false, 1)], some 2⟩
theorem te112_ok : TeOk Try.prog 112 te112 := .st (by kernel_rfl) (by kernel_rfl) (fun _ => zsome (by kernel_rfl)) (by kernel_rfl) ⟨by kernel_rfl, by kernel_rfl, trivial⟩ (by kernel_rfl) (fun _ => qsome (by kernel_rfl))
def te113 : TE := ⟨true, 2, some (.agg [.int .i64 0, .int .i64 0]), .st [(0, false, 1), (1, false, 1)], some 2⟩
theorem te113_ok : TeOk Try.prog 113 te113 := .st (by kernel_rfl) (by kernel_rfl) (fun _ => zsome (by kernel_rfl)) (by kernel_rfl) ⟨by kernel_rfl, by kernel_rfl, trivial⟩ (by kernel_rfl) (fun _ => qsome (by kernel_rfl))
def te114 : TE := ⟨false, 1, some (.nilf), .oth, none⟩
theorem te114_ok : TeOk Try.prog 114 te114 := ⟨by kernel_rfl, by kernel_rfl, (fun _ => zsome (by kernel_rfl)), trivial, fun _ => qnone⟩
def te115 : TE := ⟨false, 1, some (.nilf), .oth, none⟩
theorem te115_ok : TeOk Try.prog 115 te115 := ⟨by kernel_rfl, by kernel_rfl, (fun _ => zsome (by kernel_rfl)), trivial, fun _ => qnone⟩
def te116 : TE := ⟨false, 1, some (.nilf), .oth, none⟩
theorem te116_ok : TeOk Try.prog 116 te116 := ⟨by kernel_rfl, by kernel_rfl, (fun _ => zsome (by kernel_rfl)), trivial, fun _ => qnone⟩
def te117 : TE := ⟨false, 1, some (.nilf), .oth, none⟩
theorem te117_ok : TeOk Try.prog 117 te117 := ⟨by kernel_rfl, by kernel_rfl, (fun _ => zsome (by kernel_rfl)), trivial, fun _ => qnone⟩
def te118 : TE := ⟨true, 2, some (.agg [.int .i64 0, .int .i64 0]), .ar 2 false 1, some 2⟩
theorem te118_ok : TeOk Try.prog 118 te118 := .ar (by kernel_rfl) (by kernel_rfl) (fun _ => zsome (by kernel_rfl)) (el := 3) (by kernel_rfl) (by kernel_rfl) (by kernel_rfl) (fun _ => qsome (by kernel_rfl))
def te119 : TE := ⟨false, 1, some (.nilf), .oth, none⟩
theorem te119_ok : TeOk Try.prog 119 te119 := ⟨by kernel_rfl, by kernel_rfl, (fun _ => zsome (by kernel_rfl)), trivial, fun _ => qnone⟩
def te120 : TE := ⟨false, 1, some (.nilf), .oth, none⟩
theorem te120_ok : TeOk Try.prog 120 te120 := ⟨by kernel_rfl, by kernel_rfl, (fun _ => zsome (by kernel_rfl)), trivial, fun _ => qnone⟩
def te121 : TE := ⟨false, 1, some (.nilf), .oth, none⟩
theorem te121_ok : TeOk Try.prog 121 te121 := ⟨by kernel_rfl, by kernel_rfl, (fun _ => zsome (by kernel_rfl)), trivial, fun _ => qnone⟩
def te122 : TE := ⟨false, 1, some (.nilm), .mp (.int .i64 0), none⟩
theorem te122_ok : TeOk Try.prog 122 te122 := ⟨by kernel_rfl, by kernel_rfl, (fun _ => zsome (by kernel_rfl)), show mapT Try.prog 122 = some (.int .i64 0) by kernel_rfl, fun _ => qnone⟩
def te123 : TE := ⟨false, 1, some (.sl true []), .sl 24 1 24 (.sl true []), none⟩
theorem te123_ok : TeOk Try.prog 123 te123 := ⟨by kernel_rfl, by kernel_rfl, (fun _ => zsome (by kernel_rfl)), ⟨by kernel_rfl, by kernel_rfl, ⟨24, by kernel_rfl⟩, by kernel_rfl⟩, fun _ => qnone⟩
def te125 : TE := ⟨false, 1, some (.nilf), .oth, none⟩
theorem te125_ok : TeOk Try.prog 125 te125 := ⟨by kernel_rfl, by kernel_rfl, (fun _ => zsome (by kernel_rfl)), trivial, fun _ => qnone⟩
def te126 : TE := ⟨false, 1, some (.int .u32 0), .int .u32, none⟩
theorem te126_ok : TeOk Try.prog 126 te126 := ⟨by kernel_rfl, by kernel_rfl, (fun _ => zsome (by kernel_rfl)), show Try.prog.underlying 126 = some (.int .u32) by kernel_rfl, fun _ => qnone⟩
def te127 : TE := ⟨true, 3, some (.agg [.sl true [], .int .i64 0, .int .u32 0]), .st [(0, false, 1), (1, false, 1), (2, false, 1)], none⟩
theorem te127_ok : TeOk Try.prog 127 te127 := .st (by kernel_rfl) (by kernel_rfl) (fun _ => zsome (by kernel_rfl)) (by kernel_rfl) ⟨by kernel_rfl, by kernel_rfl, by kernel_rfl, trivial⟩ (by kernel_rfl) (fun _ => qnone)
def te128 : TE := ⟨true, 3, some (.agg [.sl true [], .int .i64 0, .int .u32 0]), .st [(0, false, 1), (1, false, 1), (2, false, 1)], none⟩
theorem te128_ok : TeOk Try.prog 128 te128 := .st (by kernel_rfl) (by kernel_rfl) (fun _ => zsome (by kernel_rfl)) (by kernel_rfl) ⟨by kernel_rfl, by kernel_rfl, by kernel_rfl, trivial⟩ (by kernel_rfl) (fun _ => qnone)
def te129 : TE := ⟨false, 1, some (.nilp), .oth, none⟩
theorem te129_ok : TeOk Try.prog 129 te129 := ⟨by kernel_rfl, by kernel_rfl, (fun _ => zsome (by kernel_rfl)), trivial, fun _ => qnone⟩
def te131 : TE := ⟨false, 1, some (.nilf), .oth, none⟩
theorem te131_ok : TeOk Try.prog 131 te131 := ⟨by kernel_rfl, by kernel_rfl, (fun _ => zsome (by kernel_rfl)), trivial, fun _ => qnone⟩
def te132 : TE := ⟨true, 1, some (.agg [.nilf]), .st [(0, false, 1)], none⟩
theorem te132_ok : TeOk Try.prog 132 te132 := .st (by kernel_rfl) (by kernel_rfl) (fun _ => zsome (by kernel_rfl)) (by kernel_rfl) ⟨by kernel_rfl, trivial⟩ (by kernel_rfl) (fun _ => qnone)
def te133 : TE := ⟨true, 1, some (.agg [.nilf]), .st [(0, false, 1)], none⟩
theorem te133_ok : TeOk Try.prog 133 te133 := .st (by kernel_rfl) (by kernel_rfl) (fun _ => zsome (by kernel_rfl)) (by kernel_rfl) ⟨by kernel_rfl, trivial⟩ (by kernel_rfl) (fun _ => qnone)
def te134 : TE := ⟨false, 1, some (.nilf), .oth, none⟩
theorem te134_ok : TeOk Try.prog 134 te134 := ⟨by kernel_rfl, by kernel_rfl, (fun _ => zsome (by kernel_rfl)), trivial, fun _ => qnone⟩
def te135 : TE := ⟨false, 1, some (.nilf), .oth, none⟩
theorem te135_ok : TeOk Try.prog 135 te135 := ⟨by kernel_rfl, by kernel_rfl, (fun _ => zsome (by kernel_rfl)), trivial, fun _ => qnone⟩
def te136 : TE := ⟨false, 1, some (.nilf), .oth, none⟩
theorem te136_ok : TeOk Try.prog 136 te136 := ⟨by kernel_rfl, by kernel_rfl, (fun _ => zsome (by kernel_rfl)), trivial, fun _ => qnone⟩
def te137 : TE := ⟨false, 1, some (.nilf), .oth, none⟩
theorem te137_ok : TeOk Try.prog 137 te137 := ⟨by kernel_rfl, by kernel_rfl, (fun _ => zsome (by kernel_rfl)), trivial, fun _ => qnone⟩
def te138 : TE := ⟨false, 1, some (.nilf), .oth, none⟩
theorem te138_ok : TeOk Try.prog 138 te138 := ⟨by kernel_rfl, by kernel_rfl, (fun _ => zsome (by kernel_rfl)), trivial, fun _ => qnone⟩
def te139 : TE := ⟨false, 1, some (.nilf), .oth, none⟩
theorem te139_ok : TeOk Try.prog 139 te139 := ⟨by kernel_rfl, by kernel_rfl, (fun _ => zsome (by kernel_rfl)), trivial, fun _ => qnone⟩
def te140 : TE := ⟨false, 1, some (.nilf), .oth, none⟩
theorem te140_ok : TeOk Try.prog 140 te140 := ⟨by kernel_rfl, by kernel_rfl, (fun _ => zsome (by kernel_rfl)), trivial, fun _ => qnone⟩
def te141 : TE := ⟨false, 1, some (.nilf), .oth, none⟩
theorem te141_ok : TeOk Try.prog 141 te141 := ⟨by kernel_rfl, by kernel_rfl, (fun _ => zsome (by kernel_rfl)), trivial, fun _ => qnone⟩
def te142 : TE := ⟨false, 1, some (.nilf), .oth, none⟩
theorem te142_ok : TeOk Try.prog 142 te142 := ⟨by kernel_rfl, by kernel_rfl, (fun _ => zsome (by kernel_rfl)), trivial, fun _ => qnone⟩
def te143 : TE := ⟨false, 1, some (.nilf), .oth, none⟩
theorem te143_ok : TeOk Try.prog 143 te143 := ⟨by kernel_rfl, by kernel_rfl, (fun _ => zsome (by kernel_rfl)), trivial, fun _ => qnone⟩
def te144 : TE := ⟨false, 1, some (.nilf), .oth, none⟩
theorem te144_ok : TeOk Try.prog 144 te144 := ⟨by kernel_rfl, by kernel_rfl, (fun _ => zsome (by kernel_rfl)), trivial, fun _ => qnone⟩
def te145 : TE := ⟨false, 1, some (.nilf), .oth, none⟩
theorem te145_ok : TeOk Try.prog 145 te145 := ⟨by kernel_rfl, by kernel_rfl, (fun _ => zsome (by kernel_rfl)), trivial, fun _ => qnone⟩
def te146 : TE := ⟨false, 1, some (.nilf), .oth, none⟩
theorem te146_ok : TeOk Try.prog 146 te146 := ⟨by kernel_rfl, by kernel_rfl, (fun _ => zsome (by kernel_rfl)), trivial, fun _ => qnone⟩
def te147 : TE := ⟨true, 2, some (.agg [.int .i64 0, .int .i64 0]), .st [(0, false, 1), (1, false, 1)], some 2⟩
theorem te147_ok : TeOk Try.prog 147 te147 := .st (by kernel_rfl) (by kernel_rfl) (fun _ => zsome (by kernel_rfl)) (by kernel_rfl) ⟨by kernel_rfl, by kernel_rfl, trivial⟩ (by kernel_rfl) (fun _ => qsome (by kernel_rfl))
def te148 : TE := ⟨true, 2, some (.agg [.int .i64 0, .int .i64 0]), .st [(0, false, 1), (1, false, 1)], some 2⟩
theorem te148_ok : TeOk Try.prog 148 te148 := .st (by kernel_rfl) (by kernel_rfl) (fun _ => zsome (by kernel_rfl)) (by kernel_rfl) ⟨by kernel_rfl, by kernel_rfl, trivial⟩ (by kernel_rfl) (fun _ => qsome (by kernel_rfl))
def te149 : TE := ⟨false, 1, some (.nilf), .oth, none⟩
theorem te149_ok : TeOk Try.prog 149 te149 := ⟨by kernel_rfl, by kernel_rfl, (fun _ => zsome (by kernel_rfl)), trivial, fun _ => qnone⟩
def te150 : TE := ⟨false, 1, some (.nilf), .oth, none⟩
theorem te150_ok : TeOk Try.prog 150 te150 := ⟨by kernel_rfl, by kernel_rfl, (fun _ => zsome (by kernel_rfl)), trivial, fun _ => qnone⟩
def te151 : TE := ⟨false, 1, some (.nilf), .oth, none⟩
theorem te151_ok : TeOk Try.prog 151 te151 := ⟨by kernel_rfl, by kernel_rfl, (fun _ => zsome (by kernel_rfl)), trivial, fun _ => qnone⟩
def te152 : TE := ⟨true, 2, some (.agg [.int .i64 0, .int .i64 0]), .st [(0, false, 1), (1, false, 1)], some 2⟩
theorem te152_ok : TeOk Try.prog 152 te152 := .st (by kernel_rfl) (by kernel_rfl) (fun _ => zsome (by kernel_rfl)) (by kernel_rfl) ⟨by kernel_rfl, by kernel_rfl, trivial⟩ (by kernel_rfl) (fun _ => qsome (by kernel_rfl))
def te153 : TE := ⟨false, 1, some (.nilf), .oth, none⟩
theorem te153_ok : TeOk Try.prog 153 te153 := ⟨by kernel_rfl, by kernel_rfl, (fun _ => zsome (by kernel_rfl)), trivial, fun _ => qnone⟩
def te154 : TE := ⟨true, 9, some (.agg [.int .i64 0, .int .i64 0, .int .i64 0, .int .i64 0, .int .i64 0, .int .i64 0, .int .i64 0, .int .i64 0, .int .i64 0]), .ar 9 false 1, some 9⟩
theorem te154_ok : TeOk Try.prog 154 te154 := .ar (by kernel_rfl) (by kernel_rfl) (fun _ => zsome (by kernel_rfl)) (el := 3) (by kernel_rfl) (by kernel_rfl) (by kernel_rfl) (fun _ => qsome (by kernel_rfl))
def te155 : TE := ⟨false, 1, some (.nilf), .oth, none⟩
theorem te155_ok : TeOk Try.prog 155 te155 := ⟨by kernel_rfl, by kernel_rfl, (fun _ => zsome (by kernel_rfl)), trivial, fun _ => qnone⟩
def te156 : TE := ⟨false, 1, some (.nilf), .oth, none⟩
theorem te156_ok : TeOk Try.prog 156 te156 := ⟨by kernel_rfl, by kernel_rfl, (fun _ => zsome (by kernel_rfl)), trivial, fun _ => qnone⟩
def te157 : TE := ⟨false, 1, some (.nilf), .oth, none⟩
theorem te157_ok : TeOk Try.prog 157 te157 := ⟨by kernel_rfl, by kernel_rfl, (fun _ => zsome (by kernel_rfl)), trivial, fun _ => qnone⟩
def te158 : TE := ⟨true, 512, some (.agg (List.replicate 512 (.int .i64 0))), .ar 512 false 1, some 512⟩
theorem te158_ok : TeOk Try.prog 158 te158 := .ar (by kernel_rfl) (by kernel_rfl) (fun _ => zsome (by kernel_rfl)) (el := 3) (by kernel_rfl) (by kernel_rfl) (by kernel_rfl) (fun _ => qsome (by kernel_rfl))
def te159 : TE := ⟨true, 9, some (.agg [.int .i64 0, .int .i64 0, .int .i64 0, .int .i64 0, .int .i64 0, .int .i64 0, .int .i64 0, .int .i64 0, .int .i64 0]), .ar 9 false 1, some 9⟩
theorem te159_ok : TeOk Try.prog 159 te159 := .ar (by kernel_rfl) (by kernel_rfl) (fun _ => zsome (by kernel_rfl)) (el := 3) (by kernel_rfl) (by kernel_rfl) (by kernel_rfl) (fun _ => qsome (by kernel_rfl))
def te160 : TE := ⟨true, 526, some (.agg ([.int .i64 0, .int .i64 0, .sl true [], .sl true [], .sl true []] ++ List.replicate 521 (.int .i64 0))), .st [(0, true, 5), (5, true, 512), (517, true, 9)], none⟩
theorem te160_ok : TeOk Try.prog 160 te160 := .st (by kernel_rfl) (by kernel_rfl) (fun _ => zsome (by kernel_rfl)) (by kernel_rfl) ⟨by kernel_rfl, by kernel_rfl, by kernel_rfl, trivial⟩ (by kernel_rfl) (fun _ => qnone)
def te161 : TE := ⟨true, 526, some (.agg ([.int .i64 0, .int .i64 0, .sl true [], .sl true [], .sl true []] ++ List.replicate 521 (.int .i64 0))), .st [(0, true, 5), (5, true, 512), (517, true, 9)], none⟩
theorem te161_ok : TeOk Try.prog 161 te161 := .st (by kernel_rfl) (by kernel_rfl) (fun _ => zsome (by kernel_rfl)) (by kernel_rfl) ⟨by kernel_rfl, by kernel_rfl, by kernel_rfl, trivial⟩ (by kernel_rfl) (fun _ => qnone)
def te162 : TE := ⟨false, 1, some (.nilf), .oth, none⟩
theorem te162_ok : TeOk Try.prog 162 te162 := ⟨by kernel_rfl, by kernel_rfl, (fun _ => zsome (by kernel_rfl)), trivial, fun _ => qnone⟩
def te163 : TE := ⟨false, 1, some (.nilf), .oth, none⟩
theorem te163_ok : TeOk Try.prog 163 te163 := ⟨by kernel_rfl, by kernel_rfl, (fun _ => zsome (by kernel_rfl)), trivial, fun _ => qnone⟩
def te164 : TE := ⟨false, 1, some (.nilf), .oth, none⟩
theorem te164_ok : TeOk Try.prog 164 te164 := ⟨by kernel_rfl, by kernel_rfl, (fun _ => zsome (by kernel_rfl)), trivial, fun _ => qnone⟩
def te165 : TE := ⟨false, 1, some (.sl true []), .sl 148 2 16 (.agg [.int .i64 0, .int .i64 0]), none⟩
theorem te165_ok : TeOk Try.prog 165 te165 := ⟨by kernel_rfl, by kernel_rfl, (fun _ => zsome (by kernel_rfl)), ⟨by kernel_rfl, by kernel_rfl, ⟨148, by kernel_rfl⟩, by kernel_rfl⟩, fun _ => qnone⟩
def te166 : TE := ⟨false, 1, some (.nilf), .oth, none⟩
theorem te166_ok : TeOk Try.prog 166 te166 := ⟨by kernel_rfl, by kernel_rfl, (fun _ => zsome (by kernel_rfl)), trivial, fun _ => qnone⟩
def te167 : TE := ⟨false, 1, some (.nilf), .oth, none⟩
theorem te167_ok : TeOk Try.prog 167 te167 := ⟨by kernel_rfl, by kernel_rfl, (fun _ => zsome (by kernel_rfl)), trivial, fun _ => qnone⟩
def te168 : TE := ⟨false, 1, some (.nilf), .oth, none⟩
theorem te168_ok : TeOk Try.prog 168 te168 := ⟨by kernel_rfl, by kernel_rfl, (fun _ => zsome (by kernel_rfl)), trivial, fun _ => qnone⟩
def te169 : TE := ⟨false, 1, some (.nilf), .oth, none⟩
theorem te169_ok : TeOk Try.prog 169 te169 := ⟨by kernel_rfl, by kernel_rfl, (fun _ => zsome (by kernel_rfl)), trivial, fun _ => qnone⟩
def te170 : TE := ⟨false, 1, some (.nilf), .oth, none⟩
theorem te170_ok : TeOk Try.prog 170 te170 := ⟨by kernel_rfl, by kernel_rfl, (fun _ => zsome (by kernel_rfl)), trivial, fun _ => qnone⟩
def te171 : TE := ⟨true, 2, some (.agg [.int .i64 0, .int .i64 0]), .st [(0, false, 1), (1, false, 1)], some 2⟩
theorem te171_ok : TeOk Try.prog 171 te171 := .st (by kernel_rfl) (by kernel_rfl) (fun _ => zsome (by kernel_rfl)) (by kernel_rfl) ⟨by kernel_rfl, by kernel_rfl, trivial⟩ (by kernel_rfl) (fun _ => qsome (by kernel_rfl))
def te172 : TE := ⟨true, 2, some (.agg [.int .i64 0, .int .i64 0]), .st [(0, false, 1), (1, false, 1)], some 2⟩
theorem te172_ok : TeOk Try.prog 172 te172 := .st (by kernel_rfl) (by kernel_rfl) (fun _ => zsome (by kernel_rfl)) (by kernel_rfl) ⟨by kernel_rfl, by kernel_rfl, trivial⟩ (by kernel_rfl) (fun _ => qsome (by kernel_rfl))
def te173 : TE := ⟨true, 6, some (.agg [.int .i64 0, .int .i64 0, .int .i64 0, .int .i64 0, .int .i64 0, .int .i64 0]), .st [(0, false, 1), (1, false, 1), (2, true, 2), (4, true, 2)], none⟩
theorem te173_ok : TeOk Try.prog 173 te173 := .st (by kernel_rfl) (by kernel_rfl) (fun _ => zsome (by kernel_rfl)) (by kernel_rfl) ⟨by kernel_rfl, by kernel_rfl, by kernel_rfl, by kernel_rfl, trivial⟩ (by kernel_rfl) (fun _ => qnone)
def te174 : TE := ⟨true, 6, some (.agg [.int .i64 0, .int .i64 0, .int .i64 0, .int .i64 0, .int .i64 0, .int .i64 0]), .st [(0, false, 1), (1, false, 1), (2, true, 2), (4, true, 2)], none⟩
theorem te174_ok : TeOk Try.prog 174 te174 := .st (by kernel_rfl) (by kernel_rfl) (fun _ => zsome (by kernel_rfl)) (by kernel_rfl) ⟨by kernel_rfl, by kernel_rfl, by kernel_rfl, by kernel_rfl, trivial⟩ (by kernel_rfl) (fun _ => qnone)
def te175 : TE := ⟨true, 2, some (.agg [.int .i64 0, .int .i64 0]), .st [(0, false, 1), (1, false, 1)], some 2⟩
theorem te175_ok : TeOk Try.prog 175 te175 := .st (by kernel_rfl) (by kernel_rfl) (fun _ => zsome (by kernel_rfl)) (by kernel_rfl) ⟨by kernel_rfl, by kernel_rfl, trivial⟩ (by kernel_rfl) (fun _ => qsome (by kernel_rfl))
def te176 : TE := ⟨true, 2, some (.agg [.int .i64 0, .int .i64 0]), .st [(0, false, 1), (1, false, 1)], some 2⟩
theorem te176_ok : TeOk Try.prog 176 te176 := .st (by kernel_rfl) (by kernel_rfl) (fun _ => zsome (by kernel_rfl)) (by kernel_rfl) ⟨by kernel_rfl, by kernel_rfl, trivial⟩ (by kernel_rfl) (fun _ => qsome (by kernel_rfl))
def te177 : TE := ⟨false, 1, some (.nilf), .oth, none⟩
theorem te177_ok : TeOk Try.prog 177 te177 := ⟨by kernel_rfl, by kernel_rfl, (fun _ => zsome (by kernel_rfl)), trivial, fun _ => qnone⟩
def te178 : TE := ⟨false, 1, some (.nilp), .oth, none⟩
theorem te178_ok : TeOk Try.prog 178 te178 := ⟨by kernel_rfl, by kernel_rfl, (fun _ => zsome (by kernel_rfl)), trivial, fun _ => qnone⟩
def te180 : TE := ⟨false, 1, some (.nilf), .oth, none⟩
theorem te180_ok : TeOk Try.prog 180 te180 := ⟨by kernel_rfl, by kernel_rfl, (fun _ => zsome (by kernel_rfl)), trivial, fun _ => qnone⟩
def te181 : TE := ⟨false, 1, some (.sl true []), .sl 182 121 968 (.agg (List.replicate 121 (.int .i64 0))), none⟩
theorem te181_ok : TeOk Try.prog 181 te181 := ⟨by kernel_rfl, by kernel_rfl, (fun _ => zsome (by kernel_rfl)), ⟨by kernel_rfl, by kernel_rfl, ⟨182, by kernel_rfl⟩, by kernel_rfl⟩, fun _ => qnone⟩
def te182 : TE := ⟨true, 121, some (.agg (List.replicate 121 (.int .i64 0))), .ar 121 false 1, some 121⟩
theorem te182_ok : TeOk Try.prog 182 te182 := .ar (by kernel_rfl) (by kernel_rfl) (fun _ => zsome (by kernel_rfl)) (el := 3) (by kernel_rfl) (by kernel_rfl) (by kernel_rfl) (fun _ => qsome (by kernel_rfl))
def te183 : TE := ⟨false, 1, some (.nilf), .oth, none⟩
theorem te183_ok : TeOk Try.prog 183 te183 := ⟨by kernel_rfl, by kernel_rfl, (fun _ => zsome (by kernel_rfl)), trivial, fun _ => qnone⟩
def te184 : TE := ⟨false, 1, some (.nilm), .mp (.sl true []), none⟩
theorem te184_ok : TeOk Try.prog 184 te184 := ⟨by kernel_rfl, by kernel_rfl, (fun _ => zsome (by kernel_rfl)), show mapT Try.prog 184 = some (.sl true []) by kernel_rfl, fun _ => qnone⟩
def te185 : TE := ⟨true, 6, some (.agg [.int .i64 0, .int .i64 0, .int .i64 0, .sl true [], .sl true [], .nilm]), .st [(0, true, 5), (5, false, 1)], none⟩
theorem te185_ok : TeOk Try.prog 185 te185 := .st (by kernel_rfl) (by kernel_rfl) (fun _ => zsome (by kernel_rfl)) (by kernel_rfl) ⟨by kernel_rfl, by kernel_rfl, trivial⟩ (by kernel_rfl) (fun _ => qnone)
def te186 : TE := ⟨true, 6, some (.agg [.int .i64 0, .int .i64 0, .int .i64 0, .sl true [], .sl true [], .nilm]), .st [(0, true, 5), (5, false, 1)], none⟩
theorem te186_ok : TeOk Try.prog 186 te186 := .st (by kernel_rfl) (by kernel_rfl) (fun _ => zsome (by kernel_rfl)) (by kernel_rfl) ⟨by kernel_rfl, by kernel_rfl, trivial⟩ (by kernel_rfl) (fun _ => qnone)
def te187 : TE := ⟨false, 1, some (.nilf), .oth, none⟩
theorem te187_ok : TeOk Try.prog 187 te187 := ⟨by kernel_rfl, by kernel_rfl, (fun _ => zsome (by kernel_rfl)), trivial, fun _ => qnone⟩
def te188 : TE := ⟨false, 1, some (.nilf), .oth, none⟩
theorem te188_ok : TeOk Try.prog 188 te188 := ⟨by kernel_rfl, by kernel_rfl, (fun _ => zsome (by kernel_rfl)), trivial, fun _ => qnone⟩
def te189 : TE := ⟨false, 1, some (.nilf), .oth, none⟩
theorem te189_ok : TeOk Try.prog 189 te189 := ⟨by kernel_rfl, by kernel_rfl, (fun _ => zsome (by kernel_rfl)), trivial, fun _ => qnone⟩
def te190 : TE := ⟨false, 1, some (.nilf), .oth, none⟩
theorem te190_ok : TeOk Try.prog 190 te190 := ⟨by kernel_rfl, by kernel_rfl, (fun _ => zsome (by kernel_rfl)), trivial, fun _ => qnone⟩
def te191 : TE := ⟨false, 1, some (.nilf), .oth, none⟩
theorem te191_ok : TeOk Try.prog 191 te191 := ⟨by kernel_rfl, by kernel_rfl, (fun _ => zsome (by kernel_rfl)), trivial, fun _ => qnone⟩
def te192 : TE := ⟨false, 1, some (.nilf), .oth, none⟩
theorem te192_ok : TeOk Try.prog 192 te192 := ⟨by kernel_rfl, by kernel_rfl, (fun _ => zsome (by kernel_rfl)), trivial, fun _ => qnone⟩
def te193 : TE := ⟨false, 1, some (.nilf), .oth, none⟩
theorem te193_ok : TeOk Try.prog 193 te193 := ⟨by kernel_rfl, by kernel_rfl, (fun _ => zsome (by kernel_rfl)), trivial, fun _ => qnone⟩
def te194 : TE := ⟨false, 1, some (.int .u64 0), .int .u64, none⟩
theorem te194_ok : TeOk Try.prog 194 te194 := ⟨by kernel_rfl, by kernel_rfl, (fun _ => zsome (by kernel_rfl)), show Try.prog.underlying 194 = some (.int .u64) by kernel_rfl, fun _ => qnone⟩
def te195 : TE := ⟨false, 1, some (.nilf), .oth, none⟩
theorem te195_ok : TeOk Try.prog 195 te195 := ⟨by kernel_rfl, by kernel_rfl, (fun _ => zsome (by kernel_rfl)), trivial, fun _ => qnone⟩
def te196 : TE := ⟨false, 1, some (.nilf), .oth, none⟩
theorem te196_ok : TeOk Try.prog 196 te196 := ⟨by kernel_rfl, by kernel_rfl, (fun _ => zsome (by kernel_rfl)), trivial, fun _ => qnone⟩
def te197 : TE := ⟨false, 1, some (.nilf), .oth, none⟩
theorem te197_ok : TeOk Try.prog 197 te197 := ⟨by kernel_rfl, by kernel_rfl, (fun _ => zsome (by kernel_rfl)), trivial, fun _ => qnone⟩
def te198 : TE := ⟨false, 1, some (.nilf), .oth, none⟩
theorem te198_ok : TeOk Try.prog 198 te198 := ⟨by kernel_rfl, by kernel_rfl, (fun _ => zsome (by kernel_rfl)), trivial, fun _ => qnone⟩
def te199 : TE := ⟨false, 1, some (.nilf), .oth, none⟩
theorem te199_ok : TeOk Try.prog 199 te199 := ⟨by kernel_rfl, by kernel_rfl, (fun _ => zsome (by kernel_rfl)), trivial, fun _ => qnone⟩
def te200 : TE := ⟨true, 3, some (.agg [.int .i64 0, .int .i64 0, .int .i64 0]), .st [(0, false, 1), (1, true, 2)], none⟩
theorem te200_ok : TeOk Try.prog 200 te200 := .st (by kernel_rfl) (by kernel_rfl) (fun _ => zsome (by kernel_rfl)) (by kernel_rfl) ⟨by kernel_rfl, by kernel_rfl, trivial⟩ (by kernel_rfl) (fun _ => qnone)
def te201 : TE := ⟨true, 3, some (.agg [.int .i64 0, .int .i64 0, .int .i64 0]), .st [(0, false, 1), (1, true, 2)], none⟩
theorem te201_ok : TeOk Try.prog 201 te201 := .st (by kernel_rfl) (by kernel_rfl) (fun _ => zsome (by kernel_rfl)) (by kernel_rfl) ⟨by kernel_rfl, by kernel_rfl, trivial⟩ (by kernel_rfl) (fun _ => qnone)
def te202 : TE := ⟨false, 1, some (.nilf), .oth, none⟩
theorem te202_ok : TeOk Try.prog 202 te202 := ⟨by kernel_rfl, by kernel_rfl, (fun _ => zsome (by kernel_rfl)), trivial, fun _ => qnone⟩
def te203 : TE := ⟨false, 1, some (.nilf), .oth, none⟩
theorem te203_ok : TeOk Try.prog 203 te203 := ⟨by kernel_rfl, by kernel_rfl, (fun _ => zsome (by kernel_rfl)), trivial, fun _ => qnone⟩
def te204 : TE := ⟨false, 1, some (.nilf), .oth, none⟩
theorem te204_ok : TeOk Try.prog 204 te204 := ⟨by kernel_rfl, by kernel_rfl, (fun _ => zsome (by kernel_rfl)), trivial, fun _ => qnone⟩
def te205 : TE := ⟨false, 1, some (.nilf), .oth, none⟩
theorem te205_ok : TeOk Try.prog 205 te205 := ⟨by kernel_rfl, by kernel_rfl, (fun _ => zsome (by kernel_rfl)), trivial, fun _ => qnone⟩
def te206 : TE := ⟨false, 1, some (.nilf), .oth, none⟩
theorem te206_ok : TeOk Try.prog 206 te206 := ⟨by kernel_rfl, by kernel_rfl, (fun _ => zsome (by kernel_rfl)), trivial, fun _ => qnone⟩
def te207 : TE := ⟨false, 1, some (.nilf), .oth, none⟩
theorem te207_ok : TeOk Try.prog 207 te207 := ⟨by kernel_rfl, by kernel_rfl, (fun _ => zsome (by kernel_rfl)), trivial, fun _ => qnone⟩
def te208 : TE := ⟨false, 1, some (.nilf), .oth, none⟩
theorem te208_ok : TeOk Try.prog 208 te208 := ⟨by kernel_rfl, by kernel_rfl, (fun _ => zsome (by kernel_rfl)), trivial, fun _ => qnone⟩
def te209 : TE := ⟨false, 1, some (.nilf), .oth, none⟩
theorem te209_ok : TeOk Try.prog 209 te209 := ⟨by kernel_rfl, by kernel_rfl, (fun _ => zsome (by kernel_rfl)), trivial, fun _ => qnone⟩
def te210 : TE := ⟨false, 1, some (.nilf), .oth, none⟩
theorem te210_ok : TeOk Try.prog 210 te210 := ⟨by kernel_rfl, by kernel_rfl, (fun _ => zsome (by kernel_rfl)), trivial, fun _ => qnone⟩
def te211 : TE := ⟨true, 4, none, .st [(0, false, 1), (1, false, 1), (2, false, 1), (3, false, 1)], none⟩
theorem te211_ok : TeOk Try.prog 211 te211 := .st (by kernel_rfl) (by kernel_rfl) (fun _ => znone) (by kernel_rfl) ⟨by kernel_rfl, by kernel_rfl, by kernel_rfl, by kernel_rfl, trivial⟩ (by kernel_rfl) (fun _ => qnone)
def te213 : TE := ⟨true, 0, some (.agg []), .ar 0 false 1, none⟩
theorem te213_ok : TeOk Try.prog 213 te213 := .ar (by kernel_rfl) (by kernel_rfl) (fun _ => zsome (by kernel_rfl)) (el := 16) (by kernel_rfl) (by kernel_rfl) (by kernel_rfl) (fun _ => qnone)
def te214 : TE := ⟨true, 0, some (.agg []), .st [(0, true, 0)], none⟩
theorem te214_ok : TeOk Try.prog 214 te214 := .st (by kernel_rfl) (by kernel_rfl) (fun _ => zsome (by kernel_rfl)) (by kernel_rfl) ⟨by kernel_rfl, trivial⟩ (by kernel_rfl) (fun _ => qnone)
def te218 : TE := ⟨false, 1, some (.nilf), .oth, none⟩
theorem te218_ok : TeOk Try.prog 218 te218 := ⟨by kernel_rfl, by kernel_rfl, (fun _ => zsome (by kernel_rfl)), trivial, fun _ => qnone⟩
def te219 : TE := ⟨false, 1, some (.nilp), .oth, none⟩
theorem te219_ok : TeOk Try.prog 219 te219 := ⟨by kernel_rfl, by kernel_rfl, (fun _ => zsome (by kernel_rfl)), trivial, fun _ => qnone⟩
def te222 : TE := ⟨true, 11, some (.agg [.int .u64 0, .int .u64 0, .int .u32 0, .int .u8 0, .int .u8 0, .int .u8 0, .int .u8 0, .nilf, .nilp, .int .i32 0, .int .i32 0]), .st [(0, false, 1), (1, false, 1), (2, false, 1), (3, false, 1), (4, false, 1), (5, false, 1), (6, false, 1), (7, false, 1), (8, false, 1), (9, false, 1), (10, false, 1)], none⟩
theorem te222_ok : TeOk Try.prog 222 te222 := .st (by kernel_rfl) (by kernel_rfl) (fun _ => zsome (by kernel_rfl)) (by kernel_rfl) ⟨by kernel_rfl, by kernel_rfl, by kernel_rfl, by kernel_rfl, by kernel_rfl, by kernel_rfl, by kernel_rfl, by kernel_rfl, by kernel_rfl, by kernel_rfl, by kernel_rfl, trivial⟩ (by kernel_rfl) (fun _ => qnone)
def tab : Tab := [none, some te1, some te2, some te3, some te4, some te5, none, some te7, none, none, none, none, some te12, some te13, none, none, none, none, some te18, none, none, some te21, some te22, some te23, some te24, some te25, some te26, some te27, some te28, some te29, some te30, some te31, none, some te33, some te34, some te35, some te36, some te37, none, some te39, some te40, some te41, some te42, some te43, some te44, none, some te46, none, some te48, some te49, some te50, none, some te52, some te53, none, some te55, some te56, some te57, some te58, some te59, some te60, some te61, some te62, some te63, some te64, some te65, some te66, some te67, some te68, some te69, some te70, some te71, some te72, some te73, some te74, some te75, some te76, some te77, some te78, none, some te80, some te81, some te82, some te83, some te84, some te85, some te86, some te87, none, some te89, some te90, none, some te92, some te93, some te94, some te95, some te96, some te97, some te98, none, some te100, some te101, some te102, some te103, some te104, some te105, some te106, some te107, some te108, none, some te110, some te111, some te112, some te113, some te114, some te115, some te116, some te117, some te118, some te119, some te120, some te121, some te122, some te123, none, some te125, some te126, some te127, some te128, some te129, none, some te131, some te132, some te133, some te134, some te135, some te136, some te137, some te138, some te139, some te140, some te141, some te142, some te143, some te144, some te145, some te146, some te147, some te148, some te149, some te150, some te151, some te152, some te153, some te154, some te155, some te156, some te157, some te158, some te159, some te160, some te161, some te162, some te163, some te164, some te165, some te166, some te167, some te168, some te169, some te170, some te171, some te172, some te173, some te174, some te175, some te176, some te177, some te178, none, some te180, some te181, some te182, some te183, some te184, some te185, some te186, some te187, some te188, some te189, some te190, some te191, some te192, some te193, some te194, some te195, some te196, some te197, some te198, some te199, some te200, some te201, some te202, some te203, some te204, some te205, some te206, some te207, some te208, some te209, some te210, some te211, none, some te213, some te214, none, none, none, some te218, some te219, none, none, some te222]
theorem tab_ok : TabOk Try.prog tab := ⟨te1_ok, te2_ok, te3_ok, te4_ok, te5_ok, te7_ok, te12_ok, te13_ok, te18_ok, te21_ok, te22_ok, te23_ok, te24_ok, te25_ok, te26_ok, te27_ok, te28_ok, te29_ok, te30_ok, te31_ok, te33_ok, te34_ok, te35_ok, te36_ok, te37_ok, te39_ok, te40_ok, te41_ok, te42_ok, te43_ok, te44_ok, te46_ok, te48_ok, te49_ok, te50_ok, te52_ok, te53_ok, te55_ok, te56_ok, te57_ok, te58_ok, te59_ok, te60_ok, te61_ok, te62_ok, te63_ok, te64_ok, te65_ok, te66_ok, te67_ok, te68_ok, te69_ok, te70_ok, te71_ok, te72_ok, te73_ok, te74_ok, te75_ok, te76_ok, te77_ok, te78_ok, te80_ok, te81_ok, te82_ok, te83_ok, te84_ok, te85_ok, te86_ok, te87_ok, te89_ok, te90_ok, te92_ok, te93_ok, te94_ok, te95_ok, te96_ok, te97_ok, te98_ok, te100_ok, te101_ok, te102_ok, te103_ok, te104_ok, te105_ok, te106_ok, te107_ok, te108_ok, te110_ok, te111_ok, te112_ok, te113_ok, te114_ok, te115_ok, te116_ok, te117_ok, te118_ok, te119_ok, te120_ok, te121_ok, te122_ok, te123_ok, te125_ok, te126_ok, te127_ok, te128_ok, te129_ok, te131_ok, te132_ok, te133_ok, te134_ok, te135_ok, te136_ok, te137_ok, te138_ok, te139_ok, te140_ok, te141_ok, te142_ok, te143_ok, te144_ok, te145_ok, te146_ok, te147_ok, te148_ok, te149_ok, te150_ok, te151_ok, te152_ok, te153_ok, te154_ok, te155_ok, te156_ok, te157_ok, te158_ok, te159_ok, te160_ok, te161_ok, te162_ok, te163_ok, te164_ok, te165_ok, te166_ok, te167_ok, te168_ok, te169_ok, te170_ok, te171_ok, te172_ok, te173_ok, te174_ok, te175_ok, te176_ok, te177_ok, te178_ok, te180_ok, te181_ok, te182_ok, te183_ok, te184_ok, te185_ok, te186_ok, te187_ok, te188_ok, te189_ok, te190_ok, te191_ok, te192_ok, te193_ok, te194_ok, te195_ok, te196_ok, te197_ok, te198_ok, te199_ok, te200_ok, te201_ok, te202_ok, te203_ok, te204_ok, te205_ok, te206_ok, te207_ok, te208_ok, te209_ok, te210_ok, te211_ok, te213_ok, te214_ok, te218_ok, te219_ok, te222_ok, trivial⟩
end GA
end

section
namespace GA
open Go Go.RowKit
set_option linter.unusedVariables false

def xPend (P : Program) (T : Tab) (N : Nat) (own : List Nat) (Q : Post) (D : List Nat) (σ : St) (H : List Blk) (pend : Option Code) : Prop :=
  match pend with
  | none => Q .normal D σ H
  | some c => XRun P T N none own c Q D σ H
def xRangeEnd (P : Program) (T : Tab) (N : Nat) (own : List Nat) (Q : Post) (D : List Nat) (σ : St) (i : Nat) (H : List Blk) : Prop :=
  match lget H i with
  | some (.lp st pend _ _ _ _ _ _) => match st with
    | .busy => False
    | _ => hset H i .dead fun H' => xPend P T N own Q D σ H' pend
  | _ => False

def xPuts : List Nat → List AV → St → Option St
  | [], [], σ => some σ
  | t :: ts, r :: rs, σ => xPuts ts rs (updX σ t r)
  | _, _, _ => none

def xRound (i : Nat) (K : AV → List Blk → Prop) : Post := fun e _ _ H =>
  match lget H i with
  | some (.lp _ _ f tm ps x y n) => match e with
    | .normal => hset H i (.lp .ready none f tm ps x y n) fun H' => K (.bool true) H'
    | .ret => hset H i (.lp .done (some .ret) f tm ps x y n) fun H' => K (.bool false) H'
    | .exit id => hset H i (.lp .done (some (.exit id)) f tm ps x y n) fun H' => K (.bool false) H'
    | _ => False
  | _ => False
def xBegin (P : Program) (T : Tab) (own : List Nat) (i : Nat) (K : AV → List Blk → Prop) (ρ : Option Nat) : Post := fun e D σ H =>
  match e, lget H i with
  | .normal, some (.lp .ready pend f tm ps x y n) => hset H i (.lp .busy pend f tm ps x y n) fun H' => XRun P T n ρ own y (xRound i K) D σ H'
  | _, _ => False

section
variable {P : Program} {T : Tab} {N : Nat} {ρ : Option Nat} {own : List Nat} {E : Env} {h : Nat → Option Obj} {β : Nat → Value} {H : List Blk} {w : World} {σ : St} {a : Act} {D : List Nat}

theorem xPuts_fits : ∀ {ts : List Nat} {rs : List AV} {vs : List Value} {σ σ' : St} {tmps : Array Value}, xPuts ts rs σ = some σ' → RepL P h β H rs vs → (∀ t ∈ ts, t < tmps.size) →
    (∀ t r, σ t = some r → ∃ v, tmps[t]? = some v ∧ Rep P h β H r v) → vs.length = ts.length ∧
    ∀ t r, σ' t = some r → ∃ v, ((ts.zip vs).foldl (fun (tmps : Array Value) (x : Nat × Value) => tmps.setIfInBounds x.1 x.2) tmps)[t]? = some v ∧ Rep P h β H r v
  | [], [], vs, σ, σ', tmps, e, hr, _, F => by
    cases e
    have : vs = [] := List.eq_nil_of_length_eq_zero hr.1
    subst this; exact ⟨rfl, F⟩
  | t :: ts, r :: rs, vs, σ, σ', tmps, e, hr, hb, F => by
    cases vs with
    | nil => have := hr.1; simp at this
    | cons v vs =>
      obtain ⟨v', e1, e2⟩ := hr.2 0 r rfl
      simp at e1; subst e1
      have hr' : RepL P h β H rs vs := ⟨by have := hr.1; simpa using this, fun j x ex => by have := hr.2 (j + 1) x (by simpa using ex); simpa using this⟩
      have F' : ∀ u x, updX σ t r u = some x → ∃ y, (tmps.setIfInBounds t v)[u]? = some y ∧ Rep P h β H x y := by
        intro u x ex
        rw [updX_eq] at ex; unfold upd at ex
        by_cases hu : u = t
        · subst hu; simp at ex; subst ex
          exact ⟨v, by simp [hb u (by simp)], e2⟩
        · simp [hu] at ex
          obtain ⟨y, g1, g2⟩ := F u x ex
          exact ⟨y, by rw [Array.getElem?_setIfInBounds_ne (Ne.symm hu)]; exact g1, g2⟩
      obtain ⟨g1, g2⟩ := xPuts_fits (tmps := tmps.setIfInBounds t v) (show xPuts ts rs (updX σ t r) = some σ' from e) hr' (fun u hu => by simpa using hb u (by simp [hu])) F'
      exact ⟨by simp [g1], by simpa using g2⟩
  | [], _ :: _, _, _, _, _, e, _, _, _ => by cases e
  | _ :: _, [], _, _, _, _, e, _, _, _ => by cases e

theorem Walk.range {g : Operand} {ps : Array Tmp} {assign body : Code} {Q : Post} {f : FuncId} {caps : List AV} (ok : TabOk P T) (tm : List (Nat × AV)) (hg : ev σ g = some (.fn f caps)) (ht : SubX tm σ)
    (x : ∀ fn, XCall P f (.yld (H.length + 1) :: caps) (H ++ [.raw (.deferred (some []))] ++ [.lp .ready none fn tm ps assign body N]) fun _ H' => xRangeEnd P T N own Q (H.length :: D) σ (H.length + 1) H') :
    Walk P N none (.rangeFunc g ps assign body) Q D σ H := by
  constructor
  intro E h β a w s
  refine wpIn_rangeFunc fun fn _ => ?_
  have hf := s.fits.ev hg
  generalize hv : a.eval g = fval at hf
  cases hf with
  | @fn _ _ vs us hs hc hr =>
    obtain ⟨hent, hcall⟩ := (x fn).o
    let w1 := (w.alloc (.deferred (some []))).alloc (.loop { state := .ready, pending := none, fn, tmps := a.tmps, params := ps, assign, body, defers := w.heap.size })
    -- the blocks
    obtain ⟨s1, X1⟩ := s.sr.push (w' := w.alloc (.deferred (some []))) s.sr.env (fun k hk => Below.heap_alloc _ _ _ hk) (.pointer (some ⟨w.heap.size, 0, none⟩)) (.raw (.deferred (some []))) (by intro b hb; simp [anchor] at hb; omega)
      (fun X => ⟨w.heap.size, by simp [upb], heap_alloc_new w _⟩)
    have hsz : (w.alloc (.deferred (some []))).heap.size = w.heap.size + 1 := World.size_alloc _ _
    obtain ⟨s2, X2⟩ := s1.push (w' := w1) s.sr.env (fun k hk => Below.heap_alloc _ _ _ hk) (.pointer (some ⟨w.heap.size + 1, 0, none⟩)) (.lp .ready none fn tm ps assign body N) (by intro b hb; simp [anchor] at hb; omega)
      (fun X => ⟨w.heap.size + 1, w.heap.size, a.tmps, by simp [upb], by rw [← hsz]; exact heap_alloc_new _ _, s.size, fun t r e => by
        have : σ t = some r := by
          have : ∀ (l : List (Nat × AV)), SubX l σ → (t, r) ∈ l → σ t = some r := by
            intro l; induction l with
            | nil => intro _ h; cases h
            | cons p l ih => intro h1 h2; rcases List.mem_cons.1 h2 with h2 | h2
                             · subst h2; exact h1.1
                             · exact ih h1.2 h2
          exact this tm ht e
        obtain ⟨v, e1, e2⟩ := s.fits t r this
        exact ⟨v, e1, X.rep (X1.rep e2)⟩⟩)
    have hl2 : (H ++ [Blk.raw (.deferred (some []))]).length = H.length + 1 := by simp
    rw [hl2] at s2 X2
    have X := X1.trans X2
    have hlp : (H ++ [Blk.raw (.deferred (some []))] ++ [Blk.lp .ready none fn tm ps assign body N])[H.length + 1]? = some (.lp .ready none fn tm ps assign body N) := by
      rw [List.getElem?_append_right (by simp)]; simp
    have hraw : (H ++ [Blk.raw (.deferred (some []))] ++ [Blk.lp .ready none fn tm ps assign body N])[H.length]? = some (.raw (.deferred (some []))) := by
      rw [List.getElem?_append_left (by simp), List.getElem?_append_right (by simp)]; simp
    have hy : Rep P h (upb (upb β H.length (.pointer (some ⟨w.heap.size, 0, none⟩))) (H.length + 1) (.pointer (some ⟨w.heap.size + 1, 0, none⟩))) (H ++ [.raw (.deferred (some []))] ++ [.lp .ready none fn tm ps assign body N]) (.yld (H.length + 1)) (.func (.yield (w.heap.size + 1)) #[] #[]) :=
      .yld (.of hlp rfl) fun y _ _ => by simp [upb]
    have hmk : Rep P h (upb (upb β H.length (.pointer (some ⟨w.heap.size, 0, none⟩))) (H.length + 1) (.pointer (some ⟨w.heap.size + 1, 0, none⟩))) (H ++ [.raw (.deferred (some []))] ++ [.lp .ready none fn tm ps assign body N]) (.yld H.length) (.func (.yield w.heap.size) #[] #[]) :=
      .yld (.of hraw rfl) fun y _ _ => by simp [upb]
    have hargs : RepL P h (upb (upb β H.length (.pointer (some ⟨w.heap.size, 0, none⟩))) (H.length + 1) (.pointer (some ⟨w.heap.size + 1, 0, none⟩))) (H ++ [.raw (.deferred (some []))] ++ [.lp .ready none fn tm ps assign body N]) (.yld (H.length + 1) :: caps) (.func (.yield (w.heap.size + 1)) #[] #[] :: vs.toList) :=
      .cons hy ⟨by simpa using hs, fun j y e => ⟨us j, by simpa using hc j y e, X.rep (hr j y e)⟩⟩
    have hres : (resolve a.eval (rangeCall g (w.heap.size + 1)) 0).run P w1 = .ok { target := .fn (.func f) vs, args := #[.func (.yield (w.heap.size + 1)) #[] #[]] } w1 := by
      have hcst : ∀ v, a.eval (.const v) = v := fun _ => rfl
      simp [resolve, hv, Deferred.ofValue, hcst]
    have hinv : (invoke (.fn (.func f) vs) #[.func (.yield (w.heap.size + 1)) #[] #[]]).run P w1 = .ok (.enter f (.func (.yield (w.heap.size + 1)) #[] #[] :: vs.toList).toArray) w1 := by
      have : (#[Value.func (.yield (w.heap.size + 1)) #[] #[]] ++ vs) = (.func (.yield (w.heap.size + 1)) #[] #[] :: vs.toList).toArray := by apply Array.ext'; simp
      simp only [invoke, run_callFunc hent, this]
    refine ⟨w.heap.size + 1, _, w1, _, w1, f, _, w1, run_enterLoop_outer fn a.tmps ps assign body, hres, fun _ _ => trivial, hinv, fun h => by simp at h, ?_⟩
    have hc2 := hcall E h _ w1 _ s2 hargs
    refine (show CallsIn (FW none) (0 - 1) P f _ w1 _ from hc2.mono ?_)
    rintro e w' ⟨r, H', h', β', v, rfl, hk, X', s', _⟩
    -- the end
    unfold xRangeEnd at hk
    split at hk
    case h_2 => exact hk.elim
    rename_i st pend f' tm' ps' as' bo' n' hl
    rw [lget_eq] at hl
    have hto := X'.to _ _ _ hlp hl
    rcases hto with hd | ⟨st2, pend2, he, hβ⟩
    · cases hd
    · cases he
      have hβ1 : β' (H.length + 1) = .pointer (some ⟨w.heap.size + 1, 0, none⟩) := by rw [hβ]; simp [upb]
      obtain ⟨b, dfr, tmps, h1, h2, h3, h4⟩ := s'.blk _ _ hl
      rw [hβ1] at h1; cases h1
      have hnb : st ≠ .busy := by rintro rfl; exact hk
      have hk2 : hset H' (H.length + 1) .dead fun H' => xPend P T N own Q (H.length :: D) σ H' pend := by
        cases st with
        | busy => exact hk.elim
        | ready => exact hk
        | done => exact hk
        | exhausted => exact hk
      obtain ⟨hlt, hk3⟩ := hset_spec hk2
      have hbo : blkOf β' H' (H.length + 1) = some (w.heap.size + 1) := by simp only [blkOf, hl, hβ1]; rfl
      obtain ⟨s3, X3⟩ := s'.modify (β' := β') (w' := w'.putObj (w.heap.size + 1) (.loop { state := .exhausted, pending := pend, fn := fn, tmps := tmps, params := ps, assign := assign, body := body, defers := dfr })) (x' := .dead) hl (fun _ _ => rfl) (.inl rfl) s'.env
        (fun q _ hn => World.putObj_heap_other (fun e => hn (by rw [hbo, e]))) (fun b e => .inl (by rw [hbo]; rw [hβ1] at e; exact e)) (fun _ => trivial)
      have Xall := X.trans (X'.trans X3)
      have hst : Stands P E N h' β' (H.length :: D) σ (H'.set (H.length + 1) .dead) { a with defers := [{ target := .collected w.heap.size, args := #[] }] ++ a.defers } (w'.putObj (w.heap.size + 1) (.loop { state := .exhausted, pending := pend, fn := fn, tmps := tmps, params := ps, assign := assign, body := body, defers := dfr })) := by
        exact ⟨s3, s.fits.ext Xall, s.size, ⟨(s.df.ext Xall).en, .own ((X'.trans X3).rep hmk) (s.df.ext Xall).l⟩⟩
      refine ⟨pend, _, run_endLoop h2 hnb, ?_⟩
      cases pend with
      | none => exact ⟨_, _, _, _, _, hk3, Xall, hst⟩
      | some c => exact wpIn_mono (XRun.sound ok hk3 E h' β' _ _ hst) fun _ _ _ => Conc.ext Xall

theorem XYield.go {i : Nat} {rs : List AV} {K : AV → List Blk → Prop} {pend : Option Code} {f : FuncId} {tm : List (Nat × AV)} {ps : Array Tmp} {assign body : Code} {σ0 : St} (ok : TabOk P T) (hl : lget H i = some (.lp .ready pend f tm ps assign body N)) (hp : xPuts ps.toList rs (stX tm) = some σ0)
    (hb : ∀ t ∈ ps.toList, t < N) (x : ∀ ρ, XRun P T N ρ own assign (xBegin P T own i K ρ) [] σ0 H) : XYield P i rs H K := by
  rw [lget_eq] at hl
  refine ⟨(List.getElem?_eq_some_iff.1 hl).1, fun E h β w b vs s hr hβ => ?_⟩
  have hβ := hβ _ hl rfl
  obtain ⟨b', dfr, tmps, h1, h2, h3, h4⟩ := s.blk _ _ hl
  rw [hβ] at h1; cases h1
  obtain ⟨hlen, F⟩ := xPuts_fits (tmps := tmps) hp hr (fun t ht => by rw [h3]; exact hb t ht) (fun t r e => by
    have : ∀ (l : List (Nat × AV)), stX l t = some r → (t, r) ∈ l := by
      intro l; induction l with
      | nil => intro h; cases h
      | cons p l ih =>
        obtain ⟨u, x⟩ := p
        intro h; simp only [stX, updX_eq, upd] at h
        split at h
        · rename_i e; cases h; subst e; exact List.mem_cons_self
        · exact List.mem_cons_of_mem _ (ih h)
    exact h4 t r (this tm e))
  have hzip : ((ps.zip vs.toArray).foldl (fun (tmps : Array Value) (x : Nat × Value) => tmps.setIfInBounds x.1 x.2) tmps) = ((ps.toList.zip vs).foldl (fun (tmps : Array Value) (x : Nat × Value) => tmps.setIfInBounds x.1 x.2) tmps) := by
    rw [← Array.foldl_toList]; simp
  refine ⟨f, _, assign, body, run_yield h2 (by simp [hlen]), ?_⟩
  refine roundIn_of_wpIn trivial ?_
  have hF : (FW none).inRound b = FW (some b) := rfl
  rw [hF]
  have hsz : ∀ (l : List (Nat × Value)) (tmps : Array Value), (l.foldl (fun (tmps : Array Value) (x : Nat × Value) => tmps.setIfInBounds x.1 x.2) tmps).size = tmps.size := by
    intro l; induction l with
    | nil => intro _; rfl
    | cons p l ih => intro tmps; simp [ih]
  have st0 : Stands P ⟨E.b, E.fr, h⟩ N h β [] σ0 H { tmps := (ps.zip vs.toArray).foldl (fun (tmps : Array Value) (x : Nat × Value) => tmps.setIfInBounds x.1 x.2) tmps, defers := [] } w :=
    ⟨s.en h, fun t r e => by rw [hzip]; exact F t r e, by rw [hzip]; exact (hsz _ _).trans h3, ⟨fun _ _ e => e, .nil⟩⟩
  refine wpIn_mono (XRun.sound ok (x (some b)) ⟨E.b, E.fr, h⟩ h β _ w st0) ?_
  rintro e a1 w1 ⟨D1, σ1, H1, h1', β1, q, X1, s1⟩
  have hq : e = .normal ∧ ∃ pend' f' tm' ps' x' y' n', lget H1 i = some (.lp .ready pend' f' tm' ps' x' y' n') ∧ hset H1 i (.lp .busy pend' f' tm' ps' x' y' n') fun H' => XRun P T n' (some b) own y' (xRound i K) D1 σ1 H' := by
    unfold xBegin at q; split at q
    · rename_i hh; exact ⟨rfl, _, _, _, _, _, _, _, hh, q⟩
    · exact q.elim
  obtain ⟨rfl, pend', f', tm', ps', x', y', n', g1, g2⟩ := hq
  rw [lget_eq] at g1
  have hβ1 : β1 i = β i ∧ body = y' ∧ N = n' := by
    rcases X1.to _ _ _ hl g1 with hd | ⟨_, _, he, hb1⟩
    · cases hd
    · cases he; exact ⟨hb1, rfl, rfl⟩
  obtain ⟨hβ1, rfl, rfl⟩ := hβ1
  rw [hβ] at hβ1
  obtain ⟨b', dfr', tmps', k1, k2, k3, k4⟩ := s1.sr.blk _ _ g1
  rw [hβ1] at k1; cases k1
  obtain ⟨hlt, g3⟩ := hset_spec g2
  refine ⟨_, run_beginRound k2 rfl, ?_⟩
  have hbo : blkOf β1 H1 i = some b := by simp only [blkOf, g1, hβ1]; rfl
  have hbs : b < w1.heap.size := (Array.getElem?_eq_some_iff.1 k2).1
  obtain ⟨s2, X2⟩ := s1.sr.modify (β' := β1) (w' := w1.putObj b (.loop { state := .busy, pending := pend', fn := f', tmps := tmps', params := ps', assign := x', body := body, defers := dfr' })) (x' := .lp .busy pend' f' tm' ps' x' body N) g1 (fun _ _ => rfl) (.inr ⟨_, _, rfl, rfl⟩) s1.sr.env
    (fun q _ hn => World.putObj_heap_other (fun e => hn (by rw [hbo, e]))) (fun b e => .inl (by rw [hbo]; rw [hβ1] at e; exact e)) (fun X => ⟨b, dfr', tmps', hβ1, World.putObj_heap_same hbs, k3, fun t r e => let ⟨v, p1, p2⟩ := k4 t r e; ⟨v, p1, X.rep p2⟩⟩)
  refine wpIn_mono (XRun.sound ok g3 ⟨E.b, E.fr, h⟩ _ _ _ _ ⟨s2, s1.fits.ext X2, s1.size, s1.df.ext X2⟩) ?_
  rintro e a3 w3 ⟨D3, σ3, H3, h3', β3, q3, X3, s3⟩
  unfold xRound at q3
  split at q3
  case h_2 => exact q3.elim
  rename_i st4 pend4 f4 tm4 ps4 x4 y4 n4 m1
  rw [lget_eq] at m1
  have hg2 : (H1.set i (.lp .busy pend' f' tm' ps' x' body N))[i]? = some (.lp .busy pend' f' tm' ps' x' body N) := by simp [hlt]
  have hβ3 : β3 i = .pointer (some ⟨b, 0, none⟩) := by
    rcases X3.to _ _ _ hg2 m1 with hd | ⟨_, _, he, hb1⟩
    · cases hd
    · rw [hb1, hβ1]
  obtain ⟨b', dfr4, tmps4, o1, o2, o3, o4⟩ := s3.sr.blk _ _ m1
  rw [hβ3] at o1; cases o1
  have hbo3 : blkOf β3 H3 i = some b := by simp only [blkOf, m1, hβ3]; rfl
  have hbs3 : b < w3.heap.size := (Array.getElem?_eq_some_iff.1 o2).1
  have Xto := X1.trans (X2.trans X3)
  have fin : ∀ (jump : Option Code) (st' : LoopState), st' = (if jump.isNone then .ready else .done) → (hset H3 i (.lp st' jump f4 tm4 ps4 x4 y4 n4) fun H' => K (.bool jump.isNone) H') →
      ∃ v w', (Instr.endRound b jump).run P w3 = .ok v w' ∧ Ends P E h β H K (.returned v) w' := by
    intro jump st' hst hk
    subst hst
    obtain ⟨_, hk2⟩ := hset_spec hk
    obtain ⟨s4, X4⟩ := s3.sr.modify (β' := β3) (w' := w3.putObj b (.loop { state := (if jump.isNone then .ready else .done), pending := jump, fn := f4, tmps := tmps4, params := ps4, assign := x4, body := y4, defers := dfr4 })) (x' := .lp (if jump.isNone then .ready else .done) jump f4 tm4 ps4 x4 y4 n4) m1 (fun _ _ => rfl) (.inr ⟨_, _, rfl, rfl⟩) s3.sr.env
      (fun q _ hn => World.putObj_heap_other (fun e => hn (by rw [hbo3, e]))) (fun b e => .inl (by rw [hbo3]; rw [hβ3] at e; exact e)) (fun X => ⟨b, dfr4, tmps4, hβ3, World.putObj_heap_same hbs3, o3, fun t r e => let ⟨v, p1, p2⟩ := o4 t r e; ⟨v, p1, X.rep p2⟩⟩)
    refine ⟨_, _, run_endRound jump o2, .bool jump.isNone, _, _, _, _, rfl, hk2, Xto.trans X4, ?_, .bool _⟩
    exact s4.unen
  cases e with
  | normal => exact fin none .ready rfl q3
  | ret => exact fin (some .ret) .done rfl q3
  | exit id => exact fin (some (.exit id)) .done rfl q3
  | _ => exact q3.elim
end
end GA
end

section
namespace GA
open Go Go.RowKit
set_option linter.unusedVariables false

def xMarks : List Nat → List Blk → (List Blk → Prop) → Prop
  | [], H, k => k H
  | i :: D, H, k => match lget H i with
    | some (.raw (.deferred (some []))) => hset H i (.raw (.deferred none)) fun H' => xMarks D H' k
    | _ => False
def XIn (T : Tab) (res : List ResultVar) (k : AV → List Blk → Prop) : Post := fun e D σ H =>
  match e with
  | .normal | .ret => xMarks D H fun H' => xRes T σ H' res fun rs => k (pack rs) H'
  | _ => False
def XFm (P : Program) (T : Tab) (res : List ResultVar) (r0 : AV) : Post := XIn T res fun r H => XOut P H r r0

section
variable {P : Program} {T : Tab} {N : Nat} {ρ : Option Nat} {own : List Nat} {E : Env} {h : Nat → Option Obj} {β : Nat → Value} {H : List Blk} {w : World} {σ : St} {a : Act}

theorem leavesX {fn : Func} {k : AV → List Blk → Prop} {h0 : Nat → Option Obj} {β0 : Nat → Value} {H0 : List Blk} (ok : TabOk P T) (hen : ∀ b, E.en b = none → h0 b = none) : ∀ (ds : List Deferred) (D : List Nat) (h : Nat → Option Obj) (β : Nat → Value) (H : List Blk) (w : World), Ext h0 β0 H0 h β H → SR P E h β H w → Fits P h β H σ a → DfOk P E h β H D ds →
      xMarks D H (fun H' => xRes T σ H' fn.results.toList fun rs => k (pack rs) H') → LeavesInM (FW none) 0 P fn a.tmps (Ends P E h0 β0 H0 k) ds .returning w
  | [], D, h, β, H, w, X, s, F, df, hk => by
    obtain ⟨_, df⟩ := df
    cases df
    obtain ⟨v, rs, e1, e2, e3⟩ := results_run (fn := fn) s F (xRes_sound ok hk)
    exact ⟨v, e1, pack rs, H, h, β, v, rfl, e3, X, s, e2⟩
  | d :: ds, D, h, β, H, w, X, s, F, ⟨hen2, df⟩, hk => by
    cases df with
    | @lost b _ _ hb he nd t =>
      have h4 := s.imm _ _ hb
      have htake := run_takeDeferred (P := P) h4
      refine ⟨by simp, .inl ⟨b, _, rfl, htake, ?_⟩⟩
      exact leavesX ok hen ds D _ β H _ (X.hid (hen _ he)) (s.hid hb _) (F.hid hb) (DfOk.hid hb he ⟨hen2, t⟩ nd) hk
    | @own i b D _ h2 t =>
      unfold xMarks at hk
      split at hk
      case h_2 => exact hk.elim
      rename_i hl
      rw [lget_eq] at hl
      obtain ⟨hlt, hk2⟩ := hset_spec hk
      cases h2 with
      | yld hlv hb =>
        have hb' := hb _ hl rfl
        obtain ⟨b', h3, h4⟩ := s.blk i _ hl
        rw [hb'] at h3; cases h3
        have htake := run_takeDeferred (P := P) h4
        have hbo : blkOf β H i = some b := by simp only [blkOf, hl, hb']; rfl
        obtain ⟨s', X'⟩ := s.modify (β' := β) (w' := w.putObj b (.deferred none)) (x' := .raw (.deferred none)) hl (fun _ _ => rfl) (.inr ⟨_, rfl, rfl⟩) s.env
          (fun q _ hn => World.putObj_heap_other (fun e => hn (by rw [hbo, e]))) (fun b0 e => .inl (by rw [hbo]; rw [hb'] at e; exact e))
          (fun _ => ⟨b, hb', World.putObj_heap_same (Array.getElem?_eq_some_iff.1 h4).1⟩)
        refine ⟨by simp, .inl ⟨b, _, rfl, htake, ?_⟩⟩
        exact leavesX ok hen ds D h β _ _ (X.trans X') s' (F.ext X') (DfOk.ext ⟨hen2, t⟩ X') hk2

theorem ACall.inl {f : FuncId} {fn : Func} {c : Code} {rs : List AV} {res : List ResultVar} {k : AV → List Blk → Prop} (ok : TabOk P T) (own : List Nat) (hf : P.funcs[f]? = some fn) (hb : fn.body = some c) (hn : (fn.name == "runtime.NumGoroutine") = false)
    (hN : fn.ntmps = N) (hr : fn.results = res.toArray) (hl : rs.length ≤ N) (x : XRun P T N none own c (XIn T res k) [] (argX rs) H) : ACall P f rs H k := by
  refine ⟨⟨fn, hf, hn, by rw [hb]; rfl⟩, fun E h β w vs s hrs => ?_⟩
  refine (show CallsIn (FW none) 0 P f vs.toArray w (Ends P ⟨E.b, E.fr, h⟩ h β H k) from ?_).mono fun _ _ => Ends.unen
  refine callsIn_of_wp_marks hf hb trivial ?_ rfl
  have hsz : (vs.toArray ++ Array.replicate (fn.ntmps - vs.toArray.size) undef).size = N := by simp [hrs.1]; omega
  refine wpIn_mono (XRun.sound (own := own) ok x ⟨E.b, E.fr, h⟩ h β _ w ⟨s.en h, fun t r e => ?_, hsz, ⟨fun _ _ e => e, .nil⟩⟩) ?_
  · rw [argX_eq] at e
    obtain ⟨v, h1, h2⟩ := hrs.2 t r e
    refine ⟨v, ?_, h2⟩
    rw [Array.getElem?_append_left (by simpa using (List.getElem?_eq_some_iff.1 h1).1)]; simpa using h1
  · rintro e a' w' ⟨D', σ', H', h', β', q, X, s'⟩
    have hq : (e = .normal ∨ e = .ret) ∧ xMarks D' H' fun H' => xRes T σ' H' fn.results.toList fun rs => k (pack rs) H' := by
      rw [hr]
      unfold XIn at q; split at q
      · exact ⟨.inl rfl, q⟩
      · exact ⟨.inr rfl, q⟩
      · exact q.elim
    obtain ⟨he, q⟩ := hq
    have hL : LeavesInM (FW none) 0 P fn a'.tmps (Ends P ⟨E.b, E.fr, h⟩ h β H k) a'.defers .returning w' :=
      leavesX ok (fun _ e => e) a'.defers D' h' β' H' w' X s'.sr s'.fits s'.df q
    rcases he with rfl | rfl <;> exact hL

theorem Comp.body' {f : FuncId} {fn : Func} {c : Code} {rs : List AV} {res : List ResultVar} {r0 : AV} (ok : TabOk P T) (own : List Nat) (hf : P.funcs[f]? = some fn) (hb : fn.body = some c) (hn : (fn.name == "runtime.NumGoroutine") = false)
    (hN : fn.ntmps = N) (hr : fn.results = res.toArray) (hl : rs.length ≤ N) (hlo : lowL 0 rs = true) (x : XRun P T N none own c (XFm P T res r0) [] (argX rs) []) : Comp P f rs r0 := by
  refine ⟨hlo, ?_⟩
  obtain ⟨h1, h2⟩ := ACall.inl ok own hf hb hn hN hr hl x
  refine ⟨h1, fun E h β w vs s hrs => (h2 E h β w vs s hrs).mono ?_⟩
  rintro e w' ⟨r, H', h', β', v, rfl, hk, X, s', hrep⟩
  exact ⟨r0, [], hall h' β' H' w', β', v, rfl, ⟨rfl, rfl⟩, ⟨fun b o eb => hall_imm s' (X.imm b o eb), Nat.le_refl _, by simp⟩, s'.all, hk.o E h' β' w' s' v hrep⟩

theorem XRun.monoX (ok : TabOk P T) {c : Code} {Q Q' : Post} {D : List Nat} (hq : ∀ e D σ H, Q e D σ H → Q' e D σ H) (x : XRun P T N ρ own c Q D σ H) : AWp P N ρ c Q' D σ H := (XRun.sound ok x).mono hq
theorem ACall.inl0 {f : FuncId} {fn : Func} {c : Code} {rs : List AV} {res : List ResultVar} {k : AV → List Blk → Prop} (ok : TabOk P T) (own : List Nat) (hf : P.funcs[f]? = some fn) (hb : fn.body = some c) (hn : (fn.name == "runtime.NumGoroutine") = false)
    (hN : fn.ntmps = N) (hr : fn.results = res.toArray) (hl : rs.length ≤ N) (x : AWp P N none c (XIn T res k) [] (argX rs) H) : ACall P f rs H k := by
  refine ⟨⟨fn, hf, hn, by rw [hb]; rfl⟩, fun E h β w vs s hrs => ?_⟩
  refine (show CallsIn (FW none) 0 P f vs.toArray w (Ends P ⟨E.b, E.fr, h⟩ h β H k) from ?_).mono fun _ _ => Ends.unen
  refine callsIn_of_wp_marks hf hb trivial ?_ rfl
  have hsz : (vs.toArray ++ Array.replicate (fn.ntmps - vs.toArray.size) undef).size = N := by simp [hrs.1]; omega
  refine wpIn_mono (x ⟨E.b, E.fr, h⟩ h β _ w ⟨s.en h, fun t r e => ?_, hsz, ⟨fun _ _ e => e, .nil⟩⟩) ?_
  · rw [argX_eq] at e
    obtain ⟨v, h1, h2⟩ := hrs.2 t r e
    refine ⟨v, ?_, h2⟩
    rw [Array.getElem?_append_left (by simpa using (List.getElem?_eq_some_iff.1 h1).1)]; simpa using h1
  · rintro e a' w' ⟨D', σ', H', h', β', q, X, s'⟩
    have hq : (e = .normal ∨ e = .ret) ∧ xMarks D' H' fun H' => xRes T σ' H' fn.results.toList fun rs => k (pack rs) H' := by
      rw [hr]
      unfold XIn at q; split at q
      · exact ⟨.inl rfl, q⟩
      · exact ⟨.inr rfl, q⟩
      · exact q.elim
    obtain ⟨he, q⟩ := hq
    have hL : LeavesInM (FW none) 0 P fn a'.tmps (Ends P ⟨E.b, E.fr, h⟩ h β H k) a'.defers .returning w' :=
      leavesX ok (fun _ e => e) a'.defers D' h' β' H' w' X s'.sr s'.fits s'.df q
    rcases he with rfl | rfl <;> exact hL
theorem Comp.body {f : FuncId} {fn : Func} {c : Code} {rs : List AV} {res : List ResultVar} {r0 : AV} (ok : TabOk P T) (own : List Nat) (hf : P.funcs[f]? = some fn) (hb : fn.body = some c) (hn : (fn.name == "runtime.NumGoroutine") = false)
    (hN : fn.ntmps = N) (hr : fn.results = res.toArray) (hl : rs.length ≤ N) (hlo : lowL 0 rs = true) (x : XRun P T N none own c (XFn P T res r0) [] (argX rs) []) : Comp P f rs r0 := by
  refine ⟨hlo, ?_⟩
  obtain ⟨h1, h2⟩ := ACall.inl0 (k := fun r H => XOut P H r r0) ok own hf hb hn hN hr hl (XRun.monoX ok (fun e D σ H q => by
    unfold XFn at q
    split at q
    · exact q
    · exact q
    · exact q.elim) x)
  refine ⟨h1, fun E h β w vs s hrs => (h2 E h β w vs s hrs).mono ?_⟩
  rintro e w' ⟨r, H', h', β', v, rfl, hk, X, s', hrep⟩
  exact ⟨r0, [], hall h' β' H' w', β', v, rfl, ⟨rfl, rfl⟩, ⟨fun b o eb => hall_imm s' (X.imm b o eb), Nat.le_refl _, by simp⟩, s'.all, hk.o E h' β' w' s' v hrep⟩

theorem XCall.inl {f : FuncId} {fn : Func} {c : Code} {rs : List AV} {res : List ResultVar} {k : AV → List Blk → Prop} (ok : TabOk P T) (own : List Nat) (hf : P.funcs[f]? = some fn) (hb : fn.body = some c) (hn : (fn.name == "runtime.NumGoroutine") = false)
    (hN : fn.ntmps = N) (hr : fn.results = res.toArray) (hl : rs.length ≤ N) (x : XRun P T N none own c (XIn T res k) [] (argX rs) H) : XCall P f rs H k :=
  ⟨.inl ok own hf hb hn hN hr hl x⟩

theorem Walk.nilgr {c : Code} {Q : Post} {D : List Nat} (t : Nat) (te : TypeId) (ht : σ t = some (.sl true [])) (x : Walk P N ρ c Q D (updX σ t (.gr H.length 0)) (H ++ [.grow te true []])) : Walk P N ρ c Q D σ H := by
  constructor
  intro E h β a w s
  obtain ⟨s', X⟩ := s.sr.push (w' := w) s.sr.env (fun _ _ => rfl) (.slice none 0 0) (.grow te true []) (by intro b hb; simp [anchor] at hb) (fun _ => .inl ⟨rfl, rfl, by simp [upb]⟩)
  refine wpIn_mono (x.o E h _ a w ⟨s', fun u r e => ?_, s.size, s.df.ext X⟩) fun _ _ _ => Conc.ext X
  rw [updX_eq] at e; unfold upd at e
  split at e
  · rename_i hu; subst hu; cases e
    obtain ⟨v, h1, h2⟩ := s.fits u _ ht
    cases h2
    refine ⟨_, h1, .gr rfl (.push rfl) fun t' nl els e => ?_⟩
    rw [List.getElem?_append_right (Nat.le_refl _)] at e; simp at e; obtain ⟨_, _, rfl⟩ := e
    exact ⟨Nat.le_refl _, fun _ => by simp [upb]⟩
  · obtain ⟨v, h1, h2⟩ := s.fits u r e
    exact ⟨v, h1, X.rep h2⟩
end
end GA
end

section
namespace GA
open Go Go.RowKit
set_option linter.unusedVariables false

section
variable {P : Program} {T : Tab} {N : Nat} {ρ : Option Nat} {own : List Nat} {E : Env} {h : Nat → Option Obj} {β : Nat → Value} {H : List Blk} {w : World} {σ σ' : St} {a : Act}

def Knows (σ σ' : St) (l : List Operand) : Prop := ∀ t, Operand.tmp t ∈ l → ∀ r, σ t = some r → σ' t = some r
theorem Knows.ev {l : List Operand} (k : Knows σ σ' l) {x : Operand} (hx : x ∈ l) {r : AV} (e : ev σ x = some r) : ev σ' x = some r := by
  cases x with
  | tmp t => exact k t hx r e
  | _ => exact e
theorem Knows.evL {l : List Operand} (k : Knows σ σ' l) : ∀ {xs : List Operand} {rs : List AV}, (∀ x ∈ xs, x ∈ l) → evL σ xs = some rs → evL σ' xs = some rs
  | [], _, _, e => e
  | x :: xs, rs, hx, e => by
    unfold GA.evL at e ⊢
    split at e <;> cases e
    rename_i h1 h2
    rw [k.ev (hx x (by simp)) h1, k.evL (fun y hy => hx y (by simp [hy])) h2]
theorem Knows.evP {l : List Operand} (k : Knows σ σ' l) : ∀ {xs : List (Nat × Operand)} {rs : List (Nat × AV)}, (∀ x ∈ xs.map (·.2), x ∈ l) → evP σ xs = some rs → evP σ' xs = some rs
  | [], _, _, e => e
  | (i, x) :: xs, rs, hx, e => by
    unfold GA.evP at e ⊢
    split at e <;> cases e
    rename_i h1 h2
    rw [k.ev (hx x (by simp)) h1, k.evP (fun y hy => hx y (by simp at hy ⊢; exact .inr hy)) h2]
theorem Knows.evO {l : List Operand} (k : Knows σ σ' l) {x : Option Operand} {r : Option AV} (hx : ∀ y, x = some y → y ∈ l) (e : evO σ x = some r) : evO σ' x = some r := by
  cases x with
  | none => exact e
  | some y =>
    simp only [GA.evO] at e ⊢
    cases h1 : GA.ev σ y with
    | none => rw [h1] at e; cases e
    | some z => rw [h1] at e; rw [k.ev (hx y rfl) h1]; exact e

theorem Knows.b {l : List Operand} (k : Knows σ σ' l) {x : Operand} (hx : x ∈ l) {K : AV → Prop} (e : bnd (GA.ev σ x) K) : bnd (GA.ev σ' x) K := by
  obtain ⟨r, h1, h2⟩ := bnd_elim e; rw [k.ev hx h1]; exact h2
theorem AOp_look {op : Op} {d : Option Nat} {K : AV → List Blk → Prop} (k : Knows σ σ' op.operands.toList) (x : AOp P own d σ H K op) : AOp P own d σ' H K op := by
  cases op with
  | move a => exact k.b (by simp [Op.operands]) x
  | assign a => exact k.b (by simp [Op.operands]) x
  | pick c a b =>
    refine bnd_mono (k.b (x := c) (by simp [Op.operands]) x) fun r _ h => ?_
    split at h
    · exact ⟨fun e => k.b (by simp [Op.operands]) (h.1 e), fun e => k.b (by simp [Op.operands]) (h.2 e)⟩
    · exact h
  | alloc t => exact x
  | box t a => exact k.b (by simp [Op.operands]) x
  | build t ps => obtain ⟨r, h1, h2⟩ := bnd_elim x; show bnd _ _; rw [k.evP (by simp [Op.operands]) h1]; exact h2
  | buildSlice t n ps => obtain ⟨r, h1, h2⟩ := bnd_elim x; show bnd _ _; rw [k.evP (by simp [Op.operands]) h1]; exact h2
  | load t a => exact k.b (by simp [Op.operands]) x
  | store t a v => exact bnd_mono (k.b (x := a) (by simp [Op.operands]) x) fun r _ h => k.b (by simp [Op.operands]) h
  | nilCheck a => exact k.b (by simp [Op.operands]) x
  | binOp op t a b y => exact bnd_mono (k.b (x := a) (by simp [Op.operands]) x) fun r _ h => k.b (by simp [Op.operands]) h
  | unOp op t a => exact k.b (by simp [Op.operands]) x
  | convert s d a => exact k.b (by simp [Op.operands]) x
  | makeFunc fn first caps =>
    cases fn with
    | func f =>
      rcases x with ⟨h0, h⟩ | ⟨h0, h⟩
      · obtain ⟨r, h1, h2⟩ := bnd_elim h
        refine .inl ⟨h0, ?_⟩
        rw [k.evL (by simp [Op.operands]; exact fun _ h => .inr h) h1]; exact h2
      · obtain ⟨r, h1, h2⟩ := bnd_elim h
        refine .inr ⟨h0, ?_⟩
        rw [k.evL (by simp [Op.operands]; exact fun _ h => .inl h) h1]; exact h2
    | _ => exact x
  | makeSlice t a b => exact bnd_mono (k.b (x := a) (by simp [Op.operands]) x) fun r _ h => k.b (by simp [Op.operands]) h
  | slice t a lo hi mx =>
    refine bnd_mono (k.b (x := a) (by simp [Op.operands]) x) fun r _ h => ?_
    obtain ⟨l1, g1, h⟩ := bnd_elim h
    obtain ⟨l2, g2, h⟩ := bnd_elim h
    obtain ⟨l3, g3, h⟩ := bnd_elim h
    rw [k.evO (by rintro y rfl; simp [Op.operands]) g1, bnd_some, k.evO (by rintro y rfl; simp [Op.operands]) g2, bnd_some, k.evO (by rintro y rfl; simp [Op.operands]) g3, bnd_some]
    exact h
  | fieldAddr t a f => exact k.b (by simp [Op.operands]) x
  | field t a f => exact k.b (by simp [Op.operands]) x
  | indexAddr t a b => exact bnd_mono (k.b (x := a) (by simp [Op.operands]) x) fun r _ h => k.b (by simp [Op.operands]) h
  | index t a b => exact bnd_mono (k.b (x := a) (by simp [Op.operands]) x) fun r _ h => k.b (by simp [Op.operands]) h
  | extract a i => exact k.b (by simp [Op.operands]) x
  | makeMap t r => exact x
  | lookup t a b ok => exact bnd_mono (k.b (x := a) (by simp [Op.operands]) x) fun r _ h => k.b (by simp [Op.operands]) h
  | mapUpdate t m a b => exact bnd_mono (k.b (x := m) (by simp [Op.operands]) x) fun r _ h => bnd_mono (k.b (x := a) (by simp [Op.operands]) h) fun r _ h => k.b (by simp [Op.operands]) h
  | insert t m a b => exact bnd_mono (k.b (x := m) (by simp [Op.operands]) x) fun r _ h => bnd_mono (k.b (x := a) (by simp [Op.operands]) h) fun r _ h => k.b (by simp [Op.operands]) h
  | call c =>
    obtain ⟨callee, args, argTypes⟩ := c
    change opCall P σ H _ K at x
    change opCall P σ' H _ K
    unfold opCall at x ⊢
    cases callee with
    | value f =>
      refine bnd_mono (k.b (x := f) (by simp [Op.operands, Call.operands]) x) fun fv _ h => ?_
      obtain ⟨rs, h1, h2⟩ := bnd_elim h
      rw [k.evL (by simp [Op.operands, Call.operands]; exact fun _ h => .inr h) h1]; exact h2
    | builtin b =>
      obtain ⟨rs, h1, h2⟩ := bnd_elim x
      simp only
      rw [k.evL (by simp [Op.operands, Call.operands]) h1]; exact h2
    | invoke r m => exact x
  | _ => exact x
end
end GA
end

section
namespace GA
open Go Go.RowKit
set_option linter.unusedVariables false

def dep (o : Oper) (j : Nat) : Bool := o.after.toList.any fun e => Region.binds .any e && Nat.beq e.on j
def flagsOf (eff : List Nat) (listed : Array Bool) : List Bool := eff.map fun j => listed.getD j false
def setF (eff : List Nat) (i : Nat) (fl : List Bool) : List Bool := List.zipWith (fun j b => b || Nat.beq j i) eff fl
def opAt (ops : List Oper) (j : Nat) (f : Oper → Bool) : Bool := match lget ops j with | some o => f o | none => true
def compat (ops : List Oper) (eff : List Nat) (i : Nat) (fl : List Bool) : Bool :=
  (eff.zip fl).all fun (j, b) =>
    (opAt ops i fun o => !dep o j || b) && (!Nat.beq j i || !b) && (opAt ops j fun o => !dep o i || !b) &&
    (!b || (eff.zip fl).all fun (j', b') => opAt ops j fun o => !dep o j' || b')

structure XSame (r : AV) (H : List Blk) (r0 : AV) (H0 : List Blk) : Prop where
  r : r = r0
  h : H = H0

section
variable (P : Program) (T : Tab) (N : Nat) (own : List Nat) (ops : List Oper) (eff : List Nat) (HS : List Bool → List Blk)
def Chk (i : Nat) (o : Oper) (σ : St) (r : AV) (fl : List Bool) : Prop :=
  xGate ops σ o.guard (fun σ => XOp P T own o.dst σ (HS fl) (fun r' H' => XSame r' H' r (HS (setF eff i fl))) o.op) (fun _ => XSame (.tup []) (HS fl) r (HS (setF eff i fl)))
def ChkAll : Nat → List Oper → List AV → St → Prop
  | _, [], [], _ => True
  | i, o :: l, r :: R, σ => (∀ fl, fl.length = eff.length → compat ops eff i fl = true → Chk P T own ops eff HS i o σ r fl) ∧ ChkAll (i + 1) l R (putX N σ o.dst r)
  | _, _, _, _ => False
end
def xFold (N : Nat) : List Oper → List AV → St → St
  | o :: l, r :: R, σ => xFold N l R (putX N σ o.dst r)
  | _, _, σ => σ

section
variable {P : Program} {T : Tab} {N : Nat} {ρ : Option Nat} {own : List Nat} {E : Env} {h : Nat → Option Obj} {β : Nat → Value} {H : List Blk} {w : World} {σ σ' : St} {a : Act} {ops : List Oper} {eff : List Nat} {HS : List Bool → List Blk}

theorem ChkAll.get : ∀ {l : List Oper} {R : List AV} {i : Nat} {σ : St}, ChkAll P T N own ops eff HS i l R σ → l.length = R.length ∧ ∀ (j : Nat) o, l[j]? = some o → ∃ r, R[j]? = some r ∧
      ∀ fl, fl.length = eff.length → compat ops eff (i + j) fl = true → Chk P T own ops eff HS (i + j) o (xFold N (l.take j) (R.take j) σ) r fl
  | [], [], _, _, _ => ⟨rfl, by simp⟩
  | o :: l, r :: R, i, σ, h => by
    obtain ⟨h1, h2⟩ := h
    obtain ⟨h3, h4⟩ := ChkAll.get h2
    refine ⟨by simp [h3], fun j o' e => ?_⟩
    cases j with
    | zero => simp at e; subst e; exact ⟨r, rfl, h1⟩
    | succ j =>
      obtain ⟨r', e1, e2⟩ := h4 j o' (by simpa using e)
      refine ⟨r', by simpa using e1, fun fl hf hc => ?_⟩
      have := e2 fl hf (by rwa [show i + 1 + j = i + (j + 1) by omega])
      rw [show i + 1 + j = i + (j + 1) by omega] at this
      exact this
  | [], _ :: _, _, _, h => h.elim
  | _ :: _, [], _, _, h => h.elim

theorem putX_get {N : Nat} {σ : St} {d : Option Nat} {r x : AV} {t : Nat} (e : putX N σ d r t = some x) : (d = some t ∧ t < N ∧ x = r) ∨ ((d ≠ some t ∨ ¬ t < N) ∧ σ t = some x) := by
  rw [putX_eq] at e
  cases d with
  | none => exact .inr ⟨.inl (by simp), e⟩
  | some d =>
    simp only [putO] at e
    split at e
    · rename_i hd; unfold upd at e; split at e
      · rename_i ht; subst ht; cases e; exact .inl ⟨rfl, hd, rfl⟩
      · rename_i ht; exact .inr ⟨.inl (by intro hh; cases hh; exact ht rfl), e⟩
    · rename_i hd
      by_cases ht : d = t
      · subst ht; exact .inr ⟨.inr hd, e⟩
      · exact .inr ⟨.inl (by intro hh; cases hh; exact ht rfl), e⟩

theorem xFold_get {N : Nat} : ∀ {l : List Oper} {R : List AV} {σ : St} {t : Nat} {x : AV}, l.length = R.length → xFold N l R σ t = some x →
    (∃ (j : Nat) (o : Oper), l[j]? = some o ∧ o.dst = some t ∧ t < N ∧ R[j]? = some x ∧ ∀ (k : Nat) o', l[k]? = some o' → j < k → o'.dst ≠ some t) ∨
    ((∀ (k : Nat) o', l[k]? = some o' → o'.dst ≠ some t ∨ ¬ t < N) ∧ σ t = some x)
  | [], R, σ, t, x, hl, e => by
    right; refine ⟨by simp, ?_⟩
    cases R <;> exact e
  | o :: l, [], _, _, _, hl, _ => by simp at hl
  | o :: l, r :: R, σ, t, x, hl, e => by
    rcases xFold_get (l := l) (R := R) (by simpa using hl) e with ⟨j, o', h1, h2, h3, h4, h5⟩ | ⟨h1, h2⟩
    · left
      refine ⟨j + 1, o', by simpa using h1, h2, h3, by simpa using h4, fun k o'' hk hj => ?_⟩
      cases k with
      | zero => omega
      | succ k => exact h5 k o'' (by simpa using hk) (by omega)
    · rcases putX_get h2 with ⟨g1, g2, g3⟩ | ⟨g1, g2⟩
      · left
        refine ⟨0, o, rfl, g1, g2, by simp [g3], fun k o' hk hj => ?_⟩
        cases k with
        | zero => omega
        | succ k =>
          rcases h1 k o' (by simpa using hk) with h | h
          · exact h
          · exact absurd g2 h
      · right
        refine ⟨fun k o' hk => ?_, g2⟩
        cases k with
        | zero => simp at hk; subst hk; exact g1
        | succ k => exact h1 k o' (by simpa using hk)

theorem lex_spec {ops : Array Oper} : ∀ (fuel k : Nat) (listed : Array Bool), listed.size = ops.size → (∀ j, listed.getD j true = false ↔ k ≤ j ∧ j < ops.size) → k + fuel = ops.size → Region.lexFrom .any ops fuel k listed = true →
    ∀ i o, k ≤ i → ops[i]? = some o → (∀ e ∈ o.after, Region.binds .any e = true → e.on < i) ∧ ∀ (j : Nat) oj, i < j → ops[j]? = some oj → (∀ e ∈ oj.after, Region.binds .any e = true → e.on ≠ i) → o.apart ops oj = true
  | 0, k, listed, _, _, hk, _, i, o, hi, ho => by have := (Array.getElem?_eq_some_iff.1 ho).1; omega
  | fuel + 1, k, listed, hs, hl, hk, hB, i, o, hi, ho => by
    simp only [Region.lexFrom, Bool.and_eq_true] at hB
    obtain ⟨⟨hr, hf⟩, hB'⟩ := hB
    rcases Nat.lt_or_eq_of_le hi with hlt | rfl
    · refine lex_spec fuel (k + 1) (listed.setIfInBounds k true) (by simpa using hs) (fun j => ?_) (by omega) hB' i o (by omega) ho
      by_cases hjk : k = j
      · subst hjk
        have : k < listed.size := by omega
        simp [this]; omega
      · rw [getD_set_ne true hjk, hl j]; omega
    · have hr' : k ∈ Region.ready .any ops listed := by simpa using hr
      obtain ⟨_, o', ho', hall⟩ := mem_ready.1 hr'
      rw [ho] at ho'; cases ho'
      refine ⟨fun e he hb => ?_, fun j oj hj hoj hno => Region.free_spec ho hf j oj hoj (by omega) ((hl j).2 ⟨by omega, (Array.getElem?_eq_some_iff.1 hoj).1⟩) hno⟩
      have h1 := hall e he hb
      rcases Nat.lt_or_ge e.on k with h | h
      · exact h
      · exfalso
        rcases Nat.lt_or_ge e.on ops.size with h' | h'
        · have h2 := (hl e.on).2 ⟨h, h'⟩
          simp at h1 h2
          rcases Nat.lt_or_ge e.on listed.size with h3 | h3
          · simp [h3] at h1 h2; rw [h2] at h1; cases h1
          · simp [Array.getElem?_eq_none h3] at h1
        · have h3 : listed.size ≤ e.on := by omega
          simp [Array.getElem?_eq_none h3] at h1
end
end GA
end

section
namespace GA
open Go Go.RowKit
set_option linter.unusedVariables false

section
variable {P : Program} {T : Tab} {N : Nat} {ρ : Option Nat} {own : List Nat} {E : Env} {h : Nat → Option Obj} {β : Nat → Value} {H : List Blk} {w : World} {σ σ' : St} {a : Act} {ops : List Oper} {eff : List Nat} {HS : List Bool → List Blk}

def isL (listed : Array Bool) (j : Nat) : Prop := listed.getD j false = true
def Closed (ops : List Oper) (listed : Array Bool) : Prop := ∀ (j : Nat) o, ops[j]? = some o → isL listed j → ∀ e ∈ o.after, Region.binds .any e = true → isL listed e.on
structure DInv (P : Program) (E : Env) (N : Nat) (ops : List Oper) (eff : List Nat) (HS : List Bool → List Blk) (R : List AV) (σ : St) (a0 : Act) (h0 : Nat → Option Obj) (β0 : Nat → Value) (H0 : List Blk) (listed : Array Bool) (a : Act) (w : World) : Prop where
  size : listed.size = ops.length
  closed : Closed ops listed
  st : ∃ h β, Ext h0 β0 H0 h β (HS (flagsOf eff listed)) ∧ SR P E h β (HS (flagsOf eff listed)) w ∧
    (∀ t r, σ t = some r → (∀ (j : Nat) o, ops[j]? = some o → isL listed j → o.dst ≠ some t ∨ ¬ t < N) → ∃ v, a.tmps[t]? = some v ∧ Rep P h β (HS (flagsOf eff listed)) r v) ∧
    (∀ (j : Nat) o d r, ops[j]? = some o → isL listed j → o.dst = some d → d < N → R[j]? = some r → (∀ (k : Nat) ok, ops[k]? = some ok → isL listed k → j < k → ok.dst ≠ some d) → ∃ v, a.tmps[d]? = some v ∧ Rep P h β (HS (flagsOf eff listed)) r v)
  keeps : Keeps a0 a

theorem dep_iff {o : Oper} {j : Nat} : dep o j = true ↔ ∃ e ∈ o.after, Region.binds .any e = true ∧ e.on = j := by
  unfold dep; rw [List.any_eq_true]
  constructor
  · rintro ⟨e, h1, h2⟩
    simp only [Bool.and_eq_true] at h2
    exact ⟨e, by simpa using h1, h2.1, Nat.eq_of_beq_eq_true h2.2⟩
  · rintro ⟨e, h1, h2, h3⟩
    exact ⟨e, by simpa using h1, by subst h3; simp [h2]⟩
theorem flags_zip {listed : Array Bool} {p : Nat × Bool} : ∀ {eff : List Nat}, p ∈ eff.zip (flagsOf eff listed) → p.2 = listed.getD p.1 false
  | [], h => by simp at h
  | j :: eff, h => by
    simp only [flagsOf, List.map_cons, List.zip_cons_cons] at h
    rcases List.mem_cons.1 h with h | h
    · subst h; rfl
    · exact flags_zip h
theorem opAt_spec {j : Nat} {f : Oper → Bool} (h : ∀ o, ops[j]? = some o → f o = true) : opAt ops j f = true := by
  unfold opAt; rw [lget_eq]; split
  · rename_i e; exact h _ e
  · rfl
theorem compat_flags {listed : Array Bool} {i : Nat} (hc : Closed ops listed) (hi : ¬ isL listed i) (hr : ∀ o, ops[i]? = some o → ∀ e ∈ o.after, Region.binds .any e = true → isL listed e.on) : compat ops eff i (flagsOf eff listed) = true := by
  unfold compat
  rw [List.all_eq_true]
  rintro ⟨j, b⟩ hp
  have hb := flags_zip hp
  simp only at hb; subst hb
  simp only [Bool.and_eq_true]
  refine ⟨⟨⟨opAt_spec fun o ho => ?_, ?_⟩, opAt_spec fun o ho => ?_⟩, ?_⟩
  · cases hd : dep o j with
    | false => rfl
    | true => obtain ⟨e, h1, h2, h3⟩ := dep_iff.1 hd; have := hr o ho e h1 h2; rw [h3] at this; simpa [isL] using this
  · cases hd : Nat.beq j i with
    | false => rfl
    | true => have := Nat.eq_of_beq_eq_true hd; subst this; simpa [isL] using hi
  · cases hd : dep o i with
    | false => rfl
    | true =>
      obtain ⟨e, h1, h2, h3⟩ := dep_iff.1 hd
      cases hl : listed.getD j false with
      | false => rfl
      | true => exact absurd (h3 ▸ hc j o ho hl e h1 h2) hi
  · cases hl : listed.getD j false with
    | false => rfl
    | true =>
      simp only [Bool.not_true, Bool.false_or]
      rw [List.all_eq_true]
      rintro ⟨j', b'⟩ hp'
      have hb' := flags_zip hp'
      simp only at hb'; subst hb'
      refine opAt_spec fun o ho => ?_
      cases hd : dep o j' with
      | false => rfl
      | true => obtain ⟨e, h1, h2, h3⟩ := dep_iff.1 hd; have := hc j o ho hl e h1 h2; rw [h3] at this; simpa [isL] using this

theorem isL_set {listed : Array Bool} {i j : Nat} (hi : i < listed.size) : isL (listed.setIfInBounds i true) j ↔ j = i ∨ isL listed j := by
  unfold isL
  by_cases h : i = j
  · subst h; simp [hi]
  · rw [getD_set_ne false h]; simp [Ne.symm h]
theorem flags_set {listed : Array Bool} {i : Nat} (hi : i < listed.size) : ∀ (eff : List Nat), flagsOf eff (listed.setIfInBounds i true) = setF eff i (flagsOf eff listed)
  | [] => rfl
  | j :: eff => by
    simp only [flagsOf, setF, List.map_cons, List.zipWith_cons_cons]
    congr 1
    · by_cases h : i = j
      · subst h; simp [hi]
      · rw [getD_set_ne false h]
        cases hb : Nat.beq j i with
        | true => exact absurd (Nat.eq_of_beq_eq_true hb).symm h
        | false => simp
    · exact flags_set hi eff

theorem DInv.step {R : List AV} {a0 : Act} {h0 : Nat → Option Obj} {β0 : Nat → Value} {H0 : List Blk} {Q : Exit → Act → World → Prop} (ok : TabOk P T) (hN : a0.tmps.size = N)
    (hlex : ∀ (i : Nat) o, ops[i]? = some o → ∀ (j : Nat) oj, i < j → ops[j]? = some oj → (∀ e ∈ oj.after, Region.binds .any e = true → e.on ≠ i) → o.apart ops.toArray oj = true)
    (hchk : ChkAll P T N own ops eff HS 0 ops R σ) {listed : Array Bool} {a : Act} {w : World} (I : DInv P E N ops eff HS R σ a0 h0 β0 H0 listed a w) {i : Nat} (hi : i ∈ Region.ready .any ops.toArray listed) :
    wpOpIn (FW ρ) 0 P ops.toArray Q i (DInv P E N ops eff HS R σ a0 h0 β0 H0 (listed.setIfInBounds i true)) a w := by
  obtain ⟨hnot, o, ho, hall⟩ := mem_ready.1 hi
  have ho' : ops[i]? = some o := by simpa using ho
  have hilt : i < ops.length := (List.getElem?_eq_some_iff.1 ho').1
  have hils : i < listed.size := by rw [I.size]; exact hilt
  have hni : ¬ isL listed i := by unfold isL; simp [hils] at hnot ⊢; exact hnot
  obtain ⟨hRl, hget⟩ := hchk.get
  obtain ⟨r, hr, hc⟩ := hget i o ho'
  rw [Nat.zero_add] at hc
  have hC := hc (flagsOf eff listed) (by simp [flagsOf]) (compat_flags I.closed hni fun o' h e he hb => by rw [ho'] at h; cases h; exact hall e he hb)
  obtain ⟨h, β, X, s, K1, K2⟩ := I.st
  -- edges
  have edge : ∀ (j : Nat) oj, ops[j]? = some oj → i < j → isL listed j → o.apart ops.toArray oj = true := fun j oj hj hij hl =>
    hlex i o ho' j oj hij hj fun e he hb heq => hni (heq ▸ I.closed j oj hj hl e he hb)
  have edge' : ∀ (j : Nat) oj, ops[j]? = some oj → j < i → ¬ isL listed j → oj.apart ops.toArray o = true := fun j oj hj hij hl =>
    hlex j oj hj i o hij ho' fun e he hb heq => hl (heq ▸ hall e he hb)
  -- what is looked at
  let σ₁ := xFold N (ops.take i) (R.take i) σ
  let σ₂ : St := fun t => if t ∈ o.looksAt ops.toArray then σ₁ t else none
  have hF : Fits P h β (HS (flagsOf eff listed)) σ₂ a := by
    intro t x ex
    simp only [σ₂] at ex
    split at ex
    · rename_i hlook
      rcases xFold_get (by simp [hRl]) ex with ⟨j, oj, h1, h2, h3, h4, h5⟩ | ⟨h1, h2⟩
      · have hji : j < i := by have := (List.getElem?_eq_some_iff.1 h1).1; simp at this; omega
        have h1' : ops[j]? = some oj := by rw [List.getElem?_take, if_pos hji] at h1; exact h1
        have h4' : R[j]? = some x := by rw [List.getElem?_take, if_pos hji] at h4; exact h4
        have hjl : isL listed j := by
          by_cases hl : isL listed j
          · exact hl
          · exact absurd hlook ((Oper.apart_spec (edge' j oj h1' hji hl)).1 t h2)
        refine K2 j oj t x h1' hjl h2 h3 h4' fun k ok hk hkl hjk => ?_
        rcases Nat.lt_trichotomy k i with hki | rfl | hki
        · exact h5 k ok (by rw [List.getElem?_take, if_pos hki]; exact hk) hjk
        · exact absurd hkl hni
        · intro hd; exact (Oper.apart_spec (edge k ok hk hki hkl)).2.2 t hd hlook
      · refine K1 t x h2 fun j oj hj hjl => ?_
        rcases Nat.lt_trichotomy j i with hji | rfl | hji
        · exact h1 j oj (by rw [List.getElem?_take, if_pos hji]; exact hj)
        · exact absurd hjl hni
        · left; intro hd; exact (Oper.apart_spec (edge j oj hj hji hjl)).2.2 t hd hlook
    · cases ex
  have hk2 : Knows σ₁ σ₂ o.op.operands.toList := by
    intro t ht x ex
    have : t ∈ o.looksAt ops.toArray := by
      unfold Oper.looksAt; rw [List.mem_append]; left; rw [List.mem_filterMap]; exact ⟨.tmp t, ht, rfl⟩
    simp only [σ₂]; rw [if_pos this]; exact ex
  have hg1 := xGate_gate hC
  have hg2 : gate ops σ₂ o.guard (XOp P T own o.dst σ₁ (HS (flagsOf eff listed)) (fun r' H' => XSame r' H' r (HS (setF eff i (flagsOf eff listed)))) o.op) (XSame (.tup []) (HS (flagsOf eff listed)) r (HS (setF eff i (flagsOf eff listed)))) := by
    unfold gate at hg1 ⊢
    cases hgd : o.guard with
    | none => rw [hgd] at hg1; exact hg1
    | some p =>
      obtain ⟨j, want⟩ := p
      rw [hgd] at hg1
      obtain ⟨d, e1, e2⟩ := bnd_elim hg1
      obtain ⟨x, e3, e4⟩ := bnd_elim e2
      have : d ∈ o.looksAt ops.toArray := by
        unfold Oper.looksAt; rw [List.mem_append]; right; rw [hgd]; simp only [List.getElem?_toArray, e1]; simp
      have e5 : σ₂ d = some x := by simp only [σ₂]; rw [if_pos this]; exact e3
      simp only [e1, bnd_some, e5]; exact e4
  -- the next state
  have next : ∀ (v : Value) h' β' w', Ext h β (HS (flagsOf eff listed)) h' β' (HS (setF eff i (flagsOf eff listed))) → SR P E h' β' (HS (setF eff i (flagsOf eff listed))) w' → Rep P h' β' (HS (setF eff i (flagsOf eff listed))) r v →
      DInv P E N ops eff HS R σ a0 h0 β0 H0 (listed.setIfInBounds i true) (a.put o.dst v) w' := by
    intro v h' β' w' X' s' hrep
    have hsz : a.tmps.size = N := I.keeps.size.trans hN
    refine ⟨by simpa using I.size, fun j oj hj hl e he hb => ?_, ⟨h', β', ?_, ?_, ?_, ?_⟩, ⟨(size_put _ _ _).trans I.keeps.size, (defers_put _ _ _).trans I.keeps.defers⟩⟩
    · rw [isL_set hils] at hl ⊢
      rcases hl with rfl | hl
      · rw [ho'] at hj; cases hj; exact .inr (hall e he hb)
      · exact .inr (I.closed j oj hj hl e he hb)
    · rw [flags_set hils]; exact X.trans X'
    · rw [flags_set hils]; exact s'
    · rw [flags_set hils]
      intro t x ex hno
      obtain ⟨u, g1, g2⟩ := K1 t x ex fun j oj hj hl => hno j oj hj ((isL_set hils).2 (.inr hl))
      refine ⟨u, ?_, X'.rep g2⟩
      have hd := hno i o ho' ((isL_set hils).2 (.inl rfl))
      cases hdst : o.dst with
      | none => exact g1
      | some d =>
        simp only [Act.put]
        by_cases hdt : d = t
        · subst hdt
          rcases hd with hd | hd
          · exact absurd hdst hd
          · rw [Array.setIfInBounds_eq_of_size_le (by omega)]; exact g1
        · rw [Array.getElem?_setIfInBounds_ne hdt]; exact g1
    · rw [flags_set hils]
      intro j oj d x hj hl hd hdN hx hlast
      rw [isL_set hils] at hl
      by_cases hji : j = i
      · subst hji
        rw [ho'] at hj; cases hj
        rw [hr] at hx; cases hx
        exact ⟨v, by rw [hd]; simp [Act.put, hsz, hdN], hrep⟩
      · have hl : isL listed j := hl.resolve_left hji
        obtain ⟨u, g1, g2⟩ := K2 j oj d x hj hl hd hdN hx fun k ok hk hkl hjk => hlast k ok hk ((isL_set hils).2 (.inr hkl)) hjk
        refine ⟨u, ?_, X'.rep g2⟩
        have hne : o.dst ≠ some d := by
          intro hod
          rcases Nat.lt_trichotomy j i with hlt | heq | hlt
          · exact hlast i o ho' ((isL_set hils).2 (.inl rfl)) hlt hod
          · exact hji heq
          · exact (Oper.apart_spec (edge j oj hj hlt hl)).2.1 d hod hd
        cases hdst : o.dst with
        | none => exact g1
        | some d' =>
          simp only [Act.put]
          rw [Array.getElem?_setIfInBounds_ne (fun e => hne (by rw [hdst, e]))]; exact g1
  unfold wpOpIn
  simp only [ho]
  rcases gate_wanted hF hg2 with ⟨hw, hA⟩ | ⟨hw, hB⟩
  · rw [if_pos hw]
    refine AOp.sound (AOp_look hk2 (hA.sound ok)) s hF ?_
    intro r' H' h' β' w' v hk' X' s' hrep
    obtain ⟨e1, e2⟩ := hk'
    subst e1; subst e2
    exact next v h' β' w' X' s' hrep
  · rw [if_neg (by rw [hw]; simp)]
    refine ⟨fun _ _ => trivial, ?_⟩
    obtain ⟨e1, e2⟩ := hB
    refine next undef h β w ?_ ?_ ?_
    · rw [← e2]; exact Ext.refl _ _ _
    · rw [← e2]; exact s
    · rw [← e1]; exact rep_undef

theorem unl_zero {listed : Array Bool} (h : (List.range listed.size).countP (fun j => !listed.getD j false) = 0) {j : Nat} (hj : j < listed.size) : isL listed j := by
  rw [List.countP_eq_zero] at h
  have := h j (by simpa using hj)
  simpa [isL] using this
theorem unl_set {listed : Array Bool} {i : Nat} (hi : i < listed.size) (hn : ¬ isL listed i) :
    (List.range (listed.setIfInBounds i true).size).countP (fun j => !(listed.setIfInBounds i true).getD j false) + 1 = (List.range listed.size).countP (fun j => !listed.getD j false) := by
  have e : ∀ n, n ≤ listed.size → (List.range n).countP (fun j => !(listed.setIfInBounds i true).getD j false) + (if i < n then 1 else 0) = (List.range n).countP (fun j => !listed.getD j false) := by
    intro n
    induction n with
    | zero => intro _; simp
    | succ n ih =>
      intro hn'
      have ih := ih (by omega)
      rw [List.range_succ, List.countP_append, List.countP_append, ← ih]
      by_cases h : i = n
      · subst h
        have h1 : listed.getD i false = false := by unfold isL at hn; simpa using hn
        have h2 : (listed.setIfInBounds i true).getD i false = true := by simp [hi]
        simp only [List.countP_cons, List.countP_nil, h1, h2]
        simp
      · rw [show List.countP (fun j => !(listed.setIfInBounds i true).getD j false) [n] = List.countP (fun j => !listed.getD j false) [n] by simp only [List.countP_cons, List.countP_nil, getD_set_ne false h]]
        split <;> split <;> omega
  have := e listed.size (Nat.le_refl _)
  rw [if_pos hi] at this
  simpa using this

theorem DInv.any {R : List AV} {a0 : Act} {h0 : Nat → Option Obj} {β0 : Nat → Value} {H0 : List Blk} {Q : Exit → Act → World → Prop} (ok : TabOk P T) (hN : a0.tmps.size = N) (hs : Region.lexB .any ops.toArray = true)
    (hchk : ChkAll P T N own ops eff HS 0 ops R σ) (hQ : ∀ listed a w, DInv P E N ops eff HS R σ a0 h0 β0 H0 listed a w → (∀ j, j < ops.length → isL listed j) → Q .normal a w) :
    ∀ (fuel : Nat) (listed : Array Bool) (a : Act) (w : World), (List.range listed.size).countP (fun j => !listed.getD j false) = fuel → DInv P E N ops eff HS R σ a0 h0 β0 H0 listed a w → wpAnyIn (FW ρ) 0 P .any ops.toArray Q fuel listed a w := by
  simp only [Region.lexB, Bool.and_eq_true] at hs
  have hspec := lex_spec (ops := ops.toArray) ops.toArray.size 0 (Array.replicate ops.toArray.size false) (by simp) (fun j => by
    simp only [Array.getD_eq_getD_getElem?, Array.getElem?_replicate]
    split <;> simp_all) (by simp) hs.2
  have hlex : ∀ (i : Nat) o, ops[i]? = some o → ∀ (j : Nat) oj, i < j → ops[j]? = some oj → (∀ e ∈ oj.after, Region.binds .any e = true → e.on ≠ i) → o.apart ops.toArray oj = true :=
    fun i o ho j oj hij hj hno => (hspec i o (Nat.zero_le _) (by simpa using ho)).2 j oj hij (by simpa using hj) hno
  -- who is ready when nobody is
  have hready : ∀ listed a w, DInv P E N ops eff HS R σ a0 h0 β0 H0 listed a w → Region.ready .any ops.toArray listed = [] → ∀ j, j < ops.length → isL listed j := by
    intro listed a w I hr j
    induction j using Nat.strongRecOn with
    | _ j ih =>
      intro hj
      by_cases hl : isL listed j
      · exact hl
      · exfalso
        have : j ∈ Region.ready .any ops.toArray listed := by
          rw [mem_ready]
          refine ⟨?_, ops[j], by simp [hj], fun e he hb => ?_⟩
          · have hjs : j < listed.size := by rw [I.size]; exact hj
            unfold isL at hl; simp [hjs] at hl ⊢; exact hl
          · have h1 := (hspec j ops[j] (Nat.zero_le _) (by simp [hj])).1 e he hb
            exact ih e.on h1 (by omega)
        rw [hr] at this; cases this
  intro fuel
  induction fuel with
  | zero =>
    intro listed a w hc I
    have hall : ∀ j, j < ops.length → isL listed j := fun j hj => unl_zero hc (by rw [I.size]; exact hj)
    refine ⟨?_, hQ listed a w I hall⟩
    cases hr : Region.ready .any ops.toArray listed with
    | nil => rfl
    | cons j l =>
      have : j ∈ Region.ready .any ops.toArray listed := by rw [hr]; simp
      obtain ⟨h1, o, h2, _⟩ := mem_ready.1 this
      have hj : j < ops.length := by have := (Array.getElem?_eq_some_iff.1 h2).1; simpa using this
      have hjs : j < listed.size := by rw [I.size]; exact hj
      have := hall j hj
      unfold isL at this; simp [hjs] at h1 this; rw [h1] at this; cases this
  | succ fuel ih =>
    intro listed a w hc I
    refine ⟨fun hr => hQ listed a w I (hready listed a w I hr), fun i hi => ?_⟩
    obtain ⟨h1, o, h2, _⟩ := mem_ready.1 hi
    have hj : i < ops.length := by have := (Array.getElem?_eq_some_iff.1 h2).1; simpa using this
    have hjs : i < listed.size := by rw [I.size]; exact hj
    have hn : ¬ isL listed i := by unfold isL; simp [hjs] at h1 ⊢; exact h1
    refine wpOpIn_mono (fun a' w' I' => ih _ a' w' ?_ I') (DInv.step ok hN hlex hchk I hi)
    have := unl_set hjs hn
    omega

theorem Walk.draw {id : Nat} {Q : Post} {D : List Nat} (ok : TabOk P T) (hm : P.follows .mixedOrders = true) (own : List Nat) (eff : List Nat) (HS : List Bool → List Blk) (R : List AV) (hs : Region.lexB .any ops.toArray = true)
    (hH : HS (eff.map fun _ => false) = H) (hchk : ChkAll P T N own ops eff HS 0 ops R σ) (hk : Q .normal D (xFold N ops R σ) (HS (eff.map fun j => Nat.blt j ops.length))) : Walk P N ρ (.region id ops.toArray true) Q D σ H := by
  constructor
  intro E h β a w s
  have hfl0 : flagsOf eff (Array.replicate ops.toArray.size false) = eff.map fun _ => false := by
    unfold flagsOf; apply List.map_congr_left; intro j _
    simp only [Array.getD_eq_getD_getElem?, Array.getElem?_replicate]; split <;> rfl
  have hnl : ∀ j, ¬ isL (Array.replicate ops.toArray.size false) j := by
    intro j; unfold isL
    simp only [Array.getD_eq_getD_getElem?, Array.getElem?_replicate]; split <;> simp
  have I0 : DInv P E N ops eff HS R σ a h β H (Array.replicate ops.toArray.size false) a { w with drawn := w.drawn + 1 } := by
    refine ⟨by simp, fun j o _ hl => absurd hl (hnl j), ⟨h, β, ?_, ?_, fun t r e _ => ?_, fun j o d r _ hl => absurd hl (hnl j)⟩, ⟨rfl, rfl⟩⟩
    · rw [hfl0, hH]; exact Ext.refl _ _ _
    · rw [hfl0, hH]; exact s.sr.drew
    · rw [hfl0, hH]; exact s.fits t r e
  have hcnt : (List.range (Array.replicate ops.toArray.size false).size).countP (fun j => !(Array.replicate ops.toArray.size false).getD j false) = ops.toArray.size := by
    rw [List.countP_eq_length.2]
    · simp
    · intro j _; have := hnl j; unfold isL at this; simpa using this
  refine wpIn_region_any hm (DInv.any ok s.size hs hchk (fun listed a' w' I hall => ?_) _ _ a _ hcnt I0)
  obtain ⟨h', β', X, s', K1, K2⟩ := I.st
  have hfl : flagsOf eff listed = eff.map fun j => Nat.blt j ops.length := by
    unfold flagsOf; apply List.map_congr_left; intro j _
    rcases Nat.lt_or_ge j ops.length with hj | hj
    · have := hall j hj; unfold isL at this; rw [this]; symm; rw [Nat.blt_eq]; exact hj
    · have h1 : listed.getD j false = false := by simp [Array.getElem?_eq_none (show listed.size ≤ j by rw [I.size]; exact hj)]
      rw [h1]; cases hb : Nat.blt j ops.length with
      | false => rfl
      | true => rw [Nat.blt_eq] at hb; omega
  rw [hfl] at X s' K1 K2
  refine ⟨D, _, _, h', β', hk, X, s', fun t x ex => ?_, I.keeps.size.trans s.size, by rw [I.keeps.defers]; exact s.df.ext X⟩
  rcases xFold_get hchk.get.1 ex with ⟨j, oj, h1, h2, h3, h4, h5⟩ | ⟨h1, h2⟩
  · exact K2 j oj t x h1 (hall j (List.getElem?_eq_some_iff.1 h1).1) h2 h3 h4 fun k ok hk _ hjk => h5 k ok hk hjk
  · exact K1 t x h2 fun j o hj _ => h1 j o hj
end
end GA
end

section
namespace GA
open Go Go.RowKit
set_option linter.unusedVariables false

structure XAnd (A B : Prop) : Prop where
  l : A
  r : B
def allF : Nat → List (List Bool)
  | 0 => [[]]
  | n + 1 => (allF n).flatMap fun l => [l ++ [false], l ++ [true]]
def sameF : List Bool → List Bool → Bool
  | [], [] => true
  | true :: l, true :: m => sameF l m
  | false :: l, false :: m => sameF l m
  | _, _ => false
theorem sameF_eq : ∀ {l m : List Bool}, sameF l m = true → l = m
  | [], [], _ => rfl
  | true :: l, true :: m, h => by rw [sameF_eq (l := l) (m := m) h]
  | false :: l, false :: m, h => by rw [sameF_eq (l := l) (m := m) h]
  | [], _ :: _, h => by cases h
  | _ :: _, [], h => by simp [sameF] at h
  | true :: _, false :: _, h => by cases h
  | false :: _, true :: _, h => by cases h
theorem allF_mem : ∀ {n : Nat} {fl : List Bool}, fl.length = n → fl ∈ allF n
  | 0, fl, h => by simp [allF, List.eq_nil_of_length_eq_zero h]
  | n + 1, fl, h => by
    have hne : fl ≠ [] := by intro e; rw [e] at h; simp at h
    have h1 : fl.dropLast ++ [fl.getLast hne] = fl := List.dropLast_concat_getLast hne
    have h2 := allF_mem (n := n) (fl := fl.dropLast) (by simp [h])
    simp only [allF, List.mem_flatMap]
    refine ⟨fl.dropLast, h2, ?_⟩
    cases hb : fl.getLast hne with
    | true => rw [hb] at h1; rw [h1]; simp
    | false => rw [hb] at h1; rw [h1]; simp

section
variable (P : Program) (T : Tab) (N : Nat) (own : List Nat) (ops : List Oper) (eff : List Nat) (HS : List Bool → List Blk)
def textF (i : Nat) : List Bool := eff.map fun j => Nat.blt j i
def ChkA : Nat → List Oper → List AV → St → Prop
  | _, [], [], _ => True
  | i, o :: l, r :: R, σ => XAnd (Chk P T own ops eff HS i o σ r (textF eff i)) (ChkA (i + 1) l R (putX N σ o.dst r))
  | _, _, _, _ => False
def ChkF (fl : List Bool) : Nat → List Oper → List AV → St → Prop
  | i, o :: l, r :: R, σ => match compat ops eff i fl && !sameF fl (textF eff i) with
    | true => XAnd (Chk P T own ops eff HS i o σ r fl) (ChkF fl (i + 1) l R (putX N σ o.dst r))
    | false => ChkF fl (i + 1) l R (putX N σ o.dst r)
  | _, _, _, _ => True
def ChkB (R : List AV) (σ : St) : List (List Bool) → Prop
  | [] => True
  | fl :: fls => XAnd (ChkF P T N own ops eff HS fl 0 ops R σ) (ChkB R σ fls)
end
section
variable {P : Program} {T : Tab} {N : Nat} {own : List Nat} {ops : List Oper} {eff : List Nat} {HS : List Bool → List Blk}
theorem ChkF.all : ∀ {l : List Oper} {R : List AV} {i : Nat} {σ : St}, ChkA P T N own ops eff HS i l R σ → (∀ fl, fl.length = eff.length → ChkF P T N own ops eff HS fl i l R σ) → ChkAll P T N own ops eff HS i l R σ
  | [], [], _, _, _, _ => trivial
  | o :: l, r :: R, i, σ, hA, hB => by
    refine ⟨fun fl hf hc => ?_, ChkF.all hA.r fun fl hf => ?_⟩
    · cases hs : sameF fl (textF eff i) with
      | true => rw [sameF_eq hs]; exact hA.l
      | false =>
        have := hB fl hf
        simp only [ChkF, hc, hs] at this
        exact this.l
    · have := hB fl hf
      simp only [ChkF] at this
      split at this
      · exact this.r
      · exact this
  | [], _ :: _, _, _, h, _ => h.elim
  | _ :: _, [], _, _, h, _ => h.elim
theorem ChkB.get {R : List AV} {σ : St} : ∀ {fls : List (List Bool)}, ChkB P T N own ops eff HS R σ fls → ∀ fl ∈ fls, ChkF P T N own ops eff HS fl 0 ops R σ
  | fl :: fls, h, f, hf => by
    rcases List.mem_cons.1 hf with rfl | hf
    · exact h.l
    · exact ChkB.get h.r f hf

def hsC (l : List (List Blk)) (fl : List Bool) : List Blk := match lget l (fl.countP id) with | some H => H | none => []
def bin : List Bool → Nat
  | [] => 0
  | true :: l => 2 * bin l + 1
  | false :: l => 2 * bin l
theorem Walk.drawX {ρ : Option Nat} {id : Nat} {Q : Post} {D : List Nat} {σ : St} {H : List Blk} (ok : TabOk P T) (hm : P.follows .mixedOrders = true) (own : List Nat) (eff : List Nat) (HS : List Bool → List Blk) (R : List AV) (hs : Region.lexB .any ops.toArray = true)
    (hH : HS (eff.map fun _ => false) = H) (hA : ChkA P T N own ops eff HS 0 ops R σ) (hB : ChkB P T N own ops eff HS R σ (allF eff.length)) (hk : Q .normal D (xFold N ops R σ) (HS (eff.map fun j => Nat.blt j ops.length))) : Walk P N ρ (.region id ops.toArray true) Q D σ H :=
  .draw ok hm own eff HS R hs hH (ChkF.all hA fun fl hf => hB.get fl (allF_mem hf)) hk
theorem ChkA.go {i : Nat} {l : List Oper} {R : List AV} {σ : St} (h : ChkA P T N own ops eff HS i l R σ) : ChkA P T N own ops eff HS i l R σ := h
theorem ChkF.go {fl : List Bool} {i : Nat} {l : List Oper} {R : List AV} {σ : St} (h : ChkF P T N own ops eff HS fl i l R σ) : ChkF P T N own ops eff HS fl i l R σ := h
theorem ChkB.go {R : List AV} {σ : St} {fls : List (List Bool)} (h : ChkB P T N own ops eff HS R σ fls) : ChkB P T N own ops eff HS R σ fls := h
theorem Chk.go {i : Nat} {o : Oper} {σ : St} {r : AV} {fl : List Bool} (h : Chk P T own ops eff HS i o σ r fl) : Chk P T own ops eff HS i o σ r fl := h
end
end GA
end

section
namespace GA
open Go Go.RowKit Go.Proofs
set_option pp.deepTerms true
set_option maxRecDepth 8000
set_option linter.unusedVariables false
theorem mixed_ok : Try.prog.follows .mixedOrders = true := by kernel_rfl

theorem find_none {α : Type} {p : α → Bool} {xs : List α} {d : α} (h : ∀ j, j < xs.length → p (xs.getD j d) = false) : xs.findIdx? p = none := by
  rw [List.findIdx?_eq_none_iff]; intro x hx
  obtain ⟨j, hj, rfl⟩ := List.mem_iff_getElem.1 hx
  have := h j hj; rwa [List.getD_eq_getElem?_getD, List.getElem?_eq_getElem hj] at this
theorem find_some {α : Type} {p : α → Bool} {xs : List α} {d : α} {i : Nat} (hi : i < xs.length) (hp : p (xs.getD i d) = true) (h : ∀ j, j < i → p (xs.getD j d) = false) : xs.findIdx? p = some i := by
  rw [List.findIdx?_eq_some_iff_getElem]
  refine ⟨hi, by rwa [List.getD_eq_getElem?_getD, List.getElem?_eq_getElem hi] at hp, fun j hj => ?_⟩
  have := h j hj; rw [List.getD_eq_getElem?_getD, List.getElem?_eq_getElem (by omega)] at this; simpa using this
theorem getD_mem {α : Type} {xs : List α} {d : α} {i : Nat} (hi : i < xs.length) : xs.getD i d ∈ xs := by
  rw [List.getD_eq_getElem?_getD, List.getElem?_eq_getElem hi]; exact List.getElem_mem hi
def idxR {α : Type} (p : α → Bool) (xs : List α) : Int := match xs.findIdx? p with | some i => i | none => -1
theorem idxR_pos {α : Type} {p : α → Bool} {xs : List α} : (0 ≤ idxR p xs) ↔ xs.any p = true := by
  unfold idxR
  cases h : xs.findIdx? p with
  | none => rw [List.findIdx?_eq_none_iff] at h; simp; intro x hx; simpa using h x hx
  | some i =>
    rw [List.findIdx?_eq_some_iff_getElem] at h; obtain ⟨h1, h2, _⟩ := h
    simp; exact ⟨_, List.getElem_mem h1, h2⟩

def inB (n lo hi : Int) : Bool := decide (lo ≤ n) && decide (n ≤ hi)
theorem in_c (n lo hi : Int) : Comp Try.prog 92 [.int .i64 n, .int .i64 lo, .int .i64 hi] (.bool (inB n lo hi)) := by
  refine Comp.body (T := tab) (res := [.tmp 6]) tab_ok [] Try.func92 rfl (by kernel_rfl) Try.ntmps92 rfl (by simp only [List.length_cons, List.length_nil]; decide) (by rfl) ?_; conv => whnf
  repeat' first | ((first | (with_reducible apply XBr.tt) | (with_reducible apply XBr.ff)); conv => whnf) | ((with_reducible apply XBr.dec) <;> (intro h; first | (exfalso; omega) | ((try simp only [List.length_map] at h); first | (exfalso; omega) | (conv => whnf))))
  all_goals (refine XOut.bool ?_; rw [Bool.eq_iff_iff]; simp [inB]; try omega)

theorem idxf_int (nl : Bool) (xs : List Int) (g : FuncId) (caps : List AV) (p : Int → Bool) (hl : lowL 0 caps = true) (hx : xs.length ≤ 100000) (hp : ∀ x ∈ xs, Comp Try.prog g (.int .i64 x :: caps) (.bool (p x))) :
    Comp Try.prog 97 [.sl nl (ints xs), .fn g caps] (.int .i64 (idxR p xs)) := by
  refine Comp.body (T := tab) (res := [.tmp 4]) tab_ok [] Try.func97 rfl (by kernel_rfl) Try.ntmps97 rfl (by simp only [List.length_cons, List.length_nil]; decide) (by simp only [lowL, AV.low, lowI, hl]; rfl) ?_; conv => whnf
  refine Walk.loop tab_ok [] (fun i : Nat => i ≤ xs.length ∧ ∀ j, j < i → p (xs.getD j default) = false) (fun i => [(0, .sl nl (ints xs)), (1, .fn g caps), (7, .int .i64 xs.length), (8, .int .i64 i)]) (fun _ => []) (fun i => xs.length - i) 0 ⟨by omega, by omega⟩ rfl ⟨rfl, rfl, by simp only [List.length_map]; rfl, rfl, trivial⟩ ?_
  rintro i ⟨h2, h3⟩
  conv => whnf
  repeat' first | ((with_reducible apply XBr.dec) <;> (intro h; first | (exfalso; omega) | ((try simp only [List.length_map] at h); first | (exfalso; omega) | (conv => whnf)))) | (((with_reducible refine XIx.nat ?_ ?_ ?_); omega; (intro _; rfl)); conv => whnf)
  · refine XCall.ret (hp _ (getD_mem (i := i) (d := default) (by omega))) ?_
    conv => whnf
    refine XBr.mk' ?_ ?_ <;> intro h4 <;> (conv => whnf)
    · refine XOut.int ?_
      simp only [idxR, find_some (d := default) (i := i) (by omega) h4 h3]
    · skip
      repeat' first | ((with_reducible refine XInt.i64 (by omega) (by omega) ?_); conv => whnf)
      refine XAgain.go (i + 1) ⟨by omega, fun j hj => ?_⟩ (by omega) rfl ⟨rfl, rfl, rfl, rfl, trivial⟩
      by_cases hji : j = i
      · subst hji; exact h4
      · exact h3 j (by omega)
  · refine XOut.int ?_
    simp only [idxR, find_none (d := default) fun j hj => h3 j (by omega)]
theorem contf_int (nl : Bool) (xs : List Int) (g : FuncId) (caps : List AV) (p : Int → Bool) (hl : lowL 0 caps = true) (hx : xs.length ≤ 100000) (hp : ∀ x ∈ xs, Comp Try.prog g (.int .i64 x :: caps) (.bool (p x))) :
    Comp Try.prog 138 [.sl nl (ints xs), .fn g caps] (.bool (xs.any p)) := by
  refine Comp.body (T := tab) (res := [.tmp 4]) tab_ok [] Try.func138 rfl (by kernel_rfl) Try.ntmps138 rfl (by simp only [List.length_cons, List.length_nil]; decide) (by simp only [lowL, AV.low, lowI, hl]; rfl) ?_; conv => whnf
  refine XCall.ret (idxf_int nl xs g caps p hl hx hp) ?_
  conv => whnf
  refine XOut.bool ?_
  rw [Bool.eq_iff_iff, decide_eq_true_eq]; exact idxR_pos
theorem every1_int (x : Int) (g : FuncId) (caps : List AV) (p : Int → Bool) (hl : lowL 0 caps = true) (hp : Comp Try.prog g (.int .i64 x :: caps) (.bool (p x))) :
    Comp Try.prog 139 [.int .i64 x, .pim [.fn g caps]] (.bool (!p x)) := by
  refine Comp.body (T := tab) (res := [.tmp 3]) tab_ok [] Try.func139 rfl (by kernel_rfl) Try.ntmps139 rfl (by simp only [List.length_cons, List.length_nil]; decide) (by simp only [lowL, AV.low, hl]; rfl) ?_; conv => whnf
  refine XCall.ret hp ?_
  conv => whnf
  exact XOut.bool rfl
theorem every_int (nl : Bool) (xs : List Int) (g : FuncId) (caps : List AV) (p : Int → Bool) (hl : lowL 0 caps = true) (hx : xs.length ≤ 100000) (hp : ∀ x ∈ xs, Comp Try.prog g (.int .i64 x :: caps) (.bool (p x))) :
    Comp Try.prog 99 [.sl nl (ints xs), .fn g caps] (.bool (xs.all p)) := by
  refine Comp.body (T := tab) (res := [.tmp 4]) tab_ok [] Try.func99 rfl (by kernel_rfl) Try.ntmps99 rfl (by simp only [List.length_cons, List.length_nil]; decide) (by simp only [lowL, AV.low, lowI, hl]; rfl) ?_; conv => whnf
  refine XCall.ret (contf_int nl xs 139 [.pim [.fn g caps]] (fun x => !p x) (by simp only [lowL, AV.low, hl]; rfl) hx fun x hm => every1_int x g caps p hl (hp x hm)) ?_
  conv => whnf
  refine XOut.bool ?_
  rw [List.not_any_eq_all_not]; simp
theorem riddled1_c (x : Int) : Comp Try.prog 136 [.int .i64 x] (.bool (inB x 1 40)) := by
  refine Comp.body (T := tab) (res := [.tmp 2]) tab_ok [] Try.func136 rfl (by kernel_rfl) Try.ntmps136 rfl (by simp only [List.length_cons, List.length_nil]; decide) (by rfl) ?_; conv => whnf
  refine XCall.ret (in_c _ _ _) ?_
  conv => whnf
  exact XOut.bool rfl
def riddledR (xs : List Int) (g : Int) : Int := if 100 < xs.length then 2 else if xs.all (inB · 1 40) && inB g 1 40 then 0 else 3
theorem riddled_c (nl : Bool) (xs : List Int) (g : Int) (hx : xs.length ≤ 100000) : Comp Try.prog 89 [.sl nl (ints xs), .int .i64 g] (.int .i64 (riddledR xs g)) := by
  refine Comp.body (T := tab) (res := [.tmp 4]) tab_ok [] Try.func89 rfl (by kernel_rfl) Try.ntmps89 rfl (by simp only [List.length_cons, List.length_nil]; decide) (by simp only [lowL, AV.low, lowI]; rfl) ?_; conv => whnf
  repeat' first | ((with_reducible apply XBr.dec) <;> (intro h; first | (exfalso; omega) | ((try simp only [List.length_map] at h); first | (exfalso; omega) | (conv => whnf))))
  · refine XOut.int ?_
    unfold riddledR; rw [if_pos (by omega)]
  refine XCall.ret (every_int nl xs 136 [] (inB · 1 40) rfl hx fun x _ => riddled1_c x) ?_
  conv => whnf
  refine XBr.not (XBr.mk' ?_ ?_) <;> intro h4 <;> (conv => whnf)
  · skip
    repeat' first | ((with_reducible apply XBr.ff); conv => whnf)
    refine XCall.ret (riddled1_c _) ?_
    conv => whnf
    repeat' first | ((with_reducible apply XBr.ff); conv => whnf) | (with_reducible apply XBr.not) | ((with_reducible apply XBr.mk') <;> (intro h; conv => whnf))
    · refine XOut.int ?_
      unfold riddledR; rw [if_neg (by omega)]; simp [h4, h]
    · refine XOut.int ?_
      unfold riddledR; rw [if_neg (by omega)]; simp [h4, h]
  · skip
    repeat' first | ((with_reducible apply XBr.tt); conv => whnf)
    refine XOut.int ?_
    unfold riddledR; rw [if_neg (by omega)]; simp [h4]
end GA
end

section
namespace GA
open Go Go.RowKit Go.Proofs
set_option pp.deepTerms true
set_option maxRecDepth 8000
set_option linter.unusedVariables false

theorem eq_of_getD {α : Type} {xs ys : List α} {d : α} (hl : xs.length = ys.length) (h : ∀ j, j < xs.length → xs.getD j d = ys.getD j d) : xs = ys := by
  apply List.ext_getElem hl
  intro j h1 h2
  have := h j h1
  rwa [List.getD_eq_getElem?_getD, List.getD_eq_getElem?_getD, List.getElem?_eq_getElem h1, List.getElem?_eq_getElem h2] at this

theorem equal_int (n1 n2 : Bool) (xs ys : List Int) (hx : xs.length ≤ 100000) : Comp Try.prog 91 [.sl n1 (ints xs), .sl n2 (ints ys)] (.bool (xs == ys)) := by
  refine Comp.body (T := tab) (res := [.tmp 4]) tab_ok [] Try.func91 rfl (by kernel_rfl) Try.ntmps91 rfl (by simp only [List.length_cons, List.length_nil]; decide) (by simp only [lowL, AV.low, lowI]; rfl) ?_; conv => whnf
  repeat' first | ((with_reducible apply XBr.bne) <;> (intro h; first | (exfalso; omega) | (conv => whnf)))
  · refine XOut.bool ?_
    rw [Bool.eq_iff_iff]; simp; intro e; subst e; simp at h
  have hl : (xs.length : Int) = ys.length := by simpa using h
  refine Walk.loop tab_ok [] (fun i : Nat => i ≤ xs.length ∧ ∀ j, j < i → xs.getD j default = ys.getD j default) (fun i => [(0, .sl n1 (ints xs)), (1, .sl n2 (ints ys)), (12, .int .i64 xs.length), (13, .int .i64 i)]) (fun _ => []) (fun i => xs.length - i) 0 ⟨by omega, by omega⟩ rfl ⟨rfl, rfl, by simp only [List.length_map]; rfl, rfl, trivial⟩ ?_
  rintro i ⟨h2, h3⟩
  conv => whnf
  repeat' first | ((with_reducible apply XBr.dec) <;> (intro h; first | (exfalso; omega) | ((try simp only [List.length_map] at h); first | (exfalso; omega) | (conv => whnf))))
  · apply Walk.drawX tab_ok mixed_ok [] [] (fun _ => []) [_, _, _, _, _, _, _, _, _] (by kernel_rfl) rfl
    · skip
      repeat' first | (((with_reducible refine XIx.nat ?_ ?_ ?_); omega; (intro _; rfl)); conv => whnf) | (with_reducible apply XAnd.mk) | ((first | (with_reducible apply Chk.go) | (with_reducible apply ChkA.go)); conv => whnf) | (exact XSame.mk rfl rfl) | (with_reducible exact trivial)
    · skip
      repeat' first | (with_reducible apply XAnd.mk) | ((first | (with_reducible apply ChkF.go) | (with_reducible apply ChkB.go)); conv => whnf) | (with_reducible exact trivial)
    · conv => whnf
      repeat' first | ((with_reducible apply XBr.bne) <;> (intro h; first | (exfalso; omega) | (conv => whnf))) | ((with_reducible refine XInt.i64 (by omega) (by omega) ?_); conv => whnf)
      · refine XOut.bool ?_
        rw [Bool.eq_iff_iff]; simp
        intro e; subst e; exact h rfl
      · refine XAgain.go (i + 1) ⟨by omega, fun j hj => ?_⟩ (by omega) rfl ⟨rfl, rfl, rfl, rfl, trivial⟩
        by_cases hji : j = i
        · subst hji; exact h
        · exact h3 j (by omega)
  · refine XOut.bool ?_
    have := eq_of_getD (by omega) fun j hj => h3 j (by omega)
    rw [this]; simp
theorem eq_int (n1 n2 : Bool) (xs ys : List Int) (hx : xs.length ≤ 100000) : Comp Try.prog 30 [.sl n1 (ints xs), .sl n2 (ints ys)] (.bool (xs == ys)) := by
  refine Comp.body (T := tab) (res := [.tmp 4]) tab_ok [] Try.func30 rfl (by kernel_rfl) Try.ntmps30 rfl (by simp only [List.length_cons, List.length_nil]; decide) (by simp only [lowL, AV.low, lowI]; rfl) ?_; conv => whnf
  refine XCall.ret (equal_int n1 n2 xs ys hx) ?_
  conv => whnf
  exact XOut.bool rfl

def keptL (xs : List Int) (g : Int) : List Int := xs.filter fun x => decide (g ≤ x)
def thruL (xs : List Int) (g : Int) : List Int := xs.filter fun x => decide (x < g)
theorem kept_next {xs : List Int} {g : Int} {i : Nat} (h : i < xs.length) : keptL (xs.take (i + 1)) g = if g ≤ xs.getD i default then keptL (xs.take i) g ++ [xs.getD i default] else keptL (xs.take i) g := by
  unfold keptL; rw [take_next h, List.filter_append]
  by_cases hg : g ≤ xs.getD i default
  · rw [if_pos hg, List.filter_cons_of_pos (by simpa only [decide_eq_true_eq] using hg)]; rfl
  · rw [if_neg hg, List.filter_cons_of_neg (by simpa only [decide_eq_true_eq] using hg)]; simp only [List.filter_nil, List.append_nil]
theorem thru_next {xs : List Int} {g : Int} {i : Nat} (h : i < xs.length) : thruL (xs.take (i + 1)) g = if xs.getD i default < g then thruL (xs.take i) g ++ [xs.getD i default] else thruL (xs.take i) g := by
  unfold thruL; rw [take_next h, List.filter_append]
  by_cases hg : xs.getD i default < g
  · rw [if_pos hg, List.filter_cons_of_pos (by simpa only [decide_eq_true_eq] using hg)]; rfl
  · rw [if_neg hg, List.filter_cons_of_neg (by simpa only [decide_eq_true_eq] using hg)]; simp only [List.filter_nil, List.append_nil]
theorem kept_le (xs : List Int) (g : Int) (i : Nat) : (keptL (xs.take i) g).length ≤ xs.length := by
  have h1 := List.length_filter_le (fun x => decide (g ≤ x)) (xs.take i)
  have h2 : (xs.take i).length = min i xs.length := List.length_take
  unfold keptL; omega
theorem thru_le (xs : List Int) (g : Int) (i : Nat) : (thruL (xs.take i) g).length ≤ xs.length := by
  have h1 := List.length_filter_le (fun x => decide (x < g)) (xs.take i)
  have h2 : (xs.take i).length = min i xs.length := List.length_take
  unfold thruL; omega
def slA (xs : List Int) : AV := .sl xs.isEmpty (ints xs)
def riddleA (xs : List Int) (g : Int) : AV := .tup [slA (keptL xs g), slA (thruL xs g), .int .i64 0]
def riddleR (xs : List Int) (g : Int) : AV := if riddledR xs g = 0 then riddleA xs g else .tup [.sl true [], .sl true [], .int .i64 (riddledR xs g)]

theorem riddle_c (nl : Bool) (xs : List Int) (g : Int) (hx : xs.length ≤ 100000) : Comp Try.prog 27 [.sl nl (ints xs), .int .i64 g] (riddleR xs g) := by
  refine Comp.body (T := tab) (res := [.tmp 4, .tmp 5, .tmp 6]) tab_ok [] Try.func27 rfl (by kernel_rfl) Try.ntmps27 rfl (by simp only [List.length_cons, List.length_nil]; decide) (by simp only [lowL, AV.low, lowI]; rfl) ?_; conv => whnf
  refine XCall.ret (riddled_c nl xs g hx) ?_
  conv => whnf
  repeat' first | ((with_reducible apply XBr.bne) <;> (intro h; first | (exfalso; omega) | (conv => whnf)))
  · refine ⟨?_⟩
    unfold riddleR; rw [if_neg h]
    exact Froz.low rfl
  · refine Walk.nilgr 4 3 rfl (Walk.nilgr 5 3 rfl ?_)
    refine Walk.loop tab_ok [] (fun i : Nat => i ≤ xs.length) (fun i => [(0, .sl nl (ints xs)), (1, .int .i64 g), (16, .sl nl (ints xs)), (17, .int .i64 xs.length), (18, .int .i64 i), (4, .gr 0 (keptL (xs.take i) g).length), (5, .gr 1 (thruL (xs.take i) g).length)])
      (fun i => [.grow 3 (keptL (xs.take i) g).isEmpty (ints (keptL (xs.take i) g)), .grow 3 (thruL (xs.take i) g).isEmpty (ints (thruL (xs.take i) g))]) (fun i => xs.length - i) 0 (by omega) rfl ⟨rfl, rfl, rfl, by simp only [List.length_map]; rfl, rfl, rfl, rfl, trivial⟩ ?_
    intro i h2
    have hk := kept_le xs g i
    have ht := thru_le xs g i
    conv => whnf
    repeat' first | ((with_reducible apply XBr.dec) <;> (intro h; first | (exfalso; omega) | ((try simp only [List.length_map] at h); first | (exfalso; omega) | (conv => whnf)))) | ((with_reducible refine XInt.i64 (by omega) (by omega) ?_); conv => whnf) | ((with_reducible refine XHold.mk ?_ ?_); (first | omega | rfl | decide | exact ⟨rfl, by decide, rfl⟩ | exact wideI _ | exact widePr _ | exact wideSk _ | (unfold Room; constructor <;> ((try simp) <;> omega)) | exact ⟨rfl, by simp only [List.length_map], by unfold Room; constructor <;> ((try simp) <;> omega)⟩ | exact ⟨by omega, by omega, by unfold Room; constructor <;> ((try simp) <;> omega)⟩); conv => whnf) | (((with_reducible refine XIx.nat ?_ ?_ ?_); omega; (intro _; rfl)); conv => whnf)
    · refine XAgain.go (i + 1) (by omega) (by omega) ?_ ⟨rfl, rfl, rfl, rfl, rfl, ?_, ?_, trivial⟩
      · simp only [kept_next (show i < xs.length by omega), thru_next (show i < xs.length by omega), if_pos h, if_neg (show ¬ xs.getD i default < g by omega), List.map_append]
        simp
      · simp only [kept_next (show i < xs.length by omega), if_pos h, List.length_append]; rfl
      · simp only [thru_next (show i < xs.length by omega), if_neg (show ¬ xs.getD i default < g by omega)]; rfl
    · refine XAgain.go (i + 1) (by omega) (by omega) ?_ ⟨rfl, rfl, rfl, rfl, rfl, ?_, ?_, trivial⟩
      · simp only [kept_next (show i < xs.length by omega), thru_next (show i < xs.length by omega), if_neg h, if_pos (show xs.getD i default < g by omega), List.map_append]
        simp
      · simp only [kept_next (show i < xs.length by omega), if_neg h]; rfl
      · simp only [thru_next (show i < xs.length by omega), if_pos (show xs.getD i default < g by omega), List.length_append]; rfl
    · have hi : i = xs.length := by omega
      subst hi
      rw [List.take_length]
      refine ⟨?_⟩
      unfold riddleR; rw [if_pos (by assumption)]
      exact Froz.tup (.cons (Froz.grow rfl (by simp) (lowI _)) (.cons (Froz.grow rfl (by simp) (lowI _)) (.cons (Froz.low rfl) .nil)))
end GA
end

section
namespace GA
open Go Go.RowKit Go.Proofs
set_option pp.deepTerms true
set_option maxRecDepth 8000
set_option linter.unusedVariables false
set_option linter.unusedSimpArgs false

structure Sk where
  m : Int
  o : Int
  deriving Inhabited, DecidableEq
def skA (s : Sk) : AV := .agg [.int .i64 s.m, .int .i64 s.o]
def prA (p : Int × Int) : AV := .agg [.int .i64 p.1, .int .i64 p.2]
theorem skL {n : Nat} (s : Sk) : (skA s).low n = true := rfl
theorem prL {n : Nat} (p : Int × Int) : (prA p).low n = true := rfl
theorem lowSk {n : Nat} (xs : List Sk) : lowL n (xs.map skA) = true := lowL_map (fun _ => rfl) xs
theorem lowPr {n : Nat} (xs : List (Int × Int)) : lowL n (xs.map prA) = true := lowL_map (fun _ => rfl) xs
theorem wideSk (xs : List Sk) : wide 2 (xs.map skA) = true := wide_map (f := skA) (n := 2) (fun _ => rfl) (fun _ => rfl) xs
theorem widePr (xs : List (Int × Int)) : wide 2 (xs.map prA) = true := wide_map (f := prA) (n := 2) (fun _ => rfl) (fun _ => rfl) xs


theorem idxf_sk (nl : Bool) (xs : List (Sk)) (g : FuncId) (caps : List AV) (p : Sk → Bool) (hl : lowL 0 caps = true) (hx : xs.length ≤ 100000) (hp : ∀ x ∈ xs, Comp Try.prog g (skA x :: caps) (.bool (p x))) :
    Comp Try.prog 154 [.sl nl (xs.map skA), .fn g caps] (.int .i64 (idxR p xs)) := by
  refine Comp.body (T := tab) (res := [.tmp 4]) tab_ok [] Try.func154 rfl (by kernel_rfl) Try.ntmps154 rfl (by simp only [List.length_cons, List.length_nil]; decide) (by simp only [lowL, AV.low, lowSk, hl]; rfl) ?_; conv => whnf
  refine Walk.loop tab_ok [] (fun i : Nat => i ≤ xs.length ∧ ∀ j, j < i → p (xs.getD j default) = false) (fun i => [(0, .sl nl (xs.map skA)), (1, .fn g caps), (7, .int .i64 xs.length), (8, .int .i64 i)]) (fun _ => []) (fun i => xs.length - i) 0 ⟨by omega, by omega⟩ rfl ⟨rfl, rfl, by simp only [List.length_map]; rfl, rfl, trivial⟩ ?_
  rintro i ⟨h2, h3⟩
  conv => whnf
  repeat' first | ((with_reducible apply XBr.dec) <;> (intro h; first | (exfalso; omega) | ((try simp only [List.length_map] at h); first | (exfalso; omega) | (conv => whnf)))) | (((with_reducible refine XIx.nat ?_ ?_ ?_); omega; (intro _; rfl)); conv => whnf)
  · refine XCall.ret (hp _ (getD_mem (i := i) (d := default) (by omega))) ?_
    conv => whnf
    refine XBr.mk' ?_ ?_ <;> intro h4 <;> (conv => whnf)
    · refine XOut.int ?_
      simp only [idxR, find_some (d := default) (i := i) (by omega) h4 h3]
    · skip
      repeat' first | ((with_reducible refine XInt.i64 (by omega) (by omega) ?_); conv => whnf)
      refine XAgain.go (i + 1) ⟨by omega, fun j hj => ?_⟩ (by omega) rfl ⟨rfl, rfl, rfl, rfl, trivial⟩
      by_cases hji : j = i
      · subst hji; exact h4
      · exact h3 j (by omega)
  · refine XOut.int ?_
    simp only [idxR, find_none (d := default) fun j hj => h3 j (by omega)]
theorem contf_sk (nl : Bool) (xs : List (Sk)) (g : FuncId) (caps : List AV) (p : Sk → Bool) (hl : lowL 0 caps = true) (hx : xs.length ≤ 100000) (hp : ∀ x ∈ xs, Comp Try.prog g (skA x :: caps) (.bool (p x))) :
    Comp Try.prog 142 [.sl nl (xs.map skA), .fn g caps] (.bool (xs.any p)) := by
  refine Comp.body (T := tab) (res := [.tmp 4]) tab_ok [] Try.func142 rfl (by kernel_rfl) Try.ntmps142 rfl (by simp only [List.length_cons, List.length_nil]; decide) (by simp only [lowL, AV.low, lowSk, hl]; rfl) ?_; conv => whnf
  refine XCall.ret (idxf_sk nl xs g caps p hl hx hp) ?_
  conv => whnf
  refine XOut.bool ?_
  rw [Bool.eq_iff_iff, decide_eq_true_eq]; exact idxR_pos
theorem every1_sk (x : Sk) (g : FuncId) (caps : List AV) (p : Sk → Bool) (hl : lowL 0 caps = true) (hp : Comp Try.prog g (skA x :: caps) (.bool (p x))) :
    Comp Try.prog 143 [skA x, .pim [.fn g caps]] (.bool (!p x)) := by
  refine Comp.body (T := tab) (res := [.tmp 3]) tab_ok [] Try.func143 rfl (by kernel_rfl) Try.ntmps143 rfl (by simp only [List.length_cons, List.length_nil]; decide) (by simp only [lowL, AV.low, skL, hl]; rfl) ?_; conv => whnf
  refine XCall.ret hp ?_
  conv => whnf
  exact XOut.bool rfl
theorem every_sk (nl : Bool) (xs : List (Sk)) (g : FuncId) (caps : List AV) (p : Sk → Bool) (hl : lowL 0 caps = true) (hx : xs.length ≤ 100000) (hp : ∀ x ∈ xs, Comp Try.prog g (skA x :: caps) (.bool (p x))) :
    Comp Try.prog 105 [.sl nl (xs.map skA), .fn g caps] (.bool (xs.all p)) := by
  refine Comp.body (T := tab) (res := [.tmp 4]) tab_ok [] Try.func105 rfl (by kernel_rfl) Try.ntmps105 rfl (by simp only [List.length_cons, List.length_nil]; decide) (by simp only [lowL, AV.low, lowSk, hl]; rfl) ?_; conv => whnf
  refine XCall.ret (contf_sk nl xs 143 [.pim [.fn g caps]] (fun x => !p x) (by simp only [lowL, AV.low, hl]; rfl) hx fun x hm => every1_sk x g caps p hl (hp x hm)) ?_
  conv => whnf
  refine XOut.bool ?_
  rw [List.not_any_eq_all_not]; simp


theorem idxf_pr (nl : Bool) (xs : List (Int × Int)) (g : FuncId) (caps : List AV) (p : Int × Int → Bool) (hl : lowL 0 caps = true) (hx : xs.length ≤ 100000) (hp : ∀ x ∈ xs, Comp Try.prog g (prA x :: caps) (.bool (p x))) :
    Comp Try.prog 129 [.sl nl (xs.map prA), .fn g caps] (.int .i64 (idxR p xs)) := by
  refine Comp.body (T := tab) (res := [.tmp 4]) tab_ok [] Try.func129 rfl (by kernel_rfl) Try.ntmps129 rfl (by simp only [List.length_cons, List.length_nil]; decide) (by simp only [lowL, AV.low, lowPr, hl]; rfl) ?_; conv => whnf
  refine Walk.loop tab_ok [] (fun i : Nat => i ≤ xs.length ∧ ∀ j, j < i → p (xs.getD j default) = false) (fun i => [(0, .sl nl (xs.map prA)), (1, .fn g caps), (7, .int .i64 xs.length), (8, .int .i64 i)]) (fun _ => []) (fun i => xs.length - i) 0 ⟨by omega, by omega⟩ rfl ⟨rfl, rfl, by simp only [List.length_map]; rfl, rfl, trivial⟩ ?_
  rintro i ⟨h2, h3⟩
  conv => whnf
  repeat' first | ((with_reducible apply XBr.dec) <;> (intro h; first | (exfalso; omega) | ((try simp only [List.length_map] at h); first | (exfalso; omega) | (conv => whnf)))) | (((with_reducible refine XIx.nat ?_ ?_ ?_); omega; (intro _; rfl)); conv => whnf)
  · refine XCall.ret (hp _ (getD_mem (i := i) (d := default) (by omega))) ?_
    conv => whnf
    refine XBr.mk' ?_ ?_ <;> intro h4 <;> (conv => whnf)
    · refine XOut.int ?_
      simp only [idxR, find_some (d := default) (i := i) (by omega) h4 h3]
    · skip
      repeat' first | ((with_reducible refine XInt.i64 (by omega) (by omega) ?_); conv => whnf)
      refine XAgain.go (i + 1) ⟨by omega, fun j hj => ?_⟩ (by omega) rfl ⟨rfl, rfl, rfl, rfl, trivial⟩
      by_cases hji : j = i
      · subst hji; exact h4
      · exact h3 j (by omega)
  · refine XOut.int ?_
    simp only [idxR, find_none (d := default) fun j hj => h3 j (by omega)]
theorem contf_pr (nl : Bool) (xs : List (Int × Int)) (g : FuncId) (caps : List AV) (p : Int × Int → Bool) (hl : lowL 0 caps = true) (hx : xs.length ≤ 100000) (hp : ∀ x ∈ xs, Comp Try.prog g (prA x :: caps) (.bool (p x))) :
    Comp Try.prog 71 [.sl nl (xs.map prA), .fn g caps] (.bool (xs.any p)) := by
  refine Comp.body (T := tab) (res := [.tmp 4]) tab_ok [] Try.func71 rfl (by kernel_rfl) Try.ntmps71 rfl (by simp only [List.length_cons, List.length_nil]; decide) (by simp only [lowL, AV.low, lowPr, hl]; rfl) ?_; conv => whnf
  refine XCall.ret (idxf_pr nl xs g caps p hl hx hp) ?_
  conv => whnf
  refine XOut.bool ?_
  rw [Bool.eq_iff_iff, decide_eq_true_eq]; exact idxR_pos
theorem every1_pr (x : Int × Int) (g : FuncId) (caps : List AV) (p : Int × Int → Bool) (hl : lowL 0 caps = true) (hp : Comp Try.prog g (prA x :: caps) (.bool (p x))) :
    Comp Try.prog 144 [prA x, .pim [.fn g caps]] (.bool (!p x)) := by
  refine Comp.body (T := tab) (res := [.tmp 3]) tab_ok [] Try.func144 rfl (by kernel_rfl) Try.ntmps144 rfl (by simp only [List.length_cons, List.length_nil]; decide) (by simp only [lowL, AV.low, prL, hl]; rfl) ?_; conv => whnf
  refine XCall.ret hp ?_
  conv => whnf
  exact XOut.bool rfl
theorem every_pr (nl : Bool) (xs : List (Int × Int)) (g : FuncId) (caps : List AV) (p : Int × Int → Bool) (hl : lowL 0 caps = true) (hx : xs.length ≤ 100000) (hp : ∀ x ∈ xs, Comp Try.prog g (prA x :: caps) (.bool (p x))) :
    Comp Try.prog 107 [.sl nl (xs.map prA), .fn g caps] (.bool (xs.all p)) := by
  refine Comp.body (T := tab) (res := [.tmp 4]) tab_ok [] Try.func107 rfl (by kernel_rfl) Try.ntmps107 rfl (by simp only [List.length_cons, List.length_nil]; decide) (by simp only [lowL, AV.low, lowPr, hl]; rfl) ?_; conv => whnf
  refine XCall.ret (contf_pr nl xs 144 [.pim [.fn g caps]] (fun x => !p x) (by simp only [lowL, AV.low, hl]; rfl) hx fun x hm => every1_pr x g caps p hl (hp x hm)) ?_
  conv => whnf
  refine XOut.bool ?_
  rw [List.not_any_eq_all_not]; simp


theorem sack_in (s : Sk) : Comp Try.prog 106 [skA s] (.bool (inB s.m 1 100 && inB s.o 0 5)) := by
  refine Comp.body (T := tab) (res := [.tmp 2]) tab_ok [] Try.func106 rfl (by kernel_rfl) Try.ntmps106 rfl (by simp only [List.length_cons, List.length_nil]; decide) (by rfl) ?_; conv => whnf
  refine XCall.ret (in_c _ _ _) ?_
  conv => whnf
  refine XBr.mk' ?_ ?_ <;> intro h <;> (conv => whnf)
  · skip
    repeat' first | ((with_reducible apply XBr.tt); conv => whnf)
    refine XCall.ret (in_c _ _ _) ?_
    conv => whnf
    repeat' first | ((with_reducible apply XBr.tt); conv => whnf)
    refine XOut.bool ?_
    simp [h]
  · skip
    repeat' first | ((with_reducible apply XBr.ff); conv => whnf)
    refine XOut.bool ?_
    simp [h]
theorem pair_ne (p : Int × Int) : Comp Try.prog 109 [prA p] (.bool (p.1 != p.2)) := by
  refine Comp.body (T := tab) (res := [.tmp 2]) tab_ok [] Try.func109 rfl (by kernel_rfl) Try.ntmps109 rfl (by simp only [List.length_cons, List.length_nil]; decide) (by rfl) ?_; conv => whnf
  repeat' first | ((first | (with_reducible apply XArr.pim0) | (with_reducible apply XArr.pim1)); conv => whnf)
  exact XOut.bool rfl

structure Ld where
  bears : Int
  shrink : Int
  nls : Bool
  sacks : List Sk
  nla : Bool
  apart : List (Int × Int)
  nlw : Bool
  wth : List (Int × Int)
def ldC (l : Ld) : List AV := [.int .i64 l.bears, .int .i64 l.shrink, .sl l.nls (l.sacks.map skA), .sl l.nla (l.apart.map prA), .sl l.nlw (l.wth.map prA)]
def ldA (l : Ld) : AV := .agg (ldC l)
theorem lowLd {n : Nat} (l : Ld) : lowL n (ldC l) = true := by simp only [ldC, lowL, AV.low, lowSk, lowPr]; rfl
theorem ldL {n : Nat} (l : Ld) : (ldA l).low n = true := by unfold ldA; simp only [AV.low, lowLd]

theorem sack_c (l : Ld) (n : Int) (hx : l.sacks.length ≤ 100000) : Comp Try.prog 98 [ldA l, .int .i64 n] (.bool (inB n 0 (l.sacks.length - 1))) := by
  refine Comp.body (T := tab) (res := [.tmp 4]) tab_ok [] Try.func98 rfl (by kernel_rfl) Try.ntmps98 rfl (by simp only [List.length_cons, List.length_nil]; decide) (by simp only [lowL, AV.low, ldL]; rfl) ?_; conv => whnf
  have hm : (l.sacks.map skA).length = l.sacks.length := List.length_map ..
  repeat' first | ((with_reducible refine XInt.i64 (by omega) (by omega) ?_); conv => whnf)
  refine XCall.ret (in_c _ _ _) ?_
  conv => whnf
  refine XOut.bool ?_
  simp
theorem pair_in (l : Ld) (p : Int × Int) (hx : l.sacks.length ≤ 100000) : Comp Try.prog 108 [prA p, .pim (ldC l)] (.bool (inB p.1 0 (l.sacks.length - 1) && inB p.2 0 (l.sacks.length - 1))) := by
  refine Comp.body (T := tab) (res := [.tmp 3]) tab_ok [] Try.func108 rfl (by kernel_rfl) Try.ntmps108 rfl (by simp only [List.length_cons, List.length_nil]; decide) (by simp only [lowL, AV.low, prL, lowLd]; rfl) ?_; conv => whnf
  repeat' first | ((with_reducible apply XArr.pim0); conv => whnf)
  refine XCall.ret (sack_c l _ hx) ?_
  conv => whnf
  refine XBr.mk' ?_ ?_ <;> intro h <;> (conv => whnf)
  · skip
    repeat' first | ((first | (with_reducible apply XBr.tt) | (with_reducible apply XArr.pim1)); conv => whnf)
    refine XCall.ret (sack_c l _ hx) ?_
    conv => whnf
    repeat' first | ((with_reducible apply XBr.tt); conv => whnf)
    refine XOut.bool ?_
    simp [h]
  · skip
    repeat' first | ((with_reducible apply XBr.ff); conv => whnf)
    refine XOut.bool ?_
    simp [h]
end GA
end

section
namespace GA
open Go Go.RowKit Go.Proofs
set_option pp.deepTerms true
set_option maxRecDepth 8000
set_option linter.unusedVariables false
set_option linter.unusedSimpArgs false

def prIn (l : Ld) (p : Int × Int) : Bool := inB p.1 0 (l.sacks.length - 1) && inB p.2 0 (l.sacks.length - 1)
def checkR (l : Ld) : Int :=
  if 9 < l.sacks.length ∨ 8 < l.apart.length ∨ 8 < l.wth.length then 2
  else if (inB l.bears 1 100 && inB l.shrink 0 90) = false then 3
  else if (l.sacks.all fun s => inB s.m 1 100 && inB s.o 0 5) = false then 3
  else if ((l.apart ++ l.wth).all (prIn l)) = false then 1
  else if ((l.apart ++ l.wth).all fun p => p.1 != p.2) = false then 5 else 0

theorem check_c (l : Ld) (hw : l.nla = true → l.apart = []) (h1 : l.sacks.length ≤ 100000) (h2 : l.apart.length ≤ 1000) (h3 : l.wth.length ≤ 1000) : Comp Try.prog 51 [ldA l] (.int .i64 (checkR l)) := by
  refine Comp.body (T := tab) (res := [.tmp 2]) tab_ok [] Try.func51 rfl (by kernel_rfl) Try.ntmps51 rfl (by simp only [List.length_cons, List.length_nil]; decide) (by simp only [lowL, AV.low, ldL]; rfl) ?_; conv => whnf
  have hA : ∀ n, Froz Try.prog [.grow 118 n ((l.apart ++ l.wth).map prA)] (.gr 0 (l.apart ++ l.wth).length) (.sl n ((l.apart ++ l.wth).map prA)) := fun n => Froz.grow rfl (by simp) (lowPr _)
  cases hn : l.nla with
  | false =>
    apply Walk.drawX tab_ok mixed_ok [] [2, 5] (hsC [[], [.grow 118 false (l.apart.map prA)], [.grow 118 false ((l.apart ++ l.wth).map prA)]]) [_, _, .gr 0 l.apart.length, _, _, .gr 0 (l.apart ++ l.wth).length, _] (by kernel_rfl) rfl
    · skip
      repeat' first | ((with_reducible refine XHold.mk ?_ ?_); (first | omega | rfl | decide | exact ⟨rfl, by decide, rfl⟩ | exact wideI _ | exact widePr _ | exact wideSk _ | (unfold Room; constructor <;> ((try simp) <;> omega)) | exact ⟨rfl, by simp only [List.length_map], by unfold Room; constructor <;> ((try simp) <;> omega)⟩ | exact ⟨by omega, by omega, by unfold Room; constructor <;> ((try simp) <;> omega)⟩); conv => whnf) | (with_reducible apply XAnd.mk) | ((first | (with_reducible apply Chk.go) | (with_reducible apply ChkA.go)); conv => whnf) | (exact XSame.mk rfl rfl) | (exact XSame.mk (by first | rfl | (simp only [List.map_append, List.length_append, List.length_map]; done) | (simp only [List.map_append, List.length_append, List.length_map]; rfl)) (by first | rfl | (simp only [List.map_append]; done) | (simp only [List.map_append]; rfl))) | (with_reducible exact trivial)
      · refine XCall.inl (T := tab) (res := [.tmp 2]) tab_ok [] Try.func104 rfl (by kernel_rfl) Try.ntmps104 rfl (by simp only [List.length_append, List.length_cons, List.length_nil]; decide) ?_; conv => whnf
        refine XBr.no hn ?_
        conv => whnf
        repeat' first | ((with_reducible refine XHold.mk ?_ ?_); (first | omega | rfl | decide | exact ⟨rfl, by decide, rfl⟩ | exact wideI _ | exact widePr _ | exact wideSk _ | (unfold Room; constructor <;> ((try simp) <;> omega)) | exact ⟨rfl, by simp only [List.length_map], by unfold Room; constructor <;> ((try simp) <;> omega)⟩ | exact ⟨by omega, by omega, by unfold Room; constructor <;> ((try simp) <;> omega)⟩); conv => whnf) | (exact XSame.mk (by first | rfl | (simp only [List.map_append, List.length_append, List.length_map]; done) | (simp only [List.map_append, List.length_append, List.length_map]; rfl)) (by first | rfl | (simp only [List.map_append]; done) | (simp only [List.map_append]; rfl)))
    · skip
      repeat' first | (with_reducible apply XAnd.mk) | ((first | (with_reducible apply Chk.go) | (with_reducible apply ChkF.go) | (with_reducible apply ChkB.go)); conv => whnf) | (exact XSame.mk rfl rfl) | (with_reducible exact trivial)
    · skip
      conv => whnf
      repeat' first | ((first | (with_reducible apply XBr.tt) | (with_reducible apply XBr.ff)); conv => whnf) | (with_reducible apply XBr.not) | ((with_reducible apply XBr.dec) <;> (intro h; first | (exfalso; omega) | ((try simp only [List.length_map] at h); first | (exfalso; omega) | (conv => whnf)))) | (refine XCall.ret (in_c _ _ _) ?_; conv => whnf) | (refine XCall.ret (every_sk l.nls l.sacks 106 [] _ rfl h1 fun x _ => sack_in x) ?_; conv => whnf) | (refine XCall.lend (every_pr _ (l.apart ++ l.wth) 108 [.pim (ldC l)] (prIn l) (by simp only [lowL, AV.low, lowLd]; rfl) (by simp; omega) fun x _ => pair_in l x h1) (.cons (hA _) (.cons (.low (by simp only [lowL, AV.low, lowLd]; rfl)) .nil)) rfl ?_; conv => whnf) | (refine XCall.lend (every_pr _ (l.apart ++ l.wth) 109 [] _ rfl (by simp; omega) fun x _ => pair_ne x) (.cons (hA _) (.cons (.low rfl) .nil)) rfl ?_; conv => whnf) | ((with_reducible apply XBr.mk') <;> (intro h; conv => whnf))
      all_goals ((try clear ha); clear hw hA hn; refine XOut.int ?_; unfold checkR; (repeat' split) <;> first | rfl | (exfalso; omega) | simp_all)
  | true =>
    have ha := hw hn
    apply Walk.drawX tab_ok mixed_ok [] [5] (hsC [[], [.grow 118 l.wth.isEmpty ((l.apart ++ l.wth).map prA)]]) [_, _, .sl true [], _, _, .gr 0 (l.apart ++ l.wth).length, _] (by kernel_rfl) rfl
    · skip
      repeat' first | ((with_reducible refine XHold.mk ?_ ?_); (first | omega | rfl | decide | exact ⟨rfl, by decide, rfl⟩ | exact wideI _ | exact widePr _ | exact wideSk _ | (unfold Room; constructor <;> ((try simp) <;> omega)) | exact ⟨rfl, by simp only [List.length_map], by unfold Room; constructor <;> ((try simp) <;> omega)⟩ | exact ⟨by omega, by omega, by unfold Room; constructor <;> ((try simp) <;> omega)⟩); conv => whnf) | (with_reducible apply XAnd.mk) | ((first | (with_reducible apply Chk.go) | (with_reducible apply ChkA.go)); conv => whnf) | (exact XSame.mk rfl rfl) | (with_reducible exact trivial)
      · refine XCall.inl (T := tab) (res := [.tmp 2]) tab_ok [] Try.func104 rfl (by kernel_rfl) Try.ntmps104 rfl (by simp only [List.length_append, List.length_cons, List.length_nil]; decide) ?_; conv => whnf
        refine XBr.yes hn ?_
        conv => whnf
        repeat' first | (exact XSame.mk rfl rfl)
      exact XSame.mk (by rw [ha]; simp) (by rw [ha, List.nil_append, List.isEmpty_map]; rfl)
    · skip
      repeat' first | (with_reducible apply XAnd.mk) | ((first | (with_reducible apply Chk.go) | (with_reducible apply ChkF.go) | (with_reducible apply ChkB.go)); conv => whnf) | (exact XSame.mk rfl rfl) | (with_reducible exact trivial)
    · skip
      conv => whnf
      repeat' first | ((first | (with_reducible apply XBr.tt) | (with_reducible apply XBr.ff)); conv => whnf) | (with_reducible apply XBr.not) | ((with_reducible apply XBr.dec) <;> (intro h; first | (exfalso; omega) | ((try simp only [List.length_map] at h); first | (exfalso; omega) | (conv => whnf)))) | (refine XCall.ret (in_c _ _ _) ?_; conv => whnf) | (refine XCall.ret (every_sk l.nls l.sacks 106 [] _ rfl h1 fun x _ => sack_in x) ?_; conv => whnf) | (refine XCall.lend (every_pr _ (l.apart ++ l.wth) 108 [.pim (ldC l)] (prIn l) (by simp only [lowL, AV.low, lowLd]; rfl) (by simp; omega) fun x _ => pair_in l x h1) (.cons (hA _) (.cons (.low (by simp only [lowL, AV.low, lowLd]; rfl)) .nil)) rfl ?_; conv => whnf) | (refine XCall.lend (every_pr _ (l.apart ++ l.wth) 109 [] _ rfl (by simp; omega) fun x _ => pair_ne x) (.cons (hA _) (.cons (.low rfl) .nil)) rfl ?_; conv => whnf) | ((with_reducible apply XBr.mk') <;> (intro h; conv => whnf))
      all_goals ((try clear ha); clear hw hA hn; refine XOut.int ?_; unfold checkR; (repeat' split) <;> first | rfl | (exfalso; omega) | simp_all)
end GA
end

section
namespace GA
open Go Go.RowKit Go.Proofs
set_option pp.deepTerms true
set_option maxRecDepth 8000
set_option linter.unusedVariables false
set_option linter.unusedSimpArgs false

def weightR (l : Ld) (s : Sk) : Int := s.m - s.m * l.shrink / 100
theorem weight_c (l : Ld) (s : Sk) (h : 0 ≤ s.m) (h' : s.m ≤ 100) (h2 : 0 ≤ l.shrink) (h3 : l.shrink ≤ 100) : Comp Try.prog 85 [ldA l, skA s] (.int .i64 (weightR l s)) := by
  refine Comp.body (T := tab) (res := [.tmp 4]) tab_ok [] Try.func85 rfl (by kernel_rfl) Try.ntmps85 rfl (by simp only [List.length_cons, List.length_nil]; decide) (by simp only [lowL, AV.low, ldL, skL]; rfl) ?_; conv => whnf
  have e1 : 0 ≤ s.m * l.shrink := Int.mul_nonneg h h2
  have e2 : s.m * l.shrink ≤ 100 * 100 := Int.mul_le_mul h' h3 h2 (by omega)
  have e3 : (s.m * l.shrink).tdiv 100 = (s.m * l.shrink) / 100 := Int.tdiv_eq_ediv_of_nonneg e1
  repeat' first | ((with_reducible refine XInt.i64 (by omega) (by omega) ?_); conv => whnf) | ((with_reducible refine XHold.mk ?_ ?_); (first | omega | rfl | decide | exact ⟨rfl, by decide, rfl⟩ | exact wideI _ | exact widePr _ | exact wideSk _ | (unfold Room; constructor <;> ((try simp) <;> omega)) | exact ⟨rfl, by simp only [List.length_map], by unfold Room; constructor <;> ((try simp) <;> omega)⟩ | exact ⟨by omega, by omega, by unfold Room; constructor <;> ((try simp) <;> omega)⟩); conv => whnf)
  · refine XOut.int ?_
    rw [e3]; rfl

def bitsF : Nat → Nat → Nat → List Int
  | 0, _, _ => []
  | f + 1, i, s => if s = 0 then [] else if s % 2 = 1 then (i : Int) :: bitsF f (i + 1) (s / 2) else bitsF f (i + 1) (s / 2)
theorem bitsF_zero : ∀ (f i : Nat), bitsF f i 0 = []
  | 0, _ => rfl
  | f + 1, _ => by simp [bitsF]
theorem bitsF_length : ∀ (f i s : Nat), (bitsF f i s).length ≤ f
  | 0, _, _ => by simp [bitsF]
  | f + 1, i, s => by
    unfold bitsF; have := bitsF_length f (i + 1) (s / 2)
    split
    · simp
    · split <;> simp <;> omega
def bits (s : Nat) : List Int := bitsF 62 0 s
theorem list_c (n : Nat) (hn : n < 4611686018427387904) : Comp Try.prog 81 [.int .i64 n] (slA (bits n)) := by
  refine Comp.body (T := tab) (res := [.tmp 2]) tab_ok [] Try.func81 rfl (by kernel_rfl) Try.ntmps81 rfl (by simp only [List.length_cons, List.length_nil]; decide) (by rfl) ?_; conv => whnf
  refine Walk.nilgr 3 3 rfl ?_
  refine Walk.loop tab_ok [] (fun g : Nat × Nat × List Int => g.1 ≤ 62 ∧ g.2.1 < 2 ^ (62 - g.1) ∧ g.2.2 ++ bitsF (62 - g.1) g.1 g.2.1 = bits n) (fun g => [(0, .int .i64 g.2.1), (3, .gr 0 g.2.2.length), (4, .int .i64 g.1)]) (fun g => [.grow 3 g.2.2.isEmpty (ints g.2.2)]) (fun g => g.2.1) (0, n, []) ⟨by omega, by simpa using hn, rfl⟩ rfl ⟨rfl, rfl, rfl, trivial⟩ ?_
  rintro ⟨i, s, out⟩ ⟨h1, h2, h3⟩
  simp only at h1 h2 h3
  have hlen : (out ++ bitsF (62 - i) i s).length = (bits n).length := by rw [h3]
  have hb := bitsF_length 62 0 n
  have hl : out.length ≤ 62 := by unfold bits at hlen; rw [List.length_append] at hlen; omega
  have hp : 2 ^ (62 - i) ≤ 2 ^ 62 := Nat.pow_le_pow_right (by omega) (by omega)
  have e1 : (s : Int).tdiv 2 = ((s / 2 : Nat) : Int) := rfl
  have e2 : (s : Int).tmod 2 = ((s % 2 : Nat) : Int) := rfl
  have step : 0 < s → 62 - i = (62 - (i + 1)) + 1 := fun h => by
    rcases Nat.lt_or_ge i 62 with h | h
    · omega
    · rw [show 62 - i = 0 by omega] at h2; simp at h2; omega
  have half : 0 < s → s / 2 < 2 ^ (62 - (i + 1)) := fun h => by
    rw [step h, Nat.pow_succ] at h2; omega
  dsimp only
  conv => whnf
  repeat' first | ((with_reducible apply XBr.dec) <;> (intro h; first | (exfalso; omega) | ((try simp only [List.length_map] at h); first | (exfalso; omega) | (conv => whnf)))) | ((with_reducible apply XBr.beq) <;> (intro h; first | (exfalso; omega) | (conv => whnf))) | ((with_reducible refine XInt.i64 (by omega) (by omega) ?_); conv => whnf) | ((with_reducible refine XHold.mk ?_ ?_); (first | omega | rfl | decide | exact ⟨rfl, by decide, rfl⟩ | exact wideI _ | exact widePr _ | exact wideSk _ | (unfold Room; constructor <;> ((try simp) <;> omega)) | exact ⟨rfl, by simp only [List.length_map], by unfold Room; constructor <;> ((try simp) <;> omega)⟩ | exact ⟨by omega, by omega, by unfold Room; constructor <;> ((try simp) <;> omega)⟩); conv => whnf)
  · have hs := step (by omega)
    refine XAgain.go (i + 1, s / 2, out ++ [(i : Int)]) ⟨by dsimp only; omega, half (by omega), ?_⟩ (by dsimp only; omega) ?_ ⟨rfl, ?_, rfl, trivial⟩
    · rw [← h3, hs]
      have : s % 2 = 1 := by rw [e2] at h; omega
      simp only [bitsF, if_neg (show ¬ s = 0 by omega), if_pos this, List.append_assoc, List.singleton_append, Nat.add_sub_cancel]
    · simp
    · simp only [List.length_append]; rfl
  · have hs := step (by omega)
    refine XAgain.go (i + 1, s / 2, out) ⟨by dsimp only; omega, half (by omega), ?_⟩ (by dsimp only; omega) rfl ⟨rfl, rfl, rfl, trivial⟩
    rw [← h3, hs]
    have : ¬ s % 2 = 1 := by rw [e2] at h; omega
    simp only [bitsF, if_neg (show ¬ s = 0 by omega), if_neg this, Nat.add_sub_cancel]
  · have hs : s = 0 := by omega
    subst hs
    rw [bitsF_zero, List.append_nil] at h3
    subst h3
    exact ⟨Froz.grow rfl (by simp) (lowI _)⟩
end GA
end

section
namespace GA
open Go Go.RowKit
set_option linter.unusedVariables false
theorem wrap_nat {n : Nat} (h : n < 9223372036854775808) : IntKind.i64.wrap (n : Int) = n := by
  simp only [IntKind.wrap, IntKind.bits, IntKind.signed]; simp; omega
theorem bv_nat (a : Nat) : BitVec.ofInt IntKind.i64.bits (a : Int) = BitVec.ofNat 64 a := BitVec.ofInt_natCast ..
theorem iand_nat {a b : Nat} (ha : a < 9223372036854775808) (hb : b < 9223372036854775808) : iand .i64 a b = ((a &&& b : Nat) : Int) := by
  have h : a &&& b < 9223372036854775808 := Nat.lt_of_le_of_lt Nat.and_le_left ha
  unfold iand
  rw [bv_nat, bv_nat]
  have : (BitVec.ofNat 64 a &&& BitVec.ofNat 64 b).toNat = a &&& b := by
    rw [BitVec.toNat_and, BitVec.toNat_ofNat, BitVec.toNat_ofNat, Nat.mod_eq_of_lt (by omega), Nat.mod_eq_of_lt (by omega)]
  exact (congrArg (fun n : Nat => IntKind.i64.wrap (n : Int)) this).trans (wrap_nat h)
theorem ior_nat {a b : Nat} (ha : a < 9223372036854775808) (hb : b < 9223372036854775808) : ior .i64 a b = ((a ||| b : Nat) : Int) := by
  have h : a ||| b < 2 ^ 63 := Nat.or_lt_two_pow (n := 63) (by omega) (by omega)
  unfold ior
  rw [bv_nat, bv_nat]
  have : (BitVec.ofNat 64 a ||| BitVec.ofNat 64 b).toNat = a ||| b := by
    rw [BitVec.toNat_or, BitVec.toNat_ofNat, BitVec.toNat_ofNat, Nat.mod_eq_of_lt (by omega), Nat.mod_eq_of_lt (by omega)]
  exact (congrArg (fun n : Nat => IntKind.i64.wrap (n : Int)) this).trans (wrap_nat (by omega))
theorem ixor_nat {a b : Nat} (ha : a < 9223372036854775808) (hb : b < 9223372036854775808) : ixor .i64 a b = ((a ^^^ b : Nat) : Int) := by
  have h : a ^^^ b < 2 ^ 63 := Nat.xor_lt_two_pow (n := 63) (by omega) (by omega)
  unfold ixor
  rw [bv_nat, bv_nat]
  have : (BitVec.ofNat 64 a ^^^ BitVec.ofNat 64 b).toNat = a ^^^ b := by
    rw [BitVec.toNat_xor, BitVec.toNat_ofNat, BitVec.toNat_ofNat, Nat.mod_eq_of_lt (by omega), Nat.mod_eq_of_lt (by omega)]
  exact (congrArg (fun n : Nat => IntKind.i64.wrap (n : Int)) this).trans (wrap_nat (by omega))
def diff (a b : Nat) : Nat := a ^^^ (a &&& b)
theorem iandn_nat {a b : Nat} (ha : a < 9223372036854775808) (hb : b < 9223372036854775808) : iandn .i64 a b = ((diff a b : Nat) : Int) := by
  have h0 : a &&& b < 2 ^ 63 := Nat.lt_of_le_of_lt Nat.and_le_left (by omega)
  have h : a ^^^ (a &&& b) < 2 ^ 63 := Nat.xor_lt_two_pow (n := 63) (by omega) h0
  unfold iandn
  rw [bv_nat, bv_nat]
  have hbv : BitVec.ofNat 64 a &&& ~~~ (BitVec.ofNat 64 b) = BitVec.ofNat 64 a ^^^ (BitVec.ofNat 64 a &&& BitVec.ofNat 64 b) := by
    apply BitVec.eq_of_getLsbD_eq; intro i hi; simp
    cases (BitVec.ofNat 64 a).getLsbD i <;> cases (BitVec.ofNat 64 b).getLsbD i <;> simp_all
  have : (BitVec.ofNat 64 a &&& ~~~ (BitVec.ofNat 64 b)).toNat = a ^^^ (a &&& b) := by
    rw [hbv, BitVec.toNat_xor, BitVec.toNat_and, BitVec.toNat_ofNat, BitVec.toNat_ofNat, Nat.mod_eq_of_lt (by omega), Nat.mod_eq_of_lt (by omega)]
  exact (congrArg (fun n : Nat => IntKind.i64.wrap (n : Int)) this).trans (wrap_nat (by omega))
theorem shr_nat {a k : Nat} (hk : k ≤ 64) : (a : Int).fdiv (2 ^ (min (k : Int).toNat IntKind.i64.bits)) = ((a / 2 ^ k : Nat) : Int) := by
  have : min (k : Int).toNat IntKind.i64.bits = k := by simp only [Int.toNat_natCast, IntKind.bits]; omega
  rw [this]
  have h2 : ((2 : Int) ^ k) = ((2 ^ k : Nat) : Int) := by simp
  rw [h2, Int.fdiv_eq_ediv_of_nonneg _ (Int.natCast_nonneg _)]; rfl
theorem shl_nat {k : Nat} (hk : k ≤ 64) : (1 : Int) * 2 ^ (min (k : Int).toNat IntKind.i64.bits) = ((2 ^ k : Nat) : Int) := by
  have : min (k : Int).toNat IntKind.i64.bits = k := by simp only [Int.toNat_natCast, IntKind.bits]; omega
  rw [this]; simp
end GA
end

section
namespace GA
open Go Go.RowKit Go.Proofs
set_option pp.deepTerms true
set_option maxRecDepth 8000
set_option linter.unusedVariables false
set_option linter.unusedSimpArgs false

def natA (n : Nat) : AV := .int .i64 n
abbrev nats (xs : List Nat) : List AV := xs.map natA
theorem lowN {n : Nat} (xs : List Nat) : lowL n (nats xs) = true := lowL_map (fun _ => rfl) xs
theorem nats_at {xs : List Nat} {i : Nat} (h : i < xs.length) (b : List AV) : (nats xs ++ b)[i * 1]? = some (.int .i64 (xs.getD i 0 : Nat)) := by
  rw [Nat.mul_one, List.getElem?_append_left (by simpa using h), List.getElem?_map, List.getElem?_eq_getElem h, List.getD_eq_getElem?_getD, List.getElem?_eq_getElem h]; rfl
theorem XArr.nats {xs : List Nat} {i m : Nat} {k : AV → Prop} (h2 : i < m) (hm : m ≤ xs.length) (h : k (.pim (.int .i64 (xs.getD i 0 : Nat) :: (GA.nats xs).drop (i * 1 + 1)))) : XArr (.pim (GA.nats xs)) (i : Int) m 1 k :=
  XArr.at _ (by omega) (by omega) (by have := nats_at (xs := xs) (i := i) (by omega) []; simpa using this) h
theorem XArr.natsA {xs : List Nat} {b : List AV} {i m : Nat} {k : AV → Prop} (h2 : i < m) (hm : m ≤ xs.length) (h : k (.pim (.int .i64 (xs.getD i 0 : Nat) :: (GA.nats xs ++ b).drop (i * 1 + 1)))) : XArr (.pim (GA.nats xs ++ b)) (i : Int) m 1 k :=
  XArr.at _ (by omega) (by omega) (nats_at (xs := xs) (i := i) (by omega) b) h
structure Dk where
  l : Ld
  hv : List Nat
  nd : List Nat
def deskC (d : Dk) : List AV := .int .i64 d.l.bears :: .int .i64 d.l.shrink :: .sl d.l.nls (d.l.sacks.map skA) :: .sl d.l.nla (d.l.apart.map prA) :: .sl d.l.nlw (d.l.wth.map prA) :: (nats d.hv ++ nats d.nd)
theorem lowL_append {n : Nat} (a b : List AV) : lowL n (a ++ b) = (lowL n a && lowL n b) := by
  induction a with | nil => rfl | cons x a ih => simp only [List.cons_append, lowL, ih, Bool.and_assoc]
theorem lowDk {n : Nat} (d : Dk) : lowL n (deskC d) = true := by simp only [deskC, lowL, AV.low, lowSk, lowPr, lowL_append, lowN]; rfl
theorem XDrop.desk {d : Dk} {k : List AV → Prop} (hh : d.hv.length = 512) (h : k (nats d.nd)) : XDrop 517 (deskC d) k := by
  have e : deskC d = (.int .i64 d.l.bears :: .int .i64 d.l.shrink :: .sl d.l.nls (d.l.sacks.map skA) :: .sl d.l.nla (d.l.apart.map prA) :: .sl d.l.nlw (d.l.wth.map prA) :: nats d.hv) ++ nats d.nd := rfl
  have l : (.int .i64 d.l.bears :: .int .i64 d.l.shrink :: .sl d.l.nls (d.l.sacks.map skA) :: .sl d.l.nla (d.l.apart.map prA) :: .sl d.l.nlw (d.l.wth.map prA) :: nats d.hv).length = 517 := by simp [hh]
  refine ⟨by rw [e, List.length_append, l]; omega, ?_⟩
  rw [e, List.drop_left' l]; exact h
structure DkOk (d : Dk) : Prop where
  hv : d.hv.length = 512
  nd : d.nd.length = 9
  small : ∀ i, d.nd.getD i 0 < 512
  big : ∀ i, d.hv.getD i 0 < 1000000

theorem whole1_c (d : Dk) (ok : DkOk d) (i set : Nat) (h2 : i < 9) (hs : set < 512) :
    Comp Try.prog 152 [.int .i64 i, .pim [.pim (deskC d)], .pim [.int .i64 set]] (.bool (diff (d.nd.getD i 0) set == 0)) := by
  refine Comp.body (T := tab) (res := [.tmp 4]) tab_ok [] Try.func152 rfl (by kernel_rfl) Try.ntmps152 rfl (by simp only [List.length_cons, List.length_nil]; decide) (by simp only [lowL, AV.low, lowDk]; rfl) ?_; conv => whnf
  have g1 := ok.hv
  have g2 := ok.nd
  apply Walk.drawX tab_ok mixed_ok [] [] (fun _ => []) [_, _, _, _, _, _, _, _, _, _] (by kernel_rfl) rfl
  · skip
    repeat' first | (with_reducible apply XAnd.mk) | ((first | (with_reducible apply Chk.go) | (with_reducible apply ChkA.go)); conv => whnf) | (exact XSame.mk rfl rfl) | (with_reducible exact trivial) | ((first | (with_reducible refine XDrop.desk (by assumption) ?_) | ((with_reducible refine XArr.nats ?_ ?_ ?_); omega; omega)); conv => whnf)
  · skip
    repeat' first | (with_reducible apply XAnd.mk) | ((first | (with_reducible apply ChkF.go) | (with_reducible apply ChkB.go)); conv => whnf) | (with_reducible exact trivial)
  · conv => whnf
    skip
    refine XOut.bool ?_
    have := ok.small i
    rw [iandn_nat (by omega) (by omega), Bool.eq_iff_iff]; simp
theorem bit_at {set : Nat} {p : Int} (h1 : 0 ≤ p) (h2 : p ≤ 62) (hs : set < 512) : iand .i64 ((set : Int).fdiv (2 ^ min p.toNat IntKind.i64.bits)) 1 = ((set / 2 ^ p.toNat % 2 : Nat) : Int) := by
  obtain ⟨k, rfl⟩ := Int.eq_ofNat_of_zero_le h1
  rw [shr_nat (by omega)]
  have : set / 2 ^ k ≤ set := Nat.div_le_self ..
  have := iand_nat (a := set / 2 ^ k) (b := 1) (by omega) (by omega)
  rw [Nat.and_one_is_mod] at this
  exact this
def inSet (set : Nat) (p : Int) : Bool := set / 2 ^ p.toNat % 2 == 1
theorem whole2_c (p : Int × Int) (set : Nat) (h1 : 0 ≤ p.1) (h2 : p.1 ≤ 62) (h3 : 0 ≤ p.2) (h4 : p.2 ≤ 62) (hs : set < 512) :
    Comp Try.prog 153 [prA p, .pim [.int .i64 set]] (.bool (!inSet set p.1 || !inSet set p.2)) := by
  refine Comp.body (T := tab) (res := [.tmp 3]) tab_ok [] Try.func153 rfl (by kernel_rfl) Try.ntmps153 rfl (by simp only [List.length_cons, List.length_nil]; decide) (by rfl) ?_; conv => whnf
  have e1 := bit_at h1 h2 hs
  have e2 := bit_at h3 h4 hs
  repeat' first | ((first | (with_reducible apply XBr.tt) | (with_reducible apply XBr.ff)); conv => whnf) | ((with_reducible apply XBr.beq) <;> (intro h; first | (exfalso; omega) | (conv => whnf))) | ((with_reducible refine XHold.mk ?_ ?_); (first | omega | rfl | decide | exact ⟨rfl, by decide, rfl⟩ | exact wideI _ | exact widePr _ | exact wideSk _ | (unfold Room; constructor <;> ((try simp) <;> omega)) | exact ⟨rfl, by simp only [List.length_map], by unfold Room; constructor <;> ((try simp) <;> omega)⟩ | exact ⟨by omega, by omega, by unfold Room; constructor <;> ((try simp) <;> omega)⟩); conv => whnf) | ((first | (with_reducible apply XArr.pim0) | (with_reducible apply XArr.pim1)); conv => whnf)
  · rw [e1] at h
    refine XOut.bool ?_
    have : inSet set p.1 = false := by unfold inSet; simp; omega
    simp [this]
  · rw [e1] at h
    refine XOut.bool ?_
    rw [e2]
    have : inSet set p.1 = true := by unfold inSet; simp; omega
    have hb : (((set / 2 ^ p.2.toNat % 2 : Nat) : Int) == 0) = !(set / 2 ^ p.2.toNat % 2 == 1) := by
      rcases Nat.mod_two_eq_zero_or_one (set / 2 ^ p.2.toNat) with h | h <;> rw [h] <;> rfl
    rw [this, hb]; simp [inSet]

def wholeB (d : Dk) (set : Nat) : Bool := ((bits set).all fun i => diff (d.nd.getD i.toNat 0) set == 0) && (d.l.apart.all fun p => !inSet set p.1 || !inSet set p.2)
theorem bitsF_bound : ∀ (f i s k : Nat), s < 2 ^ k → ∀ x ∈ bitsF f i s, (i : Int) ≤ x ∧ x < (i + k : Nat)
  | 0, _, _, _, _, x, hx => by simp [bitsF] at hx
  | f + 1, i, s, k, hs, x, hx => by
    unfold bitsF at hx
    split at hx
    · simp at hx
    · rename_i h0
      cases k with
      | zero => simp at hs; omega
      | succ k =>
        have ih := bitsF_bound f (i + 1) (s / 2) k (by rw [Nat.pow_succ] at hs; omega)
        split at hx
        · rcases List.mem_cons.1 hx with rfl | hx
          · omega
          · have := ih x hx; omega
        · have := ih x hx; omega
theorem bits_bound {s : Nat} (hs : s < 512) : ∀ x ∈ bits s, 0 ≤ x ∧ x < 9 := fun x hx => by have := bitsF_bound 62 0 s 9 (by omega) x hx; omega
theorem bits_len (s : Nat) : (bits s).length ≤ 62 := bitsF_length ..
theorem whole_c (d : Dk) (ok : DkOk d) (set : Nat) (hs : set < 512) (ha : d.l.apart.length ≤ 1000) (hp : ∀ p ∈ d.l.apart, 0 ≤ p.1 ∧ p.1 ≤ 62 ∧ 0 ≤ p.2 ∧ p.2 ≤ 62) : Comp Try.prog 135 [.pim (deskC d), .int .i64 set] (.bool (wholeB d set)) := by
  refine Comp.body (T := tab) (res := [.tmp 4]) tab_ok [] Try.func135 rfl (by kernel_rfl) Try.ntmps135 rfl (by simp only [List.length_cons, List.length_nil]; decide) (by simp only [lowL, AV.low, lowDk]; rfl) ?_; conv => whnf
  refine XCall.ret (list_c set (by omega)) ?_
  conv => whnf
  refine XCall.ret (every_int _ (bits set) 152 [.pim [.pim (deskC d)], .pim [.int .i64 set]] (fun i => diff (d.nd.getD i.toNat 0) set == 0) (by simp only [lowL, AV.low, lowDk]; rfl) (by have := bits_len set; omega) fun x hx => ?_) ?_
  · obtain ⟨h1, h2⟩ := bits_bound hs x hx
    obtain ⟨k, rfl⟩ := Int.eq_ofNat_of_zero_le h1
    exact whole1_c d ok k set (by omega) hs
  conv => whnf
  repeat' first | ((first | (with_reducible apply XBr.tt) | (with_reducible apply XBr.ff)); conv => whnf) | ((with_reducible apply XBr.mk') <;> (intro h; conv => whnf))
  · refine XCall.ret (every_pr _ d.l.apart 153 [.pim [.int .i64 set]] (fun p => !inSet set p.1 || !inSet set p.2) rfl (by omega) fun p hm => ?_) ?_
    · obtain ⟨h1, h2, h3, h4⟩ := hp p hm
      exact whole2_c p set h1 h2 h3 h4 hs
    conv => whnf
    repeat' first | ((with_reducible apply XBr.tt); conv => whnf)
    refine XOut.bool ?_
    unfold wholeB; rw [h]; simp
  · refine XOut.bool ?_
    unfold wholeB; rw [h]; simp
end GA
end

section
namespace GA
open Go Go.RowKit Go.Proofs
set_option pp.deepTerms true
set_option maxRecDepth 8000
set_option linter.unusedVariables false
set_option linter.unusedSimpArgs false

structure DkFull (d : Dk) : Prop extends DkOk d where
  al : d.l.apart.length ≤ 1000
  ap : ∀ p ∈ d.l.apart, 0 ≤ p.1 ∧ p.1 ≤ 62 ∧ 0 ≤ p.2 ∧ p.2 ≤ 62
def rightB (d : Dk) (set : Nat) : Bool := decide ((d.hv.getD set 0 : Nat) ≤ d.l.bears) && wholeB d set
theorem right_c (d : Dk) (ok : DkFull d) (set : Nat) (hs : set < 512) : Comp Try.prog 88 [.pim (deskC d), .int .i64 set] (.bool (rightB d set)) := by
  refine Comp.body (T := tab) (res := [.tmp 4]) tab_ok [] Try.func88 rfl (by kernel_rfl) Try.ntmps88 rfl (by simp only [List.length_cons, List.length_nil]; decide) (by simp only [lowL, AV.low, lowDk]; rfl) ?_; conv => whnf
  have g1 := ok.hv
  have g2 := ok.nd
  by_cases hc : ((d.hv.getD set 0 : Nat) : Int) ≤ d.l.bears
  · apply Walk.drawX tab_ok mixed_ok [] [] (fun _ => []) [_, _, _, _, _, _, _, _, _, _, _, .bool true, .bool true, _, _, _, _, _] (by kernel_rfl) rfl
    · skip
      repeat' first | ((with_reducible apply XBr.tt); conv => whnf) | (with_reducible apply XAnd.mk) | ((first | (with_reducible apply Chk.go) | (with_reducible apply ChkA.go)); conv => whnf) | (exact XSame.mk rfl rfl) | (with_reducible exact trivial) | (((with_reducible refine XArr.natsA ?_ ?_ ?_); omega; omega); conv => whnf) | (exact XSame.mk (by rw [decide_eq_true hc]) rfl) | (refine XCall.ret (whole_c d ok.toDkOk set hs ok.al ok.ap) ?_; conv => whnf)
    · skip
      repeat' first | (with_reducible apply XAnd.mk) | ((first | (with_reducible apply ChkF.go) | (with_reducible apply ChkB.go)); conv => whnf) | (with_reducible exact trivial)
    · conv => whnf
      skip
      refine XOut.bool ?_
      unfold rightB; rw [decide_eq_true hc]; rfl
  · apply Walk.drawX tab_ok mixed_ok [] [] (fun _ => []) [_, _, _, _, _, _, _, _, _, _, _, .bool false, .bool false, _, _, _, _, _] (by kernel_rfl) rfl
    · skip
      repeat' first | ((with_reducible apply XBr.ff); conv => whnf) | (with_reducible apply XAnd.mk) | ((first | (with_reducible apply Chk.go) | (with_reducible apply ChkA.go)); conv => whnf) | (exact XSame.mk rfl rfl) | (with_reducible exact trivial) | (((with_reducible refine XArr.natsA ?_ ?_ ?_); omega; omega); conv => whnf) | (exact XSame.mk (by rw [decide_eq_false hc]) rfl)
    · skip
      repeat' first | (with_reducible apply XAnd.mk) | ((first | (with_reducible apply ChkF.go) | (with_reducible apply ChkB.go)); conv => whnf) | (with_reducible exact trivial)
    · conv => whnf
      skip
      refine XOut.bool ?_
      unfold rightB; rw [decide_eq_false hc]; rfl
end GA
end

section
namespace GA
open Go Go.RowKit
set_option linter.unusedVariables false

section
variable {P : Program} {T : Tab} {N : Nat} {ρ : Option Nat} {D : List Nat} {σ : St} {H : List Blk} {Q : Post}

theorem AWp.loopG {c : Code} {G : Type} (st : G → St) (hp : G → List Blk) (μ : G → Nat) (g0 : G) (hσ : ∀ t r, st g0 t = some r → σ t = some r) (hH : hp g0 = H) (hD : D = [])
    (hlow : ∀ g, (∀ x ∈ hp g, x.low (hp g).length = true) ∧ ∀ t r, st g t = some r → r.low (hp g).length = true) (hlen : ∀ g, (hp g0).length ≤ (hp g).length)
    (round : ∀ g, AWp P N ρ c (thenQ (fun D' σ' H' => D' = D ∧ ∃ g' l, μ g' < μ g ∧ hp g' ++ l = H' ∧ ∀ t r, st g' t = some r → σ' t = some r) Q) D (st g) (hp g)) : AWp P N ρ (.loop c) Q D σ H := by
  intro E h β a w s
  subst hH; subst hD
  let I : G → Act → World → Prop := fun g a w => ∃ h' β', Ext h β (hp g0) h' β' (hp g) ∧ Stands P E N h' β' [] (st g) (hp g) a w
  have least : ∀ a w, (∃ g, I g a w) → ∃ n, (∃ g, I g a w ∧ μ g = n) ∧ ∀ m, m < n → ¬ ∃ g, I g a w ∧ μ g = m :=
    fun a w ⟨g, hg⟩ => exists_least ⟨μ g, g, hg, rfl⟩
  classical
  let M : Act → World → Nat := fun a w => if e : ∃ g, I g a w then Classical.choose (least a w e) else 0
  have hM : ∀ a w (e : ∃ g, I g a w), (∃ g, I g a w ∧ μ g = M a w) ∧ ∀ g, I g a w → M a w ≤ μ g := by
    intro a w e
    have hc := Classical.choose_spec (least a w e)
    have hm : M a w = Classical.choose (least a w e) := by simp only [M, dif_pos e]
    rw [hm]
    refine ⟨hc.1, fun g hg => ?_⟩
    rcases Nat.lt_or_ge (μ g) (Classical.choose (least a w e)) with hlt | hge
    · exact absurd ⟨g, hg, rfl⟩ (hc.2 _ hlt)
    · exact hge
  refine wpIn_loop (fun a w => ∃ g, I g a w) M ⟨g0, h, β, Ext.refl _ _ _, s.sr, fun t r e => s.fits t r (hσ t r e), s.size, s.df⟩ ?_
  intro a' w' hI
  obtain ⟨⟨g, hg, hmu⟩, _⟩ := hM a' w' hI
  obtain ⟨h', β', X, s'⟩ := hg
  refine wpIn_mono (round g E h' β' a' w' s') ?_
  rintro e a'' w'' ⟨D'', σ'', H'', h'', β'', q, X', s''⟩
  cases e with
  | normal =>
    obtain ⟨rfl, g', l, hlt, rfl, hsub⟩ := q
    have hI' : I g' a'' w'' := by
      refine ⟨h'', β'', (X.trans X').cut (hlen g'), s''.sr.cut (hlow g').1, fun t r e => ?_, s''.size, s''.df.any⟩
      obtain ⟨v, h1, h2⟩ := s''.fits t r (hsub t r e)
      exact ⟨v, h1, h2.cut ((hlow g').2 t r e)⟩
    refine ⟨⟨g', hI'⟩, ?_⟩
    have := (hM a'' w'' ⟨g', hI'⟩).2 g' hI'
    omega
  | _ => exact ⟨D'', σ'', H'', h'', β'', q, X.trans X', s''⟩

structure XAgainG {G : Type} (I : G → Prop) (L : G → List (Nat × AV)) (hp : G → List Blk) (μ : G → Nat) (g : G) (D' : List Nat) (σ' : St) (H' : List Blk) : Prop where
  d : D' = []
  o : ∃ g' l, I g' ∧ μ g' < μ g ∧ hp g' ++ l = H' ∧ SubX (L g') σ'
theorem Walk.loopG {c : Code} {G : Type} (ok : TabOk P T) (own : List Nat) (I : G → Prop) (L : G → List (Nat × AV)) (hp : G → List Blk) (μ : G → Nat) (g0 : G) (h0 : I g0) (hH : hp g0 = H) (hs : SubX (L g0) σ)
    (hlow : ∀ g, I g → (∀ x ∈ hp g, x.low (hp g).length = true) ∧ ∀ p ∈ L g, p.2.low (hp g).length = true) (hlen : ∀ g, I g → (hp g0).length ≤ (hp g).length)
    (round : ∀ g, I g → XRun P T N ρ own c (thenQ (XAgainG I L hp μ g) Q) [] (stX (L g)) (hp g)) : Walk P N ρ (.loop c) Q [] σ H := by
  constructor
  have hst : ∀ (l : List (Nat × AV)) t r, stX l t = some r → (t, r) ∈ l := by
    intro l; induction l with
    | nil => intro t r h; cases h
    | cons p l ih =>
      obtain ⟨u, x⟩ := p
      intro t r h; simp only [stX, updX_eq, upd] at h
      split at h
      · rename_i e; cases h; subst e; exact List.mem_cons_self
      · exact List.mem_cons_of_mem _ (ih t r h)
  refine AWp.loopG (G := {g : G // I g}) (fun g => stX (L g.1)) (fun g => hp g.1) (fun g => μ g.1) ⟨g0, h0⟩ (stX_sub hs) hH rfl (fun g => ⟨(hlow g.1 g.2).1, fun t r e => (hlow g.1 g.2).2 (t, r) (hst _ _ _ e)⟩) (fun g => hlen g.1 g.2) fun g => ?_
  refine (XRun.sound ok (round g.1 g.2)).mono fun e D' σ' H' q => ?_
  cases e with
  | normal => obtain ⟨h1, g', l, h2, h3, h4, h5⟩ := q; exact ⟨h1, ⟨g', h2⟩, l, h3, h4, stX_sub h5⟩
  | _ => exact q
theorem XAgainG.go {G : Type} {I : G → Prop} {L : G → List (Nat × AV)} {hp : G → List Blk} {μ : G → Nat} {g : G} (g' : G) (l : List Blk) (h1 : I g') (h2 : μ g' < μ g) (h3 : hp g' ++ l = H) (h4 : SubX (L g') σ) : XAgainG I L hp μ g [] σ H := ⟨rfl, g', l, h1, h2, h3, h4⟩
end
end GA
end

section
namespace GA
open Go Go.RowKit Go.Proofs
set_option pp.deepTerms true
set_option maxRecDepth 8000
set_option linter.unusedVariables false
set_option linter.unusedSimpArgs false

theorem xdrop_nats {xs : List Nat} {i : Nat} {k : List AV → Prop} (hi : i < xs.length) (h : k (.int .i64 (xs.getD i 0 : Nat) :: (nats xs).drop (0 + i * 1 + 1))) : xdrop (0 + i * 1) (nats xs) k :=
  xdrop_at _ (by have := nats_at (xs := xs) (i := i) hi []; rw [List.append_nil] at this; rw [Nat.zero_add]; exact this) h
theorem xspl_nats {xs : List Nat} {i : Nat} {v : Int} {k : List AV → Prop} (m : Nat) (hv : v = (m : Int)) (hi : i < xs.length) (h : k (nats (xs.set i m))) : xspl (nats xs) (0 + i * 1) [.int .i64 v] k := by
  subst hv
  refine xspl_to _ (by simp; omega) ?_ h
  rw [Nat.zero_add, Nat.mul_one]
  have e : (nats xs).set i (natA m) = nats (xs.set i m) := (List.map_set ..).symm
  rw [← e]
  have hl : i < (nats xs).length := by simpa using hi
  rw [List.set_eq_take_append_cons_drop, if_pos hl]
  simp [splice, natA]

theorem xtk_all : ∀ {n : Nat} {cs : List AV} {k : List AV → Prop}, cs.length = n → k cs → xtk n cs k
  | 0, [], _, _, h => h
  | n + 1, c :: cs, k, hl, h => xtk_all (n := n) (cs := cs) (k := fun l => k (c :: l)) (by simpa using hl) h
  | 0, _ :: _, _, hl, _ => by simp at hl
  | n + 1, [], _, hl, _ => by simp at hl
theorem xn_all : ∀ {n : Nat} {cs : List AV} {A : Prop}, cs.length = n → A → xn n cs A
  | 0, [], _, _, h => h
  | n + 1, c :: cs, A, hl, h => xn_all (n := n) (cs := cs) (A := A) (by simpa using hl) h
  | 0, _ :: _, _, hl, _ => by simp at hl
  | n + 1, [], _, hl, _ => by simp at hl
theorem xspl_all {c vs : List AV} {k : List AV → Prop} (hl : vs.length = c.length) (h : k vs) : xspl c 0 vs k :=
  xspl_to vs (by omega) (by simp [splice, hl]) h
def joinStep (b : List Nat) (p : Int × Int) : List Nat :=
  let all := b.getD p.1.toNat 0 ||| b.getD p.2.toNat 0
  b.mapIdx fun i x => if all / 2 ^ i % 2 = 1 then x ||| all else x
def joinR (l : Ld) (b : List Nat) : List Nat := l.wth.foldl joinStep b

def hsK (H : List Blk) : List Bool → List Blk := fun _ => H
theorem joinStep_len (b : List Nat) (p : Int × Int) : (joinStep b p).length = b.length := by simp [joinStep]
def joinI (l : Ld) (b : List Nat) (i : Nat) : List Nat := (l.wth.take i).foldl joinStep b
theorem foldl_len : ∀ (ps : List (Int × Int)) (b : List Nat), (ps.foldl joinStep b).length = b.length
  | [], _ => rfl
  | p :: ps, b => by rw [List.foldl_cons, foldl_len ps, joinStep_len]
def joinP (all : Nat) (b : List Nat) (j : Nat) : List Nat := b.mapIdx fun i x => if i < j ∧ all / 2 ^ i % 2 = 1 then x ||| all else x
theorem joinP_len (all : Nat) (b : List Nat) (j : Nat) : (joinP all b j).length = b.length := by simp [joinP]
theorem joinP_zero (all : Nat) (b : List Nat) : joinP all b 0 = b := by
  unfold joinP; apply List.ext_getElem (by simp); intro i h1 h2; simp
theorem joinP_at (all : Nat) (b : List Nat) (j : Nat) (hj : j < b.length) : (joinP all b j).getD j 0 = b.getD j 0 := by
  unfold joinP
  rw [List.getD_eq_getElem?_getD, List.getElem?_mapIdx, List.getD_eq_getElem?_getD, List.getElem?_eq_getElem hj]
  simp
theorem joinP_hit (all : Nat) (b : List Nat) (j : Nat) (hj : j < b.length) (hb : all / 2 ^ j % 2 = 1) : (joinP all b j).set j (b.getD j 0 ||| all) = joinP all b (j + 1) := by
  unfold joinP; apply List.ext_getElem (by simp)
  intro i h1 h2
  simp only [List.getElem_set, List.getElem_mapIdx]
  by_cases h : j = i
  · subst h; rw [if_pos rfl, if_pos ⟨by omega, hb⟩, List.getD_eq_getElem?_getD, List.getElem?_eq_getElem hj]; rfl
  · rw [if_neg h]
    by_cases h3 : i < j
    · simp [h3, show i < j + 1 by omega]
    · rw [if_neg (fun hh => h3 hh.1), if_neg (fun hh => by omega)]
theorem joinP_miss (all : Nat) (b : List Nat) (j : Nat) (hb : ¬ all / 2 ^ j % 2 = 1) : joinP all b j = joinP all b (j + 1) := by
  unfold joinP; apply List.ext_getElem (by simp)
  intro i h1 h2
  simp only [List.getElem_mapIdx]
  by_cases h : j = i
  · subst h; rw [if_neg (fun hh => hb hh.2), if_neg (fun hh => hb hh.2)]
  · by_cases h3 : i < j
    · simp [h3, show i < j + 1 by omega]
    · rw [if_neg (fun hh => h3 hh.1), if_neg (fun hh => by omega)]
theorem joinP_full (b : List Nat) (p : Int × Int) (hb : b.length = 9) : joinP (b.getD p.1.toNat 0 ||| b.getD p.2.toNat 0) b 9 = joinStep b p := by
  unfold joinP joinStep; apply List.ext_getElem (by simp)
  intro i h1 h2
  have : i < 9 := by simpa [hb] using h1
  simp only [List.getElem_mapIdx, this, true_and]
theorem joinStep_small (b : List Nat) (p : Int × Int) (hs : ∀ i, b.getD i 0 < 512) : ∀ i, (joinStep b p).getD i 0 < 512 := by
  intro i
  unfold joinStep
  rw [List.getD_eq_getElem?_getD, List.getElem?_mapIdx]
  rcases Nat.lt_or_ge i b.length with h | h
  · rw [List.getElem?_eq_getElem h]
    have h1 := hs i
    rw [List.getD_eq_getElem?_getD, List.getElem?_eq_getElem h] at h1
    have hall : (b.getD p.1.toNat 0 ||| b.getD p.2.toNat 0) < 2 ^ 9 := Nat.or_lt_two_pow (hs _) (hs _)
    simp only [Option.map_some, Option.getD_some] at h1 ⊢
    split
    · exact Nat.or_lt_two_pow (n := 9) h1 hall
    · exact h1
  · rw [List.getElem?_eq_none h]; simp
theorem joinI_small (l : Ld) (b : List Nat) (hs : ∀ i, b.getD i 0 < 512) (i : Nat) : ∀ j, (joinI l b i).getD j 0 < 512 := by
  unfold joinI
  generalize l.wth.take i = ps
  induction ps generalizing b with
  | nil => exact hs
  | cons p ps ih => rw [List.foldl_cons]; exact ih _ (joinStep_small b p hs)
theorem joinI_next (l : Ld) (b : List Nat) (i : Nat) (hi : i < l.wth.length) : joinI l b (i + 1) = joinStep (joinI l b i) (l.wth.getD i default) := by
  unfold joinI; rw [take_next hi, List.foldl_append]; rfl
theorem joined_c (l : Ld) (b : List Nat) (hb : b.length = 9) (hs : ∀ i, b.getD i 0 < 512) (hw : l.wth.length ≤ 8) (hp : ∀ p ∈ l.wth, 0 ≤ p.1 ∧ p.1 < 9 ∧ 0 ≤ p.2 ∧ p.2 < 9) : Comp Try.prog 131 [ldA l, .agg (nats b)] (.agg (nats (joinR l b))) := by
  refine Comp.body' (T := tab) (res := [.cell 4 159]) tab_ok [3] Try.func131 rfl (by kernel_rfl) Try.ntmps131 rfl (by simp only [List.length_cons, List.length_nil]; decide) (by simp only [lowL, AV.low, ldL, lowN]; rfl) ?_; conv => whnf
  refine Walk.loopG tab_ok [] (fun i : Nat => i ≤ l.wth.length) (fun i => [(2, .pim (ldC l)), (3, .ptr 0 0), (4, .ptr 1 0), (10, .sl l.nlw (l.wth.map prA)), (11, .int .i64 l.wth.length), (12, .int .i64 i)])
    (fun i => [.cells (nats (joinI l b i)), .cells (nats (List.replicate 9 0))]) (fun i => l.wth.length - i) 0 (by omega) rfl ⟨rfl, rfl, rfl, rfl, by simp only [List.length_map]; rfl, rfl, trivial⟩ ?_ ?_ ?_
  · intro i _
    constructor
    · intro x hx; simp at hx; rcases hx with rfl | rfl
      · simp only [Blk.low, lowN]
      · rfl
    · intro p hp; simp at hp; rcases hp with rfl | rfl | rfl | rfl | rfl | rfl <;> simp [AV.low, lowPr, lowLd]
  · intro i _; simp
  intro i hi
  have hlen : (joinI l b i).length = 9 := by unfold joinI; rw [foldl_len]; exact hb
  conv => whnf
  repeat' first | ((with_reducible apply XBr.dec) <;> (intro h; first | (exfalso; omega) | ((try simp only [List.length_map] at h); first | (exfalso; omega) | (conv => whnf)))) | (((with_reducible refine XIx.nat ?_ ?_ ?_); omega; (intro _; rfl)); conv => whnf)
  · obtain ⟨p1, p2, p3, p4⟩ := hp _ (getD_mem (xs := l.wth) (i := i) (d := default) (by omega))
    apply Walk.drawX tab_ok mixed_ok [] [] (hsK _) [_, _, _, _, _, _, _, _, _, _] (by kernel_rfl) rfl
    · skip
      repeat' first | (with_reducible apply XAnd.mk) | ((first | (with_reducible apply Chk.go) | (with_reducible apply ChkA.go)); conv => whnf) | (exact XSame.mk rfl rfl) | (with_reducible exact trivial) | ((first | ((with_reducible refine XArr.ptr ?_ ?_ ?_); omega; omega) | (refine xdrop_nats (by omega) ?_)); conv => whnf)
    · skip
      repeat' first | (with_reducible apply XAnd.mk) | ((first | (with_reducible apply ChkF.go) | (with_reducible apply ChkB.go)); conv => whnf) | (with_reducible exact trivial)
    · conv => whnf
      skip
      have hsm := joinI_small l b hs i
      have hx := hsm (l.wth.getD i default).1.toNat
      have hy := hsm (l.wth.getD i default).2.toNat
      have hall : ((joinI l b i).getD (l.wth.getD i default).1.toNat 0 ||| (joinI l b i).getD (l.wth.getD i default).2.toNat 0) < 2 ^ 9 := Nat.or_lt_two_pow (n := 9) hx hy
      have hor := ior_nat (a := (joinI l b i).getD (l.wth.getD i default).1.toNat 0) (b := (joinI l b i).getD (l.wth.getD i default).2.toNat 0) (by omega) (by omega)
      generalize hae : ((joinI l b i).getD (l.wth.getD i default).1.toNat 0 ||| (joinI l b i).getD (l.wth.getD i default).2.toNat 0) = all at hall hor
      refine Walk.loop tab_ok [] (fun j : Nat => j ≤ 9) (fun j => [(2, .pim (ldC l)), (3, .ptr 0 0), (4, .ptr 1 0), (10, .sl l.nlw (l.wth.map prA)), (11, .int .i64 l.wth.length), (12, .int .i64 i), (7, .int .i64 all), (25, .int .i64 j)])
        (fun j => [.cells (nats (joinP all (joinI l b i) j)), .cells (nats (List.replicate 9 0)), .cells [.int .i64 (l.wth.getD i default).1, .int .i64 (l.wth.getD i default).2]]) (fun j => 9 - j) 0 (by omega) (by simp only [joinP_zero]; rfl) ⟨rfl, rfl, rfl, rfl, rfl, rfl, congrArg (fun n => some (AV.int .i64 n)) hor, rfl, trivial⟩ ?_
      intro j hj
      have hpl : (joinP all (joinI l b i) j).length = 9 := by rw [joinP_len]; exact hlen
      have hbit := bit_at (set := all) (p := (j : Int)) (by omega) (by omega) (by omega)
      rw [Int.toNat_natCast] at hbit
      conv => whnf
      repeat' first | ((with_reducible apply XBr.dec) <;> (intro h; first | (exfalso; omega) | ((try simp only [List.length_map] at h); first | (exfalso; omega) | (conv => whnf)))) | ((with_reducible apply XBr.beq) <;> (intro h; first | (exfalso; omega) | (conv => whnf))) | ((with_reducible refine XInt.i64 (by omega) (by omega) ?_); conv => whnf) | ((with_reducible refine XHold.mk ?_ ?_); (first | omega | rfl | decide | exact ⟨rfl, by decide, rfl⟩ | exact wideI _ | exact widePr _ | exact wideSk _ | (unfold Room; constructor <;> ((try simp) <;> omega)) | exact ⟨rfl, by simp only [List.length_map], by unfold Room; constructor <;> ((try simp) <;> omega)⟩ | exact ⟨by omega, by omega, by unfold Room; constructor <;> ((try simp) <;> omega)⟩); conv => whnf) | (((with_reducible refine XArr.ptr ?_ ?_ ?_); omega; omega); conv => whnf)
      · rw [Int.toNat_natCast, hbit] at h
        have hb1 : all / 2 ^ j % 2 = 1 := by omega
        refine xdrop_nats (i := j) (by omega) ?_
        conv => whnf
        repeat' first | (((with_reducible refine XArr.ptr ?_ ?_ ?_); omega; omega); conv => whnf)
        have hlt := hsm j
        refine xspl_nats ((joinI l b i).getD j 0 ||| all) (by rw [joinP_at _ _ _ (by omega)]; exact ior_nat (by omega) (by omega)) (by omega) ?_
        conv => whnf
        repeat' first | ((with_reducible refine XInt.i64 (by omega) (by omega) ?_); conv => whnf)
        refine XAgain.go (j + 1) (by omega) (by omega) ?_ ⟨rfl, rfl, rfl, rfl, rfl, rfl, rfl, rfl, trivial⟩
        rw [Int.toNat_natCast, joinP_hit _ _ _ (by omega) hb1]
      · rw [Int.toNat_natCast, hbit] at h
        have hb1 : ¬ all / 2 ^ j % 2 = 1 := by omega
        refine XAgain.go (j + 1) (by omega) (by omega) ?_ ⟨rfl, rfl, rfl, rfl, rfl, rfl, rfl, rfl, trivial⟩
        rw [← joinP_miss _ _ _ hb1]
      · have : j = 9 := by omega
        subst this
        refine XAgainG.go (i + 1) [.cells [.int .i64 (l.wth.getD i default).1, .int .i64 (l.wth.getD i default).2]] (by omega) (by omega) ?_ ⟨rfl, rfl, rfl, rfl, rfl, rfl, trivial⟩
        rw [joinI_next l b i (by omega), ← joinP_full _ _ hlen, hae]; rfl
  · have hie : i = l.wth.length := by omega
    have hfin : joinI l b i = joinR l b := by unfold joinI joinR; rw [hie, List.take_length]
    rw [hfin] at hlen ⊢
    refine xtk_all (by rw [List.length_map]; exact hlen) ?_
    conv => whnf
    refine xn_all (by rw [List.length_map]; exact hlen) ?_
    conv => whnf
    refine xspl_all (by rw [List.length_map, List.length_map]; exact hlen) ?_
    conv => whnf
    refine xtk_all (by rw [List.length_map]; exact hlen) ?_
    conv => whnf
    exact ⟨Froz.low (by show lowL 0 _ = true; exact lowN _)⟩
end GA
end

section
namespace GA
open Go Go.RowKit Go.Proofs
set_option pp.deepTerms true
set_option maxRecDepth 8000
set_option linter.unusedVariables false
set_option linter.unusedSimpArgs false

theorem XInt.eq {x y : Int} {k : AV → Prop} (e : x = y) (h1 : -9223372036854775808 ≤ y) (h2 : y ≤ 9223372036854775807) (h : k (.int .i64 y)) : XInt .i64 x k := by subst e; exact .i64 h1 h2 h
theorem pow9 {n : Nat} (h : n ≤ 9) : 2 ^ n ≤ 512 ∧ 0 < 2 ^ n := ⟨Nat.pow_le_pow_right (n := 2) (by omega) h, Nat.two_pow_pos n⟩
theorem all_c (d : Dk) (h : d.l.sacks.length ≤ 9) : Comp Try.prog 79 [.pim (deskC d)] (.int .i64 ((2 ^ d.l.sacks.length - 1 : Nat) : Int)) := by
  refine Comp.body (T := tab) (res := [.tmp 2]) tab_ok [] Try.func79 rfl (by kernel_rfl) Try.ntmps79 rfl (by simp only [List.length_cons, List.length_nil]; decide) (by simp only [lowL, AV.low, lowDk]; rfl) ?_; conv => whnf
  repeat' first | ((with_reducible refine XHold.mk ?_ ?_); (first | omega | rfl | decide | exact ⟨rfl, by decide, rfl⟩ | exact wideI _ | exact widePr _ | exact wideSk _ | (unfold Room; constructor <;> ((try simp) <;> omega)) | exact ⟨rfl, by simp only [List.length_map], by unfold Room; constructor <;> ((try simp) <;> omega)⟩ | exact ⟨by omega, by omega, by unfold Room; constructor <;> ((try simp) <;> omega)⟩); conv => whnf)
  · have := pow9 h
    refine XInt.eq (y := ((2 ^ d.l.sacks.length : Nat) : Int)) (by rw [List.length_map]; exact shl_nat (by omega)) (by omega) (by omega) ?_
    conv => whnf
    repeat' first | ((with_reducible refine XInt.i64 (by omega) (by omega) ?_); conv => whnf)
    refine XOut.int ?_
    omega
theorem carts_c (d : Dk) (set : Nat) : Comp Try.prog 80 [.pim (deskC d), .int .i64 set] (.fn 133 [.pim [.int .i64 set], .pim [.pim (deskC d)]]) := by
  refine Comp.body (T := tab) (res := [.tmp 4]) tab_ok [] Try.func80 rfl (by kernel_rfl) Try.ntmps80 rfl (by simp only [List.length_cons, List.length_nil]; decide) (by simp only [lowL, AV.low, lowDk]; rfl) ?_; conv => whnf
  skip
  exact ⟨Froz.low (by show lowL 0 _ = true; simp only [lowL, AV.low, lowDk]; rfl)⟩
end GA
end

section
namespace GA
open Go Go.RowKit Go.Proofs
set_option pp.deepTerms true
set_option maxRecDepth 8000
set_option linter.unusedVariables false
set_option linter.unusedSimpArgs false

def lowb (s : Nat) : Nat := diff s (s - 1)
theorem low_all : ∀ s : Fin 512, iand .i64 (s.val : Int) (0 - (s.val : Int)) = ((lowb s.val : Nat) : Int) := by decide +kernel
theorem low_int {s : Nat} (h : s < 512) : iand .i64 (s : Int) (0 - (s : Int)) = ((lowb s : Nat) : Int) := low_all ⟨s, h⟩
theorem AYield.mono {P : Program} {i : Nat} {rs : List AV} {H : List Blk} {k k' : AV → List Blk → Prop} (x : AYield P i rs H k) (hk : ∀ r H', k r H' → k' r H') : AYield P i rs H k' :=
  ⟨x.1, fun E h β w b vs s r e => let ⟨f, tmps, assign, body, h1, h2⟩ := x.2 E h β w b vs s r e; ⟨f, tmps, assign, body, h1, h2.mono fun _ _ => Ends.mono hk⟩⟩
def IterOk (P : Program) (i : Nat) (K : List Blk → Prop) : List Nat → List Blk → Prop
  | [], H => K H
  | c :: cs, H => XYield P i [natA c] H fun r H' => (r = .bool true ∧ IterOk P i K cs H') ∨ (r = .bool false ∧ K H')

theorem diff_le (a b : Nat) : diff a b ≤ a := by
  unfold diff
  have h : a ^^^ (a &&& b) = a &&& (a ^^^ b) := by
    apply Nat.eq_of_testBit_eq; intro i; simp only [Nat.testBit_xor, Nat.testBit_and]
    cases a.testBit i <;> cases b.testBit i <;> rfl
  rw [h]; exact Nat.and_le_left
theorem or9 {a b : Nat} (ha : a < 512) (hb : b < 512) : a ||| b < 512 := Nat.or_lt_two_pow (n := 9) ha hb
theorem lowb_le (s : Nat) : lowb s ≤ s := diff_le ..
def cartsF (d : Dk) (set : Nat) : Nat → Nat → List Nat
  | 0, _ => []
  | f + 1, rest => (if rightB d (rest ||| lowb set) then [rest ||| lowb set] else []) ++ (if rest = 0 then [] else cartsF d set f (diff ((rest - 1) &&& set) (lowb set)))
def cartsL (d : Dk) (set : Nat) : List Nat := cartsF d set 512 (diff set (lowb set))

theorem cartsF_succ (d : Dk) (set f rest : Nat) : cartsF d set (f + 1) rest = (if rightB d (rest ||| lowb set) then [rest ||| lowb set] else []) ++ (if rest = 0 then [] else cartsF d set f (diff ((rest - 1) &&& set) (lowb set))) := rfl
theorem carts1_c (d : Dk) (ok : DkFull d) (set i : Nat) (hs : set < 512) (H : List Blk) (K : List Blk → Prop) (hK : IterOk Try.prog i K (cartsL d set) H) :
    XCall Try.prog 133 [.yld i, .pim [.int .i64 set], .pim [.pim (deskC d)]] H fun _ H' => K H' := by
  refine XCall.inl (T := tab) (res := []) tab_ok [] Try.func133 rfl (by kernel_rfl) Try.ntmps133 rfl (by simp only [List.length_append, List.length_cons, List.length_nil]; decide) ?_; conv => whnf
  repeat' first | ((with_reducible refine XInt.i64 (by omega) (by omega) ?_); conv => whnf)
  have hl := lowb_le set
  have hd := diff_le set (lowb set)
  have e1 : iand .i64 (set : Int) (0 - (set : Int)) = ((lowb set : Nat) : Int) := low_int hs
  have e2 : iandn .i64 (set : Int) ((lowb set : Nat) : Int) = ((diff set (lowb set) : Nat) : Int) := iandn_nat (by omega) (by omega)
  refine Walk.loop tab_ok [] (fun g : Nat × Nat × List Blk => g.1 < 512 ∧ g.1 < g.2.1 ∧ IterOk Try.prog i K (cartsF d set g.2.1 g.1) g.2.2) (fun g => [(0, .yld i), (1, .pim [.int .i64 set]), (2, .pim [.pim (deskC d)]), (4, .int .i64 (lowb set : Nat)), (5, .int .i64 g.1)]) (fun g => g.2.2) (fun g => g.1) (diff set (lowb set), 512, H) ⟨by dsimp only; omega, by dsimp only; omega, hK⟩ rfl ⟨rfl, rfl, rfl, congrArg (fun n => some (AV.int .i64 n)) e1, ?_, trivial⟩ ?_
  · show some (AV.int .i64 (iandn .i64 (set : Int) (iand .i64 (set : Int) (0 - (set : Int))))) = _
    rw [e1, e2]
  rintro ⟨rest, f, H'⟩ ⟨h1, h2, h3⟩
  dsimp only at h1 h2 h3 ⊢
  conv => whnf
  have e3 : ior .i64 (rest : Int) ((lowb set : Nat) : Int) = ((rest ||| lowb set : Nat) : Int) := ior_nat (by omega) (by omega)
  have h4 : rest ||| lowb set < 512 := or9 h1 (by omega)
  have hf : f = (f - 1) + 1 := by omega
  rw [hf] at h3
  have hn := diff_le ((rest - 1) &&& set) (lowb set)
  have hn2 : (rest - 1) &&& set ≤ rest - 1 := Nat.and_le_left
  have e5 : 0 < rest → iandn .i64 (iand .i64 ((rest : Int) - 1) (set : Int)) ((lowb set : Nat) : Int) = ((diff ((rest - 1) &&& set) (lowb set) : Nat) : Int) := by
    intro h0
    have : (rest : Int) - 1 = ((rest - 1 : Nat) : Int) := by omega
    rw [this, iand_nat (by omega) (by omega), iandn_nat (by omega) (by omega)]
  rw [e3]
  refine XCall.ret (right_c d ok _ h4) ?_
  conv => whnf
  repeat' first | ((first | (with_reducible apply XBr.tt) | (with_reducible apply XBr.ff)); conv => whnf) | ((with_reducible apply XBr.beq) <;> (intro h; first | (exfalso; omega) | (conv => whnf))) | ((with_reducible refine XInt.i64 (by omega) (by omega) ?_); conv => whnf) | ((with_reducible apply XBr.mk') <;> (intro h; conv => whnf))
  · rw [e3]
    have hc : cartsF d set (f - 1 + 1) rest = (rest ||| lowb set) :: (if rest = 0 then [] else cartsF d set (f - 1) (diff ((rest - 1) &&& set) (lowb set))) := by
      rw [cartsF_succ, if_pos h]; rfl
    rw [hc] at h3
    refine ⟨AYield.mono h3.o ?_⟩
    rintro r H'' (⟨rfl, h5⟩ | ⟨rfl, h5⟩)
    · conv => whnf
      repeat' first | ((first | (with_reducible apply XBr.tt) | (with_reducible apply XBr.ff)); conv => whnf) | (with_reducible apply XBr.not) | ((with_reducible apply XBr.beq) <;> (intro h; first | (exfalso; omega) | (conv => whnf))) | ((with_reducible refine XInt.i64 (by omega) (by omega) ?_); conv => whnf)
      · rename_i h0
        rw [if_pos (by omega)] at h5; exact h5
      · rename_i h0
        rw [if_neg (by omega)] at h5
        refine XAgain.go (diff ((rest - 1) &&& set) (lowb set), f - 1, H'') ⟨by dsimp only; omega, by dsimp only; omega, h5⟩ (by dsimp only; omega) rfl ⟨rfl, rfl, rfl, rfl, ?_, trivial⟩
        exact congrArg (fun n => some (AV.int .i64 n)) (e5 (by omega))
    · conv => whnf
      repeat' first | ((first | (with_reducible apply XBr.tt) | (with_reducible apply XBr.ff)); conv => whnf) | (with_reducible apply XBr.not)
      exact h5
  · have hc : cartsF d set (f - 1 + 1) rest = (if rest = 0 then [] else cartsF d set (f - 1) (diff ((rest - 1) &&& set) (lowb set))) := by
      rw [cartsF_succ, if_neg (by simp [*])]; rfl
    rw [hc] at h3
    rename_i h0
    rw [if_pos (by omega)] at h3; exact h3
  · have hc : cartsF d set (f - 1 + 1) rest = (if rest = 0 then [] else cartsF d set (f - 1) (diff ((rest - 1) &&& set) (lowb set))) := by
      rw [cartsF_succ, if_neg (by simp [*])]; rfl
    rw [hc] at h3
    rename_i h0
    rw [if_neg (by omega)] at h3
    refine XAgain.go (diff ((rest - 1) &&& set) (lowb set), f - 1, H') ⟨by dsimp only; omega, by dsimp only; omega, h3⟩ (by dsimp only; omega) rfl ⟨rfl, rfl, rfl, rfl, ?_, trivial⟩
    exact congrArg (fun n => some (AV.int .i64 n)) (e5 (by omega))
end GA
end
