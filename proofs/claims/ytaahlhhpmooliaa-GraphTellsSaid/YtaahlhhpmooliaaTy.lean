/- What the program's types are, as it is asked in the steps. -/
import Derived.Test.YtaahlhhpmooliaaPLd
import Derived.Test.YtaahlhhpmooliaaProg
import Derived.KernelRfl
namespace Go.Proofs.Ytaahlhhpmooliaa.PL
open Go.Proofs
theorem mix : Try.prog.follows .mixedOrders = true := by kernel_rfl
@[simp] theorem sz_1 : szOf Try.prog 1 = some 1 := by kernel_rfl
@[simp] theorem ag_1 : aggOf Try.prog 1 = some false := by kernel_rfl
@[simp] theorem zo_1 : zOf Try.prog 1 = some (.nilf) := by kernel_rfl
@[simp] theorem by_1 : byOf Try.prog 1 = some 8 := by kernel_rfl
@[simp] theorem sz_2 : szOf Try.prog 2 = some 1 := by kernel_rfl
@[simp] theorem ag_2 : aggOf Try.prog 2 = some false := by kernel_rfl
@[simp] theorem zo_2 : zOf Try.prog 2 = some (.int .i64 0) := by kernel_rfl
@[simp] theorem un_2 : Try.prog.underlying 2 = some (.int .i64) := by kernel_rfl
@[simp] theorem by_2 : byOf Try.prog 2 = some 8 := by kernel_rfl
@[simp] theorem sz_3 : szOf Try.prog 3 = some 1 := by kernel_rfl
@[simp] theorem ag_3 : aggOf Try.prog 3 = some false := by kernel_rfl
@[simp] theorem zo_3 : zOf Try.prog 3 = some (.int .i64 0) := by kernel_rfl
@[simp] theorem un_3 : Try.prog.underlying 3 = some (.int .i64) := by kernel_rfl
@[simp] theorem by_3 : byOf Try.prog 3 = some 8 := by kernel_rfl
@[simp] theorem sz_4 : szOf Try.prog 4 = some 1 := by kernel_rfl
@[simp] theorem ag_4 : aggOf Try.prog 4 = some false := by kernel_rfl
@[simp] theorem zo_4 : zOf Try.prog 4 = some (.bool false) := by kernel_rfl
@[simp] theorem un_4 : Try.prog.underlying 4 = some (.bool) := by kernel_rfl
@[simp] theorem by_4 : byOf Try.prog 4 = some 1 := by kernel_rfl
@[simp] theorem sz_5 : szOf Try.prog 5 = some 1 := by kernel_rfl
@[simp] theorem ag_5 : aggOf Try.prog 5 = some false := by kernel_rfl
@[simp] theorem zo_5 : zOf Try.prog 5 = some (.int .u8 0) := by kernel_rfl
@[simp] theorem un_5 : Try.prog.underlying 5 = some (.int .u8) := by kernel_rfl
@[simp] theorem by_5 : byOf Try.prog 5 = some 1 := by kernel_rfl
@[simp] theorem sz_6 : szOf Try.prog 6 = some 1 := by kernel_rfl
@[simp] theorem ag_6 : aggOf Try.prog 6 = some false := by kernel_rfl
@[simp] theorem zo_6 : zOf Try.prog 6 = some (.int .u8 0) := by kernel_rfl
@[simp] theorem un_6 : Try.prog.underlying 6 = some (.int .u8) := by kernel_rfl
@[simp] theorem by_6 : byOf Try.prog 6 = some 1 := by kernel_rfl
@[simp] theorem sz_7 : szOf Try.prog 7 = some 4 := by kernel_rfl
@[simp] theorem ag_7 : aggOf Try.prog 7 = some true := by kernel_rfl
@[simp] theorem zo_7 : zOf Try.prog 7 = some (.agg [.int .i64 0, .int .i64 0, .bool false, .int .u8 0]) := by kernel_rfl
@[simp] theorem ft_7 : ftOf Try.prog 7 = some (4, [(2, 0, 1), (3, 1, 1), (4, 2, 1), (6, 3, 1)]) := by kernel_rfl
@[simp] theorem fd_7_0 : fldOf Try.prog 7 0 = some (0, 1, false) := by kernel_rfl
@[simp] theorem fd_7_1 : fldOf Try.prog 7 1 = some (1, 1, false) := by kernel_rfl
@[simp] theorem fd_7_2 : fldOf Try.prog 7 2 = some (2, 1, false) := by kernel_rfl
@[simp] theorem fd_7_3 : fldOf Try.prog 7 3 = some (3, 1, false) := by kernel_rfl
@[simp] theorem bd_7 : bldOf Try.prog 7 = some ([(0, 1), (1, 1), (2, 1), (3, 1)], [.int .i64 0, .int .i64 0, .bool false, .int .u8 0]) := by kernel_rfl
@[simp] theorem by_7 : byOf Try.prog 7 = some 24 := by kernel_rfl
@[simp] theorem sz_8 : szOf Try.prog 8 = some 4 := by kernel_rfl
@[simp] theorem ag_8 : aggOf Try.prog 8 = some true := by kernel_rfl
@[simp] theorem zo_8 : zOf Try.prog 8 = some (.agg [.int .i64 0, .int .i64 0, .bool false, .int .u8 0]) := by kernel_rfl
@[simp] theorem ft_8 : ftOf Try.prog 8 = some (4, [(2, 0, 1), (3, 1, 1), (4, 2, 1), (6, 3, 1)]) := by kernel_rfl
@[simp] theorem fd_8_0 : fldOf Try.prog 8 0 = some (0, 1, false) := by kernel_rfl
@[simp] theorem fd_8_1 : fldOf Try.prog 8 1 = some (1, 1, false) := by kernel_rfl
@[simp] theorem fd_8_2 : fldOf Try.prog 8 2 = some (2, 1, false) := by kernel_rfl
@[simp] theorem fd_8_3 : fldOf Try.prog 8 3 = some (3, 1, false) := by kernel_rfl
@[simp] theorem bd_8 : bldOf Try.prog 8 = some ([(0, 1), (1, 1), (2, 1), (3, 1)], [.int .i64 0, .int .i64 0, .bool false, .int .u8 0]) := by kernel_rfl
@[simp] theorem by_8 : byOf Try.prog 8 = some 24 := by kernel_rfl
@[simp] theorem sz_9 : szOf Try.prog 9 = some 1 := by kernel_rfl
@[simp] theorem ag_9 : aggOf Try.prog 9 = some false := by kernel_rfl
@[simp] theorem zo_9 : zOf Try.prog 9 = some (.str ⟨#[]⟩) := by kernel_rfl
@[simp] theorem un_9 : Try.prog.underlying 9 = some (.string) := by kernel_rfl
@[simp] theorem by_9 : byOf Try.prog 9 = some 16 := by kernel_rfl
@[simp] theorem sz_10 : szOf Try.prog 10 = some 1 := by kernel_rfl
@[simp] theorem ag_10 : aggOf Try.prog 10 = some false := by kernel_rfl
@[simp] theorem zo_10 : zOf Try.prog 10 = some (.str ⟨#[]⟩) := by kernel_rfl
@[simp] theorem un_10 : Try.prog.underlying 10 = some (.string) := by kernel_rfl
@[simp] theorem by_10 : byOf Try.prog 10 = some 16 := by kernel_rfl
@[simp] theorem sz_11 : szOf Try.prog 11 = some 1 := by kernel_rfl
@[simp] theorem ag_11 : aggOf Try.prog 11 = some false := by kernel_rfl
@[simp] theorem zo_11 : zOf Try.prog 11 = some (.str ⟨#[]⟩) := by kernel_rfl
@[simp] theorem un_11 : Try.prog.underlying 11 = some (.string) := by kernel_rfl
@[simp] theorem by_11 : byOf Try.prog 11 = some 16 := by kernel_rfl
@[simp] theorem sz_12 : szOf Try.prog 12 = some 1 := by kernel_rfl
@[simp] theorem ag_12 : aggOf Try.prog 12 = some false := by kernel_rfl
@[simp] theorem zo_12 : zOf Try.prog 12 = some (.int .u64 0) := by kernel_rfl
@[simp] theorem un_12 : Try.prog.underlying 12 = some (.int .u64) := by kernel_rfl
@[simp] theorem by_12 : byOf Try.prog 12 = some 8 := by kernel_rfl
@[simp] theorem sz_13 : szOf Try.prog 13 = some 2 := by kernel_rfl
@[simp] theorem ag_13 : aggOf Try.prog 13 = some true := by kernel_rfl
@[simp] theorem zo_13 : zOf Try.prog 13 = some (.agg [.str ⟨#[]⟩, .int .u64 0]) := by kernel_rfl
@[simp] theorem ft_13 : ftOf Try.prog 13 = some (2, [(9, 0, 1), (12, 1, 1)]) := by kernel_rfl
@[simp] theorem fd_13_0 : fldOf Try.prog 13 0 = some (0, 1, false) := by kernel_rfl
@[simp] theorem fd_13_1 : fldOf Try.prog 13 1 = some (1, 1, false) := by kernel_rfl
@[simp] theorem bd_13 : bldOf Try.prog 13 = some ([(0, 1), (1, 1)], [.str ⟨#[]⟩, .int .u64 0]) := by kernel_rfl
@[simp] theorem by_13 : byOf Try.prog 13 = some 24 := by kernel_rfl
@[simp] theorem sz_14 : szOf Try.prog 14 = some 2 := by kernel_rfl
@[simp] theorem ag_14 : aggOf Try.prog 14 = some true := by kernel_rfl
@[simp] theorem zo_14 : zOf Try.prog 14 = some (.agg [.str ⟨#[]⟩, .int .u64 0]) := by kernel_rfl
@[simp] theorem ft_14 : ftOf Try.prog 14 = some (2, [(9, 0, 1), (12, 1, 1)]) := by kernel_rfl
@[simp] theorem fd_14_0 : fldOf Try.prog 14 0 = some (0, 1, false) := by kernel_rfl
@[simp] theorem fd_14_1 : fldOf Try.prog 14 1 = some (1, 1, false) := by kernel_rfl
@[simp] theorem bd_14 : bldOf Try.prog 14 = some ([(0, 1), (1, 1)], [.str ⟨#[]⟩, .int .u64 0]) := by kernel_rfl
@[simp] theorem by_14 : byOf Try.prog 14 = some 24 := by kernel_rfl
@[simp] theorem sz_15 : szOf Try.prog 15 = some 1 := by kernel_rfl
@[simp] theorem ag_15 : aggOf Try.prog 15 = some false := by kernel_rfl
@[simp] theorem zo_15 : zOf Try.prog 15 = some (.nilp) := by kernel_rfl
@[simp] theorem un_15 : Try.prog.underlying 15 = some (.pointer 186) := by kernel_rfl
@[simp] theorem by_15 : byOf Try.prog 15 = some 8 := by kernel_rfl
@[simp] theorem sz_16 : szOf Try.prog 16 = some 1 := by kernel_rfl
@[simp] theorem ag_16 : aggOf Try.prog 16 = some false := by kernel_rfl
@[simp] theorem zo_16 : zOf Try.prog 16 = some (.nilp) := by kernel_rfl
@[simp] theorem un_16 : Try.prog.underlying 16 = some (.pointer 189) := by kernel_rfl
@[simp] theorem by_16 : byOf Try.prog 16 = some 8 := by kernel_rfl
@[simp] theorem sz_17 : szOf Try.prog 17 = some 1 := by kernel_rfl
@[simp] theorem ag_17 : aggOf Try.prog 17 = some false := by kernel_rfl
@[simp] theorem zo_17 : zOf Try.prog 17 = some (.nilp) := by kernel_rfl
@[simp] theorem un_17 : Try.prog.underlying 17 = some (.pointer 197) := by kernel_rfl
@[simp] theorem by_17 : byOf Try.prog 17 = some 8 := by kernel_rfl
@[simp] theorem sz_18 : szOf Try.prog 18 = some 1 := by kernel_rfl
@[simp] theorem ag_18 : aggOf Try.prog 18 = some true := by kernel_rfl
@[simp] theorem zo_18 : zOf Try.prog 18 = some (.agg [.nilp]) := by kernel_rfl
@[simp] theorem ft_18 : ftOf Try.prog 18 = some (1, [(17, 0, 1)]) := by kernel_rfl
@[simp] theorem fd_18_0 : fldOf Try.prog 18 0 = some (0, 1, false) := by kernel_rfl
@[simp] theorem bd_18 : bldOf Try.prog 18 = some ([(0, 1)], [.nilp]) := by kernel_rfl
@[simp] theorem by_18 : byOf Try.prog 18 = some 8 := by kernel_rfl
@[simp] theorem sz_19 : szOf Try.prog 19 = some 1 := by kernel_rfl
@[simp] theorem ag_19 : aggOf Try.prog 19 = some true := by kernel_rfl
@[simp] theorem zo_19 : zOf Try.prog 19 = some (.agg [.nilp]) := by kernel_rfl
@[simp] theorem ft_19 : ftOf Try.prog 19 = some (1, [(17, 0, 1)]) := by kernel_rfl
@[simp] theorem fd_19_0 : fldOf Try.prog 19 0 = some (0, 1, false) := by kernel_rfl
@[simp] theorem bd_19 : bldOf Try.prog 19 = some ([(0, 1)], [.nilp]) := by kernel_rfl
@[simp] theorem by_19 : byOf Try.prog 19 = some 8 := by kernel_rfl
@[simp] theorem sz_21 : szOf Try.prog 21 = some 1 := by kernel_rfl
@[simp] theorem ag_21 : aggOf Try.prog 21 = some false := by kernel_rfl
@[simp] theorem zo_21 : zOf Try.prog 21 = some (.int .i32 0) := by kernel_rfl
@[simp] theorem un_21 : Try.prog.underlying 21 = some (.int .i32) := by kernel_rfl
@[simp] theorem by_21 : byOf Try.prog 21 = some 4 := by kernel_rfl
@[simp] theorem sz_22 : szOf Try.prog 22 = some 1 := by kernel_rfl
@[simp] theorem ag_22 : aggOf Try.prog 22 = some false := by kernel_rfl
@[simp] theorem zo_22 : zOf Try.prog 22 = some (.sl .exact []) := by kernel_rfl
@[simp] theorem sl_22 : slOf Try.prog 22 = some (46, 3) := by kernel_rfl
@[simp] theorem li_22 : litOf Try.prog 22 = some (true, 3, [.str ⟨#[]⟩, .sl .exact [], .sl .exact []]) := by kernel_rfl
@[simp] theorem un_22 : Try.prog.underlying 22 = some (.slice 46) := by kernel_rfl
@[simp] theorem by_22 : byOf Try.prog 22 = some 24 := by kernel_rfl
@[simp] theorem sz_23 : szOf Try.prog 23 = some 1 := by kernel_rfl
@[simp] theorem ag_23 : aggOf Try.prog 23 = some false := by kernel_rfl
@[simp] theorem zo_23 : zOf Try.prog 23 = some (.sl .exact []) := by kernel_rfl
@[simp] theorem sl_23 : slOf Try.prog 23 = some (28, 9) := by kernel_rfl
@[simp] theorem li_23 : litOf Try.prog 23 = some (true, 9, [.int .i64 0, .str ⟨#[]⟩, .str ⟨#[]⟩, .int .i64 0, .int .i64 0, .int .i64 0, .int .i64 0, .str ⟨#[]⟩, .sl .exact []]) := by kernel_rfl
@[simp] theorem un_23 : Try.prog.underlying 23 = some (.slice 28) := by kernel_rfl
@[simp] theorem by_23 : byOf Try.prog 23 = some 24 := by kernel_rfl
@[simp] theorem sz_24 : szOf Try.prog 24 = some 1 := by kernel_rfl
@[simp] theorem ag_24 : aggOf Try.prog 24 = some false := by kernel_rfl
@[simp] theorem zo_24 : zOf Try.prog 24 = some (.sl .exact []) := by kernel_rfl
@[simp] theorem sl_24 : slOf Try.prog 24 = some (50, 12) := by kernel_rfl
@[simp] theorem li_24 : litOf Try.prog 24 = some (true, 12, [.int .i64 0, .str ⟨#[]⟩, .str ⟨#[]⟩, .int .i64 0, .str ⟨#[]⟩, .str ⟨#[]⟩, .int .i64 0, .int .i64 0, .int .i64 0, .int .i64 0, .str ⟨#[]⟩, .sl .exact []]) := by kernel_rfl
@[simp] theorem un_24 : Try.prog.underlying 24 = some (.slice 50) := by kernel_rfl
@[simp] theorem by_24 : byOf Try.prog 24 = some 24 := by kernel_rfl
@[simp] theorem sz_25 : szOf Try.prog 25 = some 3 := by kernel_rfl
@[simp] theorem ag_25 : aggOf Try.prog 25 = some true := by kernel_rfl
@[simp] theorem zo_25 : zOf Try.prog 25 = some (.agg [.int .i64 0, .int .i64 0, .str ⟨#[]⟩]) := by kernel_rfl
@[simp] theorem ft_25 : ftOf Try.prog 25 = some (3, [(3, 0, 1), (3, 1, 1), (9, 2, 1)]) := by kernel_rfl
@[simp] theorem fd_25_0 : fldOf Try.prog 25 0 = some (0, 1, false) := by kernel_rfl
@[simp] theorem fd_25_1 : fldOf Try.prog 25 1 = some (1, 1, false) := by kernel_rfl
@[simp] theorem fd_25_2 : fldOf Try.prog 25 2 = some (2, 1, false) := by kernel_rfl
@[simp] theorem bd_25 : bldOf Try.prog 25 = some ([(0, 1), (1, 1), (2, 1)], [.int .i64 0, .int .i64 0, .str ⟨#[]⟩]) := by kernel_rfl
@[simp] theorem by_25 : byOf Try.prog 25 = some 32 := by kernel_rfl
@[simp] theorem sz_26 : szOf Try.prog 26 = some 3 := by kernel_rfl
@[simp] theorem ag_26 : aggOf Try.prog 26 = some true := by kernel_rfl
@[simp] theorem zo_26 : zOf Try.prog 26 = some (.agg [.int .i64 0, .int .i64 0, .str ⟨#[]⟩]) := by kernel_rfl
@[simp] theorem ft_26 : ftOf Try.prog 26 = some (3, [(3, 0, 1), (3, 1, 1), (9, 2, 1)]) := by kernel_rfl
@[simp] theorem fd_26_0 : fldOf Try.prog 26 0 = some (0, 1, false) := by kernel_rfl
@[simp] theorem fd_26_1 : fldOf Try.prog 26 1 = some (1, 1, false) := by kernel_rfl
@[simp] theorem fd_26_2 : fldOf Try.prog 26 2 = some (2, 1, false) := by kernel_rfl
@[simp] theorem bd_26 : bldOf Try.prog 26 = some ([(0, 1), (1, 1), (2, 1)], [.int .i64 0, .int .i64 0, .str ⟨#[]⟩]) := by kernel_rfl
@[simp] theorem eqt_26 {a0 b0 : Int} {a1 b1 : Int} {a2 b2 : ByteArray} : EqT Try.prog 26 [.int .i64 a0, .int .i64 a1, .str a2] [.int .i64 b0, .int .i64 b1, .str b2] = True := eq_true (EqT.flat [.int, .int, .str] (by kernel_rfl) rfl rfl (by simp [kindsFit]))
@[simp] theorem by_26 : byOf Try.prog 26 = some 32 := by kernel_rfl
@[simp] theorem sz_27 : szOf Try.prog 27 = some 9 := by kernel_rfl
@[simp] theorem ag_27 : aggOf Try.prog 27 = some true := by kernel_rfl
@[simp] theorem zo_27 : zOf Try.prog 27 = some (.agg [.int .i64 0, .str ⟨#[]⟩, .str ⟨#[]⟩, .int .i64 0, .int .i64 0, .int .i64 0, .int .i64 0, .str ⟨#[]⟩, .sl .exact []]) := by kernel_rfl
@[simp] theorem ft_27 : ftOf Try.prog 27 = some (9, [(3, 0, 1), (9, 1, 1), (9, 2, 1), (3, 3, 1), (3, 4, 1), (26, 5, 3), (23, 8, 1)]) := by kernel_rfl
@[simp] theorem fd_27_0 : fldOf Try.prog 27 0 = some (0, 1, false) := by kernel_rfl
@[simp] theorem fd_27_1 : fldOf Try.prog 27 1 = some (1, 1, false) := by kernel_rfl
@[simp] theorem fd_27_2 : fldOf Try.prog 27 2 = some (2, 1, false) := by kernel_rfl
@[simp] theorem fd_27_3 : fldOf Try.prog 27 3 = some (3, 1, false) := by kernel_rfl
@[simp] theorem fd_27_4 : fldOf Try.prog 27 4 = some (4, 1, false) := by kernel_rfl
@[simp] theorem fd_27_5 : fldOf Try.prog 27 5 = some (5, 3, true) := by kernel_rfl
@[simp] theorem fd_27_6 : fldOf Try.prog 27 6 = some (8, 1, false) := by kernel_rfl
@[simp] theorem bd_27 : bldOf Try.prog 27 = some ([(0, 1), (1, 1), (2, 1), (3, 1), (4, 1), (5, 3), (8, 1)], [.int .i64 0, .str ⟨#[]⟩, .str ⟨#[]⟩, .int .i64 0, .int .i64 0, .int .i64 0, .int .i64 0, .str ⟨#[]⟩, .sl .exact []]) := by kernel_rfl
@[simp] theorem by_27 : byOf Try.prog 27 = some 112 := by kernel_rfl
@[simp] theorem sz_28 : szOf Try.prog 28 = some 9 := by kernel_rfl
@[simp] theorem ag_28 : aggOf Try.prog 28 = some true := by kernel_rfl
@[simp] theorem zo_28 : zOf Try.prog 28 = some (.agg [.int .i64 0, .str ⟨#[]⟩, .str ⟨#[]⟩, .int .i64 0, .int .i64 0, .int .i64 0, .int .i64 0, .str ⟨#[]⟩, .sl .exact []]) := by kernel_rfl
@[simp] theorem ft_28 : ftOf Try.prog 28 = some (9, [(3, 0, 1), (9, 1, 1), (9, 2, 1), (3, 3, 1), (3, 4, 1), (26, 5, 3), (23, 8, 1)]) := by kernel_rfl
@[simp] theorem fd_28_0 : fldOf Try.prog 28 0 = some (0, 1, false) := by kernel_rfl
@[simp] theorem fd_28_1 : fldOf Try.prog 28 1 = some (1, 1, false) := by kernel_rfl
@[simp] theorem fd_28_2 : fldOf Try.prog 28 2 = some (2, 1, false) := by kernel_rfl
@[simp] theorem fd_28_3 : fldOf Try.prog 28 3 = some (3, 1, false) := by kernel_rfl
@[simp] theorem fd_28_4 : fldOf Try.prog 28 4 = some (4, 1, false) := by kernel_rfl
@[simp] theorem fd_28_5 : fldOf Try.prog 28 5 = some (5, 3, true) := by kernel_rfl
@[simp] theorem fd_28_6 : fldOf Try.prog 28 6 = some (8, 1, false) := by kernel_rfl
@[simp] theorem bd_28 : bldOf Try.prog 28 = some ([(0, 1), (1, 1), (2, 1), (3, 1), (4, 1), (5, 3), (8, 1)], [.int .i64 0, .str ⟨#[]⟩, .str ⟨#[]⟩, .int .i64 0, .int .i64 0, .int .i64 0, .int .i64 0, .str ⟨#[]⟩, .sl .exact []]) := by kernel_rfl
@[simp] theorem by_28 : byOf Try.prog 28 = some 112 := by kernel_rfl
@[simp] theorem sz_29 : szOf Try.prog 29 = some 12 := by kernel_rfl
@[simp] theorem ag_29 : aggOf Try.prog 29 = some true := by kernel_rfl
@[simp] theorem zo_29 : zOf Try.prog 29 = some (.agg [.sl .exact [], .sl .exact [], .int .i64 0, .str ⟨#[]⟩, .str ⟨#[]⟩, .int .i64 0, .int .i64 0, .int .i64 0, .int .i64 0, .str ⟨#[]⟩, .sl .exact [], .sl .exact []]) := by kernel_rfl
@[simp] theorem ft_29 : ftOf Try.prog 29 = some (12, [(23, 0, 1), (24, 1, 1), (28, 2, 9), (23, 11, 1)]) := by kernel_rfl
@[simp] theorem fd_29_0 : fldOf Try.prog 29 0 = some (0, 1, false) := by kernel_rfl
@[simp] theorem fd_29_1 : fldOf Try.prog 29 1 = some (1, 1, false) := by kernel_rfl
@[simp] theorem fd_29_2 : fldOf Try.prog 29 2 = some (2, 9, true) := by kernel_rfl
@[simp] theorem fd_29_3 : fldOf Try.prog 29 3 = some (11, 1, false) := by kernel_rfl
@[simp] theorem bd_29 : bldOf Try.prog 29 = some ([(0, 1), (1, 1), (2, 9), (11, 1)], [.sl .exact [], .sl .exact [], .int .i64 0, .str ⟨#[]⟩, .str ⟨#[]⟩, .int .i64 0, .int .i64 0, .int .i64 0, .int .i64 0, .str ⟨#[]⟩, .sl .exact [], .sl .exact []]) := by kernel_rfl
@[simp] theorem by_29 : byOf Try.prog 29 = some 184 := by kernel_rfl
@[simp] theorem sz_30 : szOf Try.prog 30 = some 12 := by kernel_rfl
@[simp] theorem ag_30 : aggOf Try.prog 30 = some true := by kernel_rfl
@[simp] theorem zo_30 : zOf Try.prog 30 = some (.agg [.sl .exact [], .sl .exact [], .int .i64 0, .str ⟨#[]⟩, .str ⟨#[]⟩, .int .i64 0, .int .i64 0, .int .i64 0, .int .i64 0, .str ⟨#[]⟩, .sl .exact [], .sl .exact []]) := by kernel_rfl
@[simp] theorem ft_30 : ftOf Try.prog 30 = some (12, [(23, 0, 1), (24, 1, 1), (28, 2, 9), (23, 11, 1)]) := by kernel_rfl
@[simp] theorem fd_30_0 : fldOf Try.prog 30 0 = some (0, 1, false) := by kernel_rfl
@[simp] theorem fd_30_1 : fldOf Try.prog 30 1 = some (1, 1, false) := by kernel_rfl
@[simp] theorem fd_30_2 : fldOf Try.prog 30 2 = some (2, 9, true) := by kernel_rfl
@[simp] theorem fd_30_3 : fldOf Try.prog 30 3 = some (11, 1, false) := by kernel_rfl
@[simp] theorem bd_30 : bldOf Try.prog 30 = some ([(0, 1), (1, 1), (2, 9), (11, 1)], [.sl .exact [], .sl .exact [], .int .i64 0, .str ⟨#[]⟩, .str ⟨#[]⟩, .int .i64 0, .int .i64 0, .int .i64 0, .int .i64 0, .str ⟨#[]⟩, .sl .exact [], .sl .exact []]) := by kernel_rfl
@[simp] theorem by_30 : byOf Try.prog 30 = some 184 := by kernel_rfl
@[simp] theorem sz_31 : szOf Try.prog 31 = some 1 := by kernel_rfl
@[simp] theorem ag_31 : aggOf Try.prog 31 = some false := by kernel_rfl
@[simp] theorem zo_31 : zOf Try.prog 31 = some (.nilf) := by kernel_rfl
@[simp] theorem by_31 : byOf Try.prog 31 = some 8 := by kernel_rfl
@[simp] theorem sz_32 : szOf Try.prog 32 = some 1 := by kernel_rfl
@[simp] theorem ag_32 : aggOf Try.prog 32 = some false := by kernel_rfl
@[simp] theorem zo_32 : zOf Try.prog 32 = some (.nilf) := by kernel_rfl
@[simp] theorem by_32 : byOf Try.prog 32 = some 8 := by kernel_rfl
@[simp] theorem sz_33 : szOf Try.prog 33 = some 1 := by kernel_rfl
@[simp] theorem ag_33 : aggOf Try.prog 33 = some false := by kernel_rfl
@[simp] theorem zo_33 : zOf Try.prog 33 = some (.nilf) := by kernel_rfl
@[simp] theorem by_33 : byOf Try.prog 33 = some 8 := by kernel_rfl
@[simp] theorem sz_34 : szOf Try.prog 34 = some 1 := by kernel_rfl
@[simp] theorem ag_34 : aggOf Try.prog 34 = some false := by kernel_rfl
@[simp] theorem zo_34 : zOf Try.prog 34 = some (.int .i64 0) := by kernel_rfl
@[simp] theorem un_34 : Try.prog.underlying 34 = some (.int .i64) := by kernel_rfl
@[simp] theorem by_34 : byOf Try.prog 34 = some 8 := by kernel_rfl
@[simp] theorem sz_36 : szOf Try.prog 36 = some 1 := by kernel_rfl
@[simp] theorem ag_36 : aggOf Try.prog 36 = some false := by kernel_rfl
@[simp] theorem zo_36 : zOf Try.prog 36 = some (.nilf) := by kernel_rfl
@[simp] theorem by_36 : byOf Try.prog 36 = some 8 := by kernel_rfl
@[simp] theorem sz_38 : szOf Try.prog 38 = some 1 := by kernel_rfl
@[simp] theorem ag_38 : aggOf Try.prog 38 = some false := by kernel_rfl
@[simp] theorem zo_38 : zOf Try.prog 38 = some (.nilf) := by kernel_rfl
@[simp] theorem by_38 : byOf Try.prog 38 = some 8 := by kernel_rfl
@[simp] theorem sz_39 : szOf Try.prog 39 = some 1 := by kernel_rfl
@[simp] theorem ag_39 : aggOf Try.prog 39 = some false := by kernel_rfl
@[simp] theorem zo_39 : zOf Try.prog 39 = some (.nilf) := by kernel_rfl
@[simp] theorem by_39 : byOf Try.prog 39 = some 8 := by kernel_rfl
@[simp] theorem sz_40 : szOf Try.prog 40 = some 1 := by kernel_rfl
@[simp] theorem ag_40 : aggOf Try.prog 40 = some false := by kernel_rfl
@[simp] theorem zo_40 : zOf Try.prog 40 = some (.nilf) := by kernel_rfl
@[simp] theorem by_40 : byOf Try.prog 40 = some 8 := by kernel_rfl
@[simp] theorem sz_41 : szOf Try.prog 41 = some 1 := by kernel_rfl
@[simp] theorem ag_41 : aggOf Try.prog 41 = some false := by kernel_rfl
@[simp] theorem zo_41 : zOf Try.prog 41 = some (.nilf) := by kernel_rfl
@[simp] theorem by_41 : byOf Try.prog 41 = some 8 := by kernel_rfl
@[simp] theorem sz_42 : szOf Try.prog 42 = some 1 := by kernel_rfl
@[simp] theorem ag_42 : aggOf Try.prog 42 = some false := by kernel_rfl
@[simp] theorem zo_42 : zOf Try.prog 42 = some (.nilf) := by kernel_rfl
@[simp] theorem by_42 : byOf Try.prog 42 = some 8 := by kernel_rfl
@[simp] theorem sz_43 : szOf Try.prog 43 = some 1 := by kernel_rfl
@[simp] theorem ag_43 : aggOf Try.prog 43 = some false := by kernel_rfl
@[simp] theorem zo_43 : zOf Try.prog 43 = some (.sl .exact []) := by kernel_rfl
@[simp] theorem sl_43 : slOf Try.prog 43 = some (52, 2) := by kernel_rfl
@[simp] theorem li_43 : litOf Try.prog 43 = some (true, 2, [.str ⟨#[]⟩, .int .i64 0]) := by kernel_rfl
@[simp] theorem un_43 : Try.prog.underlying 43 = some (.slice 52) := by kernel_rfl
@[simp] theorem by_43 : byOf Try.prog 43 = some 24 := by kernel_rfl
@[simp] theorem sz_44 : szOf Try.prog 44 = some 1 := by kernel_rfl
@[simp] theorem ag_44 : aggOf Try.prog 44 = some false := by kernel_rfl
@[simp] theorem zo_44 : zOf Try.prog 44 = some (.sl .exact []) := by kernel_rfl
@[simp] theorem sl_44 : slOf Try.prog 44 = some (142, 1) := by kernel_rfl
@[simp] theorem li_44 : litOf Try.prog 44 = some (false, 1, [.sl .exact []]) := by kernel_rfl
@[simp] theorem un_44 : Try.prog.underlying 44 = some (.slice 142) := by kernel_rfl
@[simp] theorem by_44 : byOf Try.prog 44 = some 24 := by kernel_rfl
@[simp] theorem sz_45 : szOf Try.prog 45 = some 3 := by kernel_rfl
@[simp] theorem ag_45 : aggOf Try.prog 45 = some true := by kernel_rfl
@[simp] theorem zo_45 : zOf Try.prog 45 = some (.agg [.str ⟨#[]⟩, .sl .exact [], .sl .exact []]) := by kernel_rfl
@[simp] theorem ft_45 : ftOf Try.prog 45 = some (3, [(9, 0, 1), (43, 1, 1), (44, 2, 1)]) := by kernel_rfl
@[simp] theorem fd_45_0 : fldOf Try.prog 45 0 = some (0, 1, false) := by kernel_rfl
@[simp] theorem fd_45_1 : fldOf Try.prog 45 1 = some (1, 1, false) := by kernel_rfl
@[simp] theorem fd_45_2 : fldOf Try.prog 45 2 = some (2, 1, false) := by kernel_rfl
@[simp] theorem bd_45 : bldOf Try.prog 45 = some ([(0, 1), (1, 1), (2, 1)], [.str ⟨#[]⟩, .sl .exact [], .sl .exact []]) := by kernel_rfl
@[simp] theorem by_45 : byOf Try.prog 45 = some 64 := by kernel_rfl
@[simp] theorem sz_46 : szOf Try.prog 46 = some 3 := by kernel_rfl
@[simp] theorem ag_46 : aggOf Try.prog 46 = some true := by kernel_rfl
@[simp] theorem zo_46 : zOf Try.prog 46 = some (.agg [.str ⟨#[]⟩, .sl .exact [], .sl .exact []]) := by kernel_rfl
@[simp] theorem ft_46 : ftOf Try.prog 46 = some (3, [(9, 0, 1), (43, 1, 1), (44, 2, 1)]) := by kernel_rfl
@[simp] theorem fd_46_0 : fldOf Try.prog 46 0 = some (0, 1, false) := by kernel_rfl
@[simp] theorem fd_46_1 : fldOf Try.prog 46 1 = some (1, 1, false) := by kernel_rfl
@[simp] theorem fd_46_2 : fldOf Try.prog 46 2 = some (2, 1, false) := by kernel_rfl
@[simp] theorem bd_46 : bldOf Try.prog 46 = some ([(0, 1), (1, 1), (2, 1)], [.str ⟨#[]⟩, .sl .exact [], .sl .exact []]) := by kernel_rfl
@[simp] theorem by_46 : byOf Try.prog 46 = some 64 := by kernel_rfl
@[simp] theorem sz_48 : szOf Try.prog 48 = some 1 := by kernel_rfl
@[simp] theorem ag_48 : aggOf Try.prog 48 = some false := by kernel_rfl
@[simp] theorem zo_48 : zOf Try.prog 48 = some (.nilf) := by kernel_rfl
@[simp] theorem by_48 : byOf Try.prog 48 = some 8 := by kernel_rfl
@[simp] theorem sz_49 : szOf Try.prog 49 = some 12 := by kernel_rfl
@[simp] theorem ag_49 : aggOf Try.prog 49 = some true := by kernel_rfl
@[simp] theorem zo_49 : zOf Try.prog 49 = some (.agg [.int .i64 0, .str ⟨#[]⟩, .str ⟨#[]⟩, .int .i64 0, .str ⟨#[]⟩, .str ⟨#[]⟩, .int .i64 0, .int .i64 0, .int .i64 0, .int .i64 0, .str ⟨#[]⟩, .sl .exact []]) := by kernel_rfl
@[simp] theorem ft_49 : ftOf Try.prog 49 = some (12, [(3, 0, 1), (9, 1, 1), (9, 2, 1), (28, 3, 9)]) := by kernel_rfl
@[simp] theorem fd_49_0 : fldOf Try.prog 49 0 = some (0, 1, false) := by kernel_rfl
@[simp] theorem fd_49_1 : fldOf Try.prog 49 1 = some (1, 1, false) := by kernel_rfl
@[simp] theorem fd_49_2 : fldOf Try.prog 49 2 = some (2, 1, false) := by kernel_rfl
@[simp] theorem fd_49_3 : fldOf Try.prog 49 3 = some (3, 9, true) := by kernel_rfl
@[simp] theorem bd_49 : bldOf Try.prog 49 = some ([(0, 1), (1, 1), (2, 1), (3, 9)], [.int .i64 0, .str ⟨#[]⟩, .str ⟨#[]⟩, .int .i64 0, .str ⟨#[]⟩, .str ⟨#[]⟩, .int .i64 0, .int .i64 0, .int .i64 0, .int .i64 0, .str ⟨#[]⟩, .sl .exact []]) := by kernel_rfl
@[simp] theorem by_49 : byOf Try.prog 49 = some 152 := by kernel_rfl
@[simp] theorem sz_50 : szOf Try.prog 50 = some 12 := by kernel_rfl
@[simp] theorem ag_50 : aggOf Try.prog 50 = some true := by kernel_rfl
@[simp] theorem zo_50 : zOf Try.prog 50 = some (.agg [.int .i64 0, .str ⟨#[]⟩, .str ⟨#[]⟩, .int .i64 0, .str ⟨#[]⟩, .str ⟨#[]⟩, .int .i64 0, .int .i64 0, .int .i64 0, .int .i64 0, .str ⟨#[]⟩, .sl .exact []]) := by kernel_rfl
@[simp] theorem ft_50 : ftOf Try.prog 50 = some (12, [(3, 0, 1), (9, 1, 1), (9, 2, 1), (28, 3, 9)]) := by kernel_rfl
@[simp] theorem fd_50_0 : fldOf Try.prog 50 0 = some (0, 1, false) := by kernel_rfl
@[simp] theorem fd_50_1 : fldOf Try.prog 50 1 = some (1, 1, false) := by kernel_rfl
@[simp] theorem fd_50_2 : fldOf Try.prog 50 2 = some (2, 1, false) := by kernel_rfl
@[simp] theorem fd_50_3 : fldOf Try.prog 50 3 = some (3, 9, true) := by kernel_rfl
@[simp] theorem bd_50 : bldOf Try.prog 50 = some ([(0, 1), (1, 1), (2, 1), (3, 9)], [.int .i64 0, .str ⟨#[]⟩, .str ⟨#[]⟩, .int .i64 0, .str ⟨#[]⟩, .str ⟨#[]⟩, .int .i64 0, .int .i64 0, .int .i64 0, .int .i64 0, .str ⟨#[]⟩, .sl .exact []]) := by kernel_rfl
@[simp] theorem by_50 : byOf Try.prog 50 = some 152 := by kernel_rfl
@[simp] theorem sz_51 : szOf Try.prog 51 = some 2 := by kernel_rfl
@[simp] theorem ag_51 : aggOf Try.prog 51 = some true := by kernel_rfl
@[simp] theorem zo_51 : zOf Try.prog 51 = some (.agg [.str ⟨#[]⟩, .int .i64 0]) := by kernel_rfl
@[simp] theorem ft_51 : ftOf Try.prog 51 = some (2, [(9, 0, 1), (3, 1, 1)]) := by kernel_rfl
@[simp] theorem fd_51_0 : fldOf Try.prog 51 0 = some (0, 1, false) := by kernel_rfl
@[simp] theorem fd_51_1 : fldOf Try.prog 51 1 = some (1, 1, false) := by kernel_rfl
@[simp] theorem bd_51 : bldOf Try.prog 51 = some ([(0, 1), (1, 1)], [.str ⟨#[]⟩, .int .i64 0]) := by kernel_rfl
@[simp] theorem by_51 : byOf Try.prog 51 = some 24 := by kernel_rfl
@[simp] theorem sz_52 : szOf Try.prog 52 = some 2 := by kernel_rfl
@[simp] theorem ag_52 : aggOf Try.prog 52 = some true := by kernel_rfl
@[simp] theorem zo_52 : zOf Try.prog 52 = some (.agg [.str ⟨#[]⟩, .int .i64 0]) := by kernel_rfl
@[simp] theorem ft_52 : ftOf Try.prog 52 = some (2, [(9, 0, 1), (3, 1, 1)]) := by kernel_rfl
@[simp] theorem fd_52_0 : fldOf Try.prog 52 0 = some (0, 1, false) := by kernel_rfl
@[simp] theorem fd_52_1 : fldOf Try.prog 52 1 = some (1, 1, false) := by kernel_rfl
@[simp] theorem bd_52 : bldOf Try.prog 52 = some ([(0, 1), (1, 1)], [.str ⟨#[]⟩, .int .i64 0]) := by kernel_rfl
@[simp] theorem eqt_52 {a0 b0 : ByteArray} {a1 b1 : Int} : EqT Try.prog 52 [.str a0, .int .i64 a1] [.str b0, .int .i64 b1] = True := eq_true (EqT.flat [.str, .int] (by kernel_rfl) rfl rfl (by simp [kindsFit]))
@[simp] theorem by_52 : byOf Try.prog 52 = some 24 := by kernel_rfl
@[simp] theorem sz_53 : szOf Try.prog 53 = some 1 := by kernel_rfl
@[simp] theorem ag_53 : aggOf Try.prog 53 = some false := by kernel_rfl
@[simp] theorem zo_53 : zOf Try.prog 53 = some (.sl .exact []) := by kernel_rfl
@[simp] theorem sl_53 : slOf Try.prog 53 = some (3, 1) := by kernel_rfl
@[simp] theorem li_53 : litOf Try.prog 53 = some (false, 1, [.int .i64 0]) := by kernel_rfl
@[simp] theorem un_53 : Try.prog.underlying 53 = some (.slice 3) := by kernel_rfl
@[simp] theorem by_53 : byOf Try.prog 53 = some 24 := by kernel_rfl
@[simp] theorem sz_54 : szOf Try.prog 54 = some 1 := by kernel_rfl
@[simp] theorem ag_54 : aggOf Try.prog 54 = some false := by kernel_rfl
@[simp] theorem zo_54 : zOf Try.prog 54 = some (.nilf) := by kernel_rfl
@[simp] theorem by_54 : byOf Try.prog 54 = some 8 := by kernel_rfl
@[simp] theorem sz_56 : szOf Try.prog 56 = some 1 := by kernel_rfl
@[simp] theorem ag_56 : aggOf Try.prog 56 = some false := by kernel_rfl
@[simp] theorem zo_56 : zOf Try.prog 56 = some (.nilf) := by kernel_rfl
@[simp] theorem by_56 : byOf Try.prog 56 = some 8 := by kernel_rfl
@[simp] theorem sz_58 : szOf Try.prog 58 = some 1 := by kernel_rfl
@[simp] theorem ag_58 : aggOf Try.prog 58 = some false := by kernel_rfl
@[simp] theorem zo_58 : zOf Try.prog 58 = some (.nilf) := by kernel_rfl
@[simp] theorem by_58 : byOf Try.prog 58 = some 8 := by kernel_rfl
@[simp] theorem sz_59 : szOf Try.prog 59 = some 1 := by kernel_rfl
@[simp] theorem ag_59 : aggOf Try.prog 59 = some false := by kernel_rfl
@[simp] theorem zo_59 : zOf Try.prog 59 = some (.nilf) := by kernel_rfl
@[simp] theorem by_59 : byOf Try.prog 59 = some 8 := by kernel_rfl
@[simp] theorem sz_61 : szOf Try.prog 61 = some 1 := by kernel_rfl
@[simp] theorem ag_61 : aggOf Try.prog 61 = some false := by kernel_rfl
@[simp] theorem zo_61 : zOf Try.prog 61 = some (.nilf) := by kernel_rfl
@[simp] theorem by_61 : byOf Try.prog 61 = some 8 := by kernel_rfl
@[simp] theorem sz_62 : szOf Try.prog 62 = some 1 := by kernel_rfl
@[simp] theorem ag_62 : aggOf Try.prog 62 = some false := by kernel_rfl
@[simp] theorem zo_62 : zOf Try.prog 62 = some (.nilf) := by kernel_rfl
@[simp] theorem by_62 : byOf Try.prog 62 = some 8 := by kernel_rfl
@[simp] theorem sz_63 : szOf Try.prog 63 = some 1 := by kernel_rfl
@[simp] theorem ag_63 : aggOf Try.prog 63 = some false := by kernel_rfl
@[simp] theorem zo_63 : zOf Try.prog 63 = some (.nilf) := by kernel_rfl
@[simp] theorem by_63 : byOf Try.prog 63 = some 8 := by kernel_rfl
@[simp] theorem sz_64 : szOf Try.prog 64 = some 1 := by kernel_rfl
@[simp] theorem ag_64 : aggOf Try.prog 64 = some false := by kernel_rfl
@[simp] theorem zo_64 : zOf Try.prog 64 = some (.nilf) := by kernel_rfl
@[simp] theorem by_64 : byOf Try.prog 64 = some 8 := by kernel_rfl
@[simp] theorem sz_66 : szOf Try.prog 66 = some 1 := by kernel_rfl
@[simp] theorem ag_66 : aggOf Try.prog 66 = some false := by kernel_rfl
@[simp] theorem zo_66 : zOf Try.prog 66 = some (.nilf) := by kernel_rfl
@[simp] theorem by_66 : byOf Try.prog 66 = some 8 := by kernel_rfl
@[simp] theorem sz_68 : szOf Try.prog 68 = some 1 := by kernel_rfl
@[simp] theorem ag_68 : aggOf Try.prog 68 = some false := by kernel_rfl
@[simp] theorem zo_68 : zOf Try.prog 68 = some (.nilf) := by kernel_rfl
@[simp] theorem by_68 : byOf Try.prog 68 = some 8 := by kernel_rfl
@[simp] theorem sz_70 : szOf Try.prog 70 = some 1 := by kernel_rfl
@[simp] theorem ag_70 : aggOf Try.prog 70 = some false := by kernel_rfl
@[simp] theorem zo_70 : zOf Try.prog 70 = some (.nilf) := by kernel_rfl
@[simp] theorem by_70 : byOf Try.prog 70 = some 8 := by kernel_rfl
@[simp] theorem sz_71 : szOf Try.prog 71 = some 1 := by kernel_rfl
@[simp] theorem ag_71 : aggOf Try.prog 71 = some false := by kernel_rfl
@[simp] theorem zo_71 : zOf Try.prog 71 = some (.nilf) := by kernel_rfl
@[simp] theorem by_71 : byOf Try.prog 71 = some 8 := by kernel_rfl
@[simp] theorem sz_72 : szOf Try.prog 72 = some 1 := by kernel_rfl
@[simp] theorem ag_72 : aggOf Try.prog 72 = some false := by kernel_rfl
@[simp] theorem zo_72 : zOf Try.prog 72 = some (.nilf) := by kernel_rfl
@[simp] theorem by_72 : byOf Try.prog 72 = some 8 := by kernel_rfl
@[simp] theorem sz_73 : szOf Try.prog 73 = some 1 := by kernel_rfl
@[simp] theorem ag_73 : aggOf Try.prog 73 = some false := by kernel_rfl
@[simp] theorem zo_73 : zOf Try.prog 73 = some (.nilf) := by kernel_rfl
@[simp] theorem by_73 : byOf Try.prog 73 = some 8 := by kernel_rfl
@[simp] theorem sz_74 : szOf Try.prog 74 = some 1 := by kernel_rfl
@[simp] theorem ag_74 : aggOf Try.prog 74 = some false := by kernel_rfl
@[simp] theorem zo_74 : zOf Try.prog 74 = some (.nilf) := by kernel_rfl
@[simp] theorem by_74 : byOf Try.prog 74 = some 8 := by kernel_rfl
@[simp] theorem sz_75 : szOf Try.prog 75 = some 1 := by kernel_rfl
@[simp] theorem ag_75 : aggOf Try.prog 75 = some false := by kernel_rfl
@[simp] theorem zo_75 : zOf Try.prog 75 = some (.nilf) := by kernel_rfl
@[simp] theorem by_75 : byOf Try.prog 75 = some 8 := by kernel_rfl
@[simp] theorem sz_76 : szOf Try.prog 76 = some 1 := by kernel_rfl
@[simp] theorem ag_76 : aggOf Try.prog 76 = some false := by kernel_rfl
@[simp] theorem zo_76 : zOf Try.prog 76 = some (.nilf) := by kernel_rfl
@[simp] theorem by_76 : byOf Try.prog 76 = some 8 := by kernel_rfl
@[simp] theorem sz_77 : szOf Try.prog 77 = some 1 := by kernel_rfl
@[simp] theorem ag_77 : aggOf Try.prog 77 = some false := by kernel_rfl
@[simp] theorem zo_77 : zOf Try.prog 77 = some (.nilf) := by kernel_rfl
@[simp] theorem by_77 : byOf Try.prog 77 = some 8 := by kernel_rfl
@[simp] theorem sz_78 : szOf Try.prog 78 = some 1 := by kernel_rfl
@[simp] theorem ag_78 : aggOf Try.prog 78 = some false := by kernel_rfl
@[simp] theorem zo_78 : zOf Try.prog 78 = some (.nilf) := by kernel_rfl
@[simp] theorem by_78 : byOf Try.prog 78 = some 8 := by kernel_rfl
@[simp] theorem sz_79 : szOf Try.prog 79 = some 1 := by kernel_rfl
@[simp] theorem ag_79 : aggOf Try.prog 79 = some false := by kernel_rfl
@[simp] theorem zo_79 : zOf Try.prog 79 = some (.nilf) := by kernel_rfl
@[simp] theorem by_79 : byOf Try.prog 79 = some 8 := by kernel_rfl
@[simp] theorem sz_80 : szOf Try.prog 80 = some 1 := by kernel_rfl
@[simp] theorem ag_80 : aggOf Try.prog 80 = some false := by kernel_rfl
@[simp] theorem zo_80 : zOf Try.prog 80 = some (.nilf) := by kernel_rfl
@[simp] theorem by_80 : byOf Try.prog 80 = some 8 := by kernel_rfl
@[simp] theorem sz_81 : szOf Try.prog 81 = some 1 := by kernel_rfl
@[simp] theorem ag_81 : aggOf Try.prog 81 = some false := by kernel_rfl
@[simp] theorem zo_81 : zOf Try.prog 81 = some (.sl .exact []) := by kernel_rfl
@[simp] theorem sl_81 : slOf Try.prog 81 = some (53, 1) := by kernel_rfl
@[simp] theorem li_81 : litOf Try.prog 81 = some (false, 1, [.sl .exact []]) := by kernel_rfl
@[simp] theorem un_81 : Try.prog.underlying 81 = some (.slice 53) := by kernel_rfl
@[simp] theorem by_81 : byOf Try.prog 81 = some 24 := by kernel_rfl
@[simp] theorem sz_82 : szOf Try.prog 82 = some 1 := by kernel_rfl
@[simp] theorem ag_82 : aggOf Try.prog 82 = some false := by kernel_rfl
@[simp] theorem zo_82 : zOf Try.prog 82 = some (.nilf) := by kernel_rfl
@[simp] theorem by_82 : byOf Try.prog 82 = some 8 := by kernel_rfl
@[simp] theorem sz_83 : szOf Try.prog 83 = some 1 := by kernel_rfl
@[simp] theorem ag_83 : aggOf Try.prog 83 = some false := by kernel_rfl
@[simp] theorem zo_83 : zOf Try.prog 83 = some (.nilf) := by kernel_rfl
@[simp] theorem by_83 : byOf Try.prog 83 = some 8 := by kernel_rfl
@[simp] theorem sz_84 : szOf Try.prog 84 = some 1 := by kernel_rfl
@[simp] theorem ag_84 : aggOf Try.prog 84 = some false := by kernel_rfl
@[simp] theorem zo_84 : zOf Try.prog 84 = some (.nilf) := by kernel_rfl
@[simp] theorem by_84 : byOf Try.prog 84 = some 8 := by kernel_rfl
@[simp] theorem sz_85 : szOf Try.prog 85 = some 1 := by kernel_rfl
@[simp] theorem ag_85 : aggOf Try.prog 85 = some false := by kernel_rfl
@[simp] theorem zo_85 : zOf Try.prog 85 = some (.nilf) := by kernel_rfl
@[simp] theorem by_85 : byOf Try.prog 85 = some 8 := by kernel_rfl
@[simp] theorem sz_86 : szOf Try.prog 86 = some 1 := by kernel_rfl
@[simp] theorem ag_86 : aggOf Try.prog 86 = some false := by kernel_rfl
@[simp] theorem zo_86 : zOf Try.prog 86 = some (.nilf) := by kernel_rfl
@[simp] theorem by_86 : byOf Try.prog 86 = some 8 := by kernel_rfl
@[simp] theorem sz_87 : szOf Try.prog 87 = some 1 := by kernel_rfl
@[simp] theorem ag_87 : aggOf Try.prog 87 = some false := by kernel_rfl
@[simp] theorem zo_87 : zOf Try.prog 87 = some (.nilf) := by kernel_rfl
@[simp] theorem by_87 : byOf Try.prog 87 = some 8 := by kernel_rfl
@[simp] theorem sz_88 : szOf Try.prog 88 = some 1 := by kernel_rfl
@[simp] theorem ag_88 : aggOf Try.prog 88 = some false := by kernel_rfl
@[simp] theorem zo_88 : zOf Try.prog 88 = some (.nilf) := by kernel_rfl
@[simp] theorem by_88 : byOf Try.prog 88 = some 8 := by kernel_rfl
@[simp] theorem sz_89 : szOf Try.prog 89 = some 1 := by kernel_rfl
@[simp] theorem ag_89 : aggOf Try.prog 89 = some false := by kernel_rfl
@[simp] theorem zo_89 : zOf Try.prog 89 = some (.sl .exact []) := by kernel_rfl
@[simp] theorem sl_89 : slOf Try.prog 89 = some (23, 1) := by kernel_rfl
@[simp] theorem li_89 : litOf Try.prog 89 = some (false, 1, [.sl .exact []]) := by kernel_rfl
@[simp] theorem un_89 : Try.prog.underlying 89 = some (.slice 23) := by kernel_rfl
@[simp] theorem by_89 : byOf Try.prog 89 = some 24 := by kernel_rfl
@[simp] theorem sz_90 : szOf Try.prog 90 = some 1 := by kernel_rfl
@[simp] theorem ag_90 : aggOf Try.prog 90 = some false := by kernel_rfl
@[simp] theorem zo_90 : zOf Try.prog 90 = some (.sl .exact []) := by kernel_rfl
@[simp] theorem sl_90 : slOf Try.prog 90 = some (96, 4) := by kernel_rfl
@[simp] theorem li_90 : litOf Try.prog 90 = some (true, 4, [.int .i64 0, .int .i64 0, .int .i64 0, .int .i64 0]) := by kernel_rfl
@[simp] theorem un_90 : Try.prog.underlying 90 = some (.slice 96) := by kernel_rfl
@[simp] theorem by_90 : byOf Try.prog 90 = some 24 := by kernel_rfl
@[simp] theorem sz_91 : szOf Try.prog 91 = some 1 := by kernel_rfl
@[simp] theorem ag_91 : aggOf Try.prog 91 = some false := by kernel_rfl
@[simp] theorem zo_91 : zOf Try.prog 91 = some (.sl .exact []) := by kernel_rfl
@[simp] theorem sl_91 : slOf Try.prog 91 = some (138, 5) := by kernel_rfl
@[simp] theorem li_91 : litOf Try.prog 91 = some (true, 5, [.int .i64 0, .int .i64 0, .sl .exact [], .sl .exact [], .sl .exact []]) := by kernel_rfl
@[simp] theorem un_91 : Try.prog.underlying 91 = some (.slice 138) := by kernel_rfl
@[simp] theorem by_91 : byOf Try.prog 91 = some 24 := by kernel_rfl
@[simp] theorem sz_92 : szOf Try.prog 92 = some 6 := by kernel_rfl
@[simp] theorem ag_92 : aggOf Try.prog 92 = some true := by kernel_rfl
@[simp] theorem zo_92 : zOf Try.prog 92 = some (.agg [.int .i64 0, .sl .exact [], .sl .exact [], .sl .exact [], .sl .exact [], .sl .exact []]) := by kernel_rfl
@[simp] theorem ft_92 : ftOf Try.prog 92 = some (6, [(3, 0, 1), (89, 1, 1), (90, 2, 1), (23, 3, 1), (91, 4, 1), (23, 5, 1)]) := by kernel_rfl
@[simp] theorem fd_92_0 : fldOf Try.prog 92 0 = some (0, 1, false) := by kernel_rfl
@[simp] theorem fd_92_1 : fldOf Try.prog 92 1 = some (1, 1, false) := by kernel_rfl
@[simp] theorem fd_92_2 : fldOf Try.prog 92 2 = some (2, 1, false) := by kernel_rfl
@[simp] theorem fd_92_3 : fldOf Try.prog 92 3 = some (3, 1, false) := by kernel_rfl
@[simp] theorem fd_92_4 : fldOf Try.prog 92 4 = some (4, 1, false) := by kernel_rfl
@[simp] theorem fd_92_5 : fldOf Try.prog 92 5 = some (5, 1, false) := by kernel_rfl
@[simp] theorem bd_92 : bldOf Try.prog 92 = some ([(0, 1), (1, 1), (2, 1), (3, 1), (4, 1), (5, 1)], [.int .i64 0, .sl .exact [], .sl .exact [], .sl .exact [], .sl .exact [], .sl .exact []]) := by kernel_rfl
@[simp] theorem by_92 : byOf Try.prog 92 = some 128 := by kernel_rfl
@[simp] theorem sz_93 : szOf Try.prog 93 = some 6 := by kernel_rfl
@[simp] theorem ag_93 : aggOf Try.prog 93 = some true := by kernel_rfl
@[simp] theorem zo_93 : zOf Try.prog 93 = some (.agg [.int .i64 0, .sl .exact [], .sl .exact [], .sl .exact [], .sl .exact [], .sl .exact []]) := by kernel_rfl
@[simp] theorem ft_93 : ftOf Try.prog 93 = some (6, [(3, 0, 1), (89, 1, 1), (90, 2, 1), (23, 3, 1), (91, 4, 1), (23, 5, 1)]) := by kernel_rfl
@[simp] theorem fd_93_0 : fldOf Try.prog 93 0 = some (0, 1, false) := by kernel_rfl
@[simp] theorem fd_93_1 : fldOf Try.prog 93 1 = some (1, 1, false) := by kernel_rfl
@[simp] theorem fd_93_2 : fldOf Try.prog 93 2 = some (2, 1, false) := by kernel_rfl
@[simp] theorem fd_93_3 : fldOf Try.prog 93 3 = some (3, 1, false) := by kernel_rfl
@[simp] theorem fd_93_4 : fldOf Try.prog 93 4 = some (4, 1, false) := by kernel_rfl
@[simp] theorem fd_93_5 : fldOf Try.prog 93 5 = some (5, 1, false) := by kernel_rfl
@[simp] theorem bd_93 : bldOf Try.prog 93 = some ([(0, 1), (1, 1), (2, 1), (3, 1), (4, 1), (5, 1)], [.int .i64 0, .sl .exact [], .sl .exact [], .sl .exact [], .sl .exact [], .sl .exact []]) := by kernel_rfl
@[simp] theorem by_93 : byOf Try.prog 93 = some 128 := by kernel_rfl
@[simp] theorem sz_94 : szOf Try.prog 94 = some 1 := by kernel_rfl
@[simp] theorem ag_94 : aggOf Try.prog 94 = some false := by kernel_rfl
@[simp] theorem zo_94 : zOf Try.prog 94 = some (.nilf) := by kernel_rfl
@[simp] theorem by_94 : byOf Try.prog 94 = some 8 := by kernel_rfl
@[simp] theorem sz_95 : szOf Try.prog 95 = some 4 := by kernel_rfl
@[simp] theorem ag_95 : aggOf Try.prog 95 = some true := by kernel_rfl
@[simp] theorem zo_95 : zOf Try.prog 95 = some (.agg [.int .i64 0, .int .i64 0, .int .i64 0, .int .i64 0]) := by kernel_rfl
@[simp] theorem ft_95 : ftOf Try.prog 95 = some (4, [(3, 0, 1), (3, 1, 1), (3, 2, 1), (3, 3, 1)]) := by kernel_rfl
@[simp] theorem fd_95_0 : fldOf Try.prog 95 0 = some (0, 1, false) := by kernel_rfl
@[simp] theorem fd_95_1 : fldOf Try.prog 95 1 = some (1, 1, false) := by kernel_rfl
@[simp] theorem fd_95_2 : fldOf Try.prog 95 2 = some (2, 1, false) := by kernel_rfl
@[simp] theorem fd_95_3 : fldOf Try.prog 95 3 = some (3, 1, false) := by kernel_rfl
@[simp] theorem bd_95 : bldOf Try.prog 95 = some ([(0, 1), (1, 1), (2, 1), (3, 1)], [.int .i64 0, .int .i64 0, .int .i64 0, .int .i64 0]) := by kernel_rfl
@[simp] theorem by_95 : byOf Try.prog 95 = some 32 := by kernel_rfl
@[simp] theorem sz_96 : szOf Try.prog 96 = some 4 := by kernel_rfl
@[simp] theorem ag_96 : aggOf Try.prog 96 = some true := by kernel_rfl
@[simp] theorem zo_96 : zOf Try.prog 96 = some (.agg [.int .i64 0, .int .i64 0, .int .i64 0, .int .i64 0]) := by kernel_rfl
@[simp] theorem ft_96 : ftOf Try.prog 96 = some (4, [(3, 0, 1), (3, 1, 1), (3, 2, 1), (3, 3, 1)]) := by kernel_rfl
@[simp] theorem fd_96_0 : fldOf Try.prog 96 0 = some (0, 1, false) := by kernel_rfl
@[simp] theorem fd_96_1 : fldOf Try.prog 96 1 = some (1, 1, false) := by kernel_rfl
@[simp] theorem fd_96_2 : fldOf Try.prog 96 2 = some (2, 1, false) := by kernel_rfl
@[simp] theorem fd_96_3 : fldOf Try.prog 96 3 = some (3, 1, false) := by kernel_rfl
@[simp] theorem bd_96 : bldOf Try.prog 96 = some ([(0, 1), (1, 1), (2, 1), (3, 1)], [.int .i64 0, .int .i64 0, .int .i64 0, .int .i64 0]) := by kernel_rfl
@[simp] theorem eqt_96 {a0 b0 : Int} {a1 b1 : Int} {a2 b2 : Int} {a3 b3 : Int} : EqT Try.prog 96 [.int .i64 a0, .int .i64 a1, .int .i64 a2, .int .i64 a3] [.int .i64 b0, .int .i64 b1, .int .i64 b2, .int .i64 b3] = True := eq_true (EqT.flat [.int, .int, .int, .int] (by kernel_rfl) rfl rfl (by simp [kindsFit]))
@[simp] theorem by_96 : byOf Try.prog 96 = some 32 := by kernel_rfl
@[simp] theorem sz_97 : szOf Try.prog 97 = some 1 := by kernel_rfl
@[simp] theorem ag_97 : aggOf Try.prog 97 = some false := by kernel_rfl
@[simp] theorem zo_97 : zOf Try.prog 97 = some (.nilf) := by kernel_rfl
@[simp] theorem by_97 : byOf Try.prog 97 = some 8 := by kernel_rfl
@[simp] theorem sz_98 : szOf Try.prog 98 = some 1 := by kernel_rfl
@[simp] theorem ag_98 : aggOf Try.prog 98 = some false := by kernel_rfl
@[simp] theorem zo_98 : zOf Try.prog 98 = some (.nilf) := by kernel_rfl
@[simp] theorem by_98 : byOf Try.prog 98 = some 8 := by kernel_rfl
@[simp] theorem sz_99 : szOf Try.prog 99 = some 1 := by kernel_rfl
@[simp] theorem ag_99 : aggOf Try.prog 99 = some false := by kernel_rfl
@[simp] theorem zo_99 : zOf Try.prog 99 = some (.nilf) := by kernel_rfl
@[simp] theorem by_99 : byOf Try.prog 99 = some 8 := by kernel_rfl
@[simp] theorem sz_100 : szOf Try.prog 100 = some 1 := by kernel_rfl
@[simp] theorem ag_100 : aggOf Try.prog 100 = some false := by kernel_rfl
@[simp] theorem zo_100 : zOf Try.prog 100 = some (.nilf) := by kernel_rfl
@[simp] theorem by_100 : byOf Try.prog 100 = some 8 := by kernel_rfl
@[simp] theorem sz_102 : szOf Try.prog 102 = some 1 := by kernel_rfl
@[simp] theorem ag_102 : aggOf Try.prog 102 = some false := by kernel_rfl
@[simp] theorem zo_102 : zOf Try.prog 102 = some (.nilf) := by kernel_rfl
@[simp] theorem by_102 : byOf Try.prog 102 = some 8 := by kernel_rfl
@[simp] theorem sz_104 : szOf Try.prog 104 = some 1 := by kernel_rfl
@[simp] theorem ag_104 : aggOf Try.prog 104 = some false := by kernel_rfl
@[simp] theorem zo_104 : zOf Try.prog 104 = some (.nilf) := by kernel_rfl
@[simp] theorem by_104 : byOf Try.prog 104 = some 8 := by kernel_rfl
@[simp] theorem sz_106 : szOf Try.prog 106 = some 1 := by kernel_rfl
@[simp] theorem ag_106 : aggOf Try.prog 106 = some false := by kernel_rfl
@[simp] theorem zo_106 : zOf Try.prog 106 = some (.nilf) := by kernel_rfl
@[simp] theorem by_106 : byOf Try.prog 106 = some 8 := by kernel_rfl
@[simp] theorem sz_107 : szOf Try.prog 107 = some 1 := by kernel_rfl
@[simp] theorem ag_107 : aggOf Try.prog 107 = some false := by kernel_rfl
@[simp] theorem zo_107 : zOf Try.prog 107 = some (.nilf) := by kernel_rfl
@[simp] theorem by_107 : byOf Try.prog 107 = some 8 := by kernel_rfl
@[simp] theorem sz_108 : szOf Try.prog 108 = some 1 := by kernel_rfl
@[simp] theorem ag_108 : aggOf Try.prog 108 = some false := by kernel_rfl
@[simp] theorem zo_108 : zOf Try.prog 108 = some (.nilf) := by kernel_rfl
@[simp] theorem by_108 : byOf Try.prog 108 = some 8 := by kernel_rfl
@[simp] theorem sz_110 : szOf Try.prog 110 = some 1 := by kernel_rfl
@[simp] theorem ag_110 : aggOf Try.prog 110 = some false := by kernel_rfl
@[simp] theorem zo_110 : zOf Try.prog 110 = some (.nilf) := by kernel_rfl
@[simp] theorem by_110 : byOf Try.prog 110 = some 8 := by kernel_rfl
@[simp] theorem sz_111 : szOf Try.prog 111 = some 1 := by kernel_rfl
@[simp] theorem ag_111 : aggOf Try.prog 111 = some false := by kernel_rfl
@[simp] theorem zo_111 : zOf Try.prog 111 = some (.nilf) := by kernel_rfl
@[simp] theorem by_111 : byOf Try.prog 111 = some 8 := by kernel_rfl
@[simp] theorem sz_113 : szOf Try.prog 113 = some 1 := by kernel_rfl
@[simp] theorem ag_113 : aggOf Try.prog 113 = some false := by kernel_rfl
@[simp] theorem zo_113 : zOf Try.prog 113 = some (.nilf) := by kernel_rfl
@[simp] theorem by_113 : byOf Try.prog 113 = some 8 := by kernel_rfl
@[simp] theorem sz_114 : szOf Try.prog 114 = some 1 := by kernel_rfl
@[simp] theorem ag_114 : aggOf Try.prog 114 = some false := by kernel_rfl
@[simp] theorem zo_114 : zOf Try.prog 114 = some (.nilf) := by kernel_rfl
@[simp] theorem by_114 : byOf Try.prog 114 = some 8 := by kernel_rfl
@[simp] theorem sz_115 : szOf Try.prog 115 = some 1 := by kernel_rfl
@[simp] theorem ag_115 : aggOf Try.prog 115 = some false := by kernel_rfl
@[simp] theorem zo_115 : zOf Try.prog 115 = some (.nilf) := by kernel_rfl
@[simp] theorem by_115 : byOf Try.prog 115 = some 8 := by kernel_rfl
@[simp] theorem sz_116 : szOf Try.prog 116 = some 1 := by kernel_rfl
@[simp] theorem ag_116 : aggOf Try.prog 116 = some false := by kernel_rfl
@[simp] theorem zo_116 : zOf Try.prog 116 = some (.nilf) := by kernel_rfl
@[simp] theorem by_116 : byOf Try.prog 116 = some 8 := by kernel_rfl
@[simp] theorem sz_117 : szOf Try.prog 117 = some 1 := by kernel_rfl
@[simp] theorem ag_117 : aggOf Try.prog 117 = some false := by kernel_rfl
@[simp] theorem zo_117 : zOf Try.prog 117 = some (.nilf) := by kernel_rfl
@[simp] theorem by_117 : byOf Try.prog 117 = some 8 := by kernel_rfl
@[simp] theorem sz_118 : szOf Try.prog 118 = some 1 := by kernel_rfl
@[simp] theorem ag_118 : aggOf Try.prog 118 = some false := by kernel_rfl
@[simp] theorem zo_118 : zOf Try.prog 118 = some (.nilf) := by kernel_rfl
@[simp] theorem by_118 : byOf Try.prog 118 = some 8 := by kernel_rfl
@[simp] theorem sz_119 : szOf Try.prog 119 = some 1 := by kernel_rfl
@[simp] theorem ag_119 : aggOf Try.prog 119 = some false := by kernel_rfl
@[simp] theorem zo_119 : zOf Try.prog 119 = some (.nilf) := by kernel_rfl
@[simp] theorem by_119 : byOf Try.prog 119 = some 8 := by kernel_rfl
@[simp] theorem sz_120 : szOf Try.prog 120 = some 1 := by kernel_rfl
@[simp] theorem ag_120 : aggOf Try.prog 120 = some false := by kernel_rfl
@[simp] theorem zo_120 : zOf Try.prog 120 = some (.nilf) := by kernel_rfl
@[simp] theorem by_120 : byOf Try.prog 120 = some 8 := by kernel_rfl
@[simp] theorem sz_121 : szOf Try.prog 121 = some 1 := by kernel_rfl
@[simp] theorem ag_121 : aggOf Try.prog 121 = some false := by kernel_rfl
@[simp] theorem zo_121 : zOf Try.prog 121 = some (.nilf) := by kernel_rfl
@[simp] theorem by_121 : byOf Try.prog 121 = some 8 := by kernel_rfl
@[simp] theorem sz_122 : szOf Try.prog 122 = some 1 := by kernel_rfl
@[simp] theorem ag_122 : aggOf Try.prog 122 = some false := by kernel_rfl
@[simp] theorem zo_122 : zOf Try.prog 122 = some (.nilf) := by kernel_rfl
@[simp] theorem by_122 : byOf Try.prog 122 = some 8 := by kernel_rfl
@[simp] theorem sz_123 : szOf Try.prog 123 = some 1 := by kernel_rfl
@[simp] theorem ag_123 : aggOf Try.prog 123 = some false := by kernel_rfl
@[simp] theorem zo_123 : zOf Try.prog 123 = some (.nilf) := by kernel_rfl
@[simp] theorem by_123 : byOf Try.prog 123 = some 8 := by kernel_rfl
@[simp] theorem sz_124 : szOf Try.prog 124 = some 1 := by kernel_rfl
@[simp] theorem ag_124 : aggOf Try.prog 124 = some false := by kernel_rfl
@[simp] theorem zo_124 : zOf Try.prog 124 = some (.nilf) := by kernel_rfl
@[simp] theorem by_124 : byOf Try.prog 124 = some 8 := by kernel_rfl
@[simp] theorem sz_125 : szOf Try.prog 125 = some 1 := by kernel_rfl
@[simp] theorem ag_125 : aggOf Try.prog 125 = some false := by kernel_rfl
@[simp] theorem zo_125 : zOf Try.prog 125 = some (.nilf) := by kernel_rfl
@[simp] theorem by_125 : byOf Try.prog 125 = some 8 := by kernel_rfl
@[simp] theorem sz_126 : szOf Try.prog 126 = some 1 := by kernel_rfl
@[simp] theorem ag_126 : aggOf Try.prog 126 = some false := by kernel_rfl
@[simp] theorem zo_126 : zOf Try.prog 126 = some (.nilp) := by kernel_rfl
@[simp] theorem un_126 : Try.prog.underlying 126 = some (.pointer 153) := by kernel_rfl
@[simp] theorem by_126 : byOf Try.prog 126 = some 8 := by kernel_rfl
@[simp] theorem sz_127 : szOf Try.prog 127 = some 1 := by kernel_rfl
@[simp] theorem ag_127 : aggOf Try.prog 127 = some false := by kernel_rfl
@[simp] theorem zo_127 : zOf Try.prog 127 = some (.nilf) := by kernel_rfl
@[simp] theorem by_127 : byOf Try.prog 127 = some 8 := by kernel_rfl
@[simp] theorem sz_128 : szOf Try.prog 128 = some 1 := by kernel_rfl
@[simp] theorem ag_128 : aggOf Try.prog 128 = some false := by kernel_rfl
@[simp] theorem zo_128 : zOf Try.prog 128 = some (.nilf) := by kernel_rfl
@[simp] theorem by_128 : byOf Try.prog 128 = some 8 := by kernel_rfl
@[simp] theorem sz_129 : szOf Try.prog 129 = some 1 := by kernel_rfl
@[simp] theorem ag_129 : aggOf Try.prog 129 = some false := by kernel_rfl
@[simp] theorem zo_129 : zOf Try.prog 129 = some (.nilf) := by kernel_rfl
@[simp] theorem by_129 : byOf Try.prog 129 = some 8 := by kernel_rfl
@[simp] theorem sz_130 : szOf Try.prog 130 = some 1 := by kernel_rfl
@[simp] theorem ag_130 : aggOf Try.prog 130 = some false := by kernel_rfl
@[simp] theorem zo_130 : zOf Try.prog 130 = some (.nilf) := by kernel_rfl
@[simp] theorem by_130 : byOf Try.prog 130 = some 8 := by kernel_rfl
@[simp] theorem sz_131 : szOf Try.prog 131 = some 1 := by kernel_rfl
@[simp] theorem ag_131 : aggOf Try.prog 131 = some false := by kernel_rfl
@[simp] theorem zo_131 : zOf Try.prog 131 = some (.nilf) := by kernel_rfl
@[simp] theorem by_131 : byOf Try.prog 131 = some 8 := by kernel_rfl
@[simp] theorem sz_132 : szOf Try.prog 132 = some 1 := by kernel_rfl
@[simp] theorem ag_132 : aggOf Try.prog 132 = some false := by kernel_rfl
@[simp] theorem zo_132 : zOf Try.prog 132 = some (.nilf) := by kernel_rfl
@[simp] theorem by_132 : byOf Try.prog 132 = some 8 := by kernel_rfl
@[simp] theorem sz_133 : szOf Try.prog 133 = some 1 := by kernel_rfl
@[simp] theorem ag_133 : aggOf Try.prog 133 = some false := by kernel_rfl
@[simp] theorem zo_133 : zOf Try.prog 133 = some (.nilf) := by kernel_rfl
@[simp] theorem by_133 : byOf Try.prog 133 = some 8 := by kernel_rfl
@[simp] theorem sz_134 : szOf Try.prog 134 = some 1 := by kernel_rfl
@[simp] theorem ag_134 : aggOf Try.prog 134 = some false := by kernel_rfl
@[simp] theorem zo_134 : zOf Try.prog 134 = some (.nilf) := by kernel_rfl
@[simp] theorem by_134 : byOf Try.prog 134 = some 8 := by kernel_rfl
@[simp] theorem sz_136 : szOf Try.prog 136 = some 1 := by kernel_rfl
@[simp] theorem ag_136 : aggOf Try.prog 136 = some false := by kernel_rfl
@[simp] theorem zo_136 : zOf Try.prog 136 = some (.nilf) := by kernel_rfl
@[simp] theorem by_136 : byOf Try.prog 136 = some 8 := by kernel_rfl
@[simp] theorem sz_137 : szOf Try.prog 137 = some 5 := by kernel_rfl
@[simp] theorem ag_137 : aggOf Try.prog 137 = some true := by kernel_rfl
@[simp] theorem zo_137 : zOf Try.prog 137 = some (.agg [.int .i64 0, .int .i64 0, .sl .exact [], .sl .exact [], .sl .exact []]) := by kernel_rfl
@[simp] theorem ft_137 : ftOf Try.prog 137 = some (5, [(3, 0, 1), (3, 1, 1), (90, 2, 1), (23, 3, 1), (23, 4, 1)]) := by kernel_rfl
@[simp] theorem fd_137_0 : fldOf Try.prog 137 0 = some (0, 1, false) := by kernel_rfl
@[simp] theorem fd_137_1 : fldOf Try.prog 137 1 = some (1, 1, false) := by kernel_rfl
@[simp] theorem fd_137_2 : fldOf Try.prog 137 2 = some (2, 1, false) := by kernel_rfl
@[simp] theorem fd_137_3 : fldOf Try.prog 137 3 = some (3, 1, false) := by kernel_rfl
@[simp] theorem fd_137_4 : fldOf Try.prog 137 4 = some (4, 1, false) := by kernel_rfl
@[simp] theorem bd_137 : bldOf Try.prog 137 = some ([(0, 1), (1, 1), (2, 1), (3, 1), (4, 1)], [.int .i64 0, .int .i64 0, .sl .exact [], .sl .exact [], .sl .exact []]) := by kernel_rfl
@[simp] theorem by_137 : byOf Try.prog 137 = some 88 := by kernel_rfl
@[simp] theorem sz_138 : szOf Try.prog 138 = some 5 := by kernel_rfl
@[simp] theorem ag_138 : aggOf Try.prog 138 = some true := by kernel_rfl
@[simp] theorem zo_138 : zOf Try.prog 138 = some (.agg [.int .i64 0, .int .i64 0, .sl .exact [], .sl .exact [], .sl .exact []]) := by kernel_rfl
@[simp] theorem ft_138 : ftOf Try.prog 138 = some (5, [(3, 0, 1), (3, 1, 1), (90, 2, 1), (23, 3, 1), (23, 4, 1)]) := by kernel_rfl
@[simp] theorem fd_138_0 : fldOf Try.prog 138 0 = some (0, 1, false) := by kernel_rfl
@[simp] theorem fd_138_1 : fldOf Try.prog 138 1 = some (1, 1, false) := by kernel_rfl
@[simp] theorem fd_138_2 : fldOf Try.prog 138 2 = some (2, 1, false) := by kernel_rfl
@[simp] theorem fd_138_3 : fldOf Try.prog 138 3 = some (3, 1, false) := by kernel_rfl
@[simp] theorem fd_138_4 : fldOf Try.prog 138 4 = some (4, 1, false) := by kernel_rfl
@[simp] theorem bd_138 : bldOf Try.prog 138 = some ([(0, 1), (1, 1), (2, 1), (3, 1), (4, 1)], [.int .i64 0, .int .i64 0, .sl .exact [], .sl .exact [], .sl .exact []]) := by kernel_rfl
@[simp] theorem by_138 : byOf Try.prog 138 = some 88 := by kernel_rfl
@[simp] theorem sz_139 : szOf Try.prog 139 = some 1 := by kernel_rfl
@[simp] theorem ag_139 : aggOf Try.prog 139 = some false := by kernel_rfl
@[simp] theorem zo_139 : zOf Try.prog 139 = some (.nilf) := by kernel_rfl
@[simp] theorem by_139 : byOf Try.prog 139 = some 8 := by kernel_rfl
@[simp] theorem sz_140 : szOf Try.prog 140 = some 1 := by kernel_rfl
@[simp] theorem ag_140 : aggOf Try.prog 140 = some false := by kernel_rfl
@[simp] theorem zo_140 : zOf Try.prog 140 = some (.nilf) := by kernel_rfl
@[simp] theorem by_140 : byOf Try.prog 140 = some 8 := by kernel_rfl
@[simp] theorem sz_141 : szOf Try.prog 141 = some 1 := by kernel_rfl
@[simp] theorem ag_141 : aggOf Try.prog 141 = some false := by kernel_rfl
@[simp] theorem zo_141 : zOf Try.prog 141 = some (.nilf) := by kernel_rfl
@[simp] theorem by_141 : byOf Try.prog 141 = some 8 := by kernel_rfl
@[simp] theorem sz_142 : szOf Try.prog 142 = some 1 := by kernel_rfl
@[simp] theorem ag_142 : aggOf Try.prog 142 = some false := by kernel_rfl
@[simp] theorem zo_142 : zOf Try.prog 142 = some (.sl .exact []) := by kernel_rfl
@[simp] theorem sl_142 : slOf Try.prog 142 = some (26, 3) := by kernel_rfl
@[simp] theorem li_142 : litOf Try.prog 142 = some (true, 3, [.int .i64 0, .int .i64 0, .str ⟨#[]⟩]) := by kernel_rfl
@[simp] theorem un_142 : Try.prog.underlying 142 = some (.slice 26) := by kernel_rfl
@[simp] theorem by_142 : byOf Try.prog 142 = some 24 := by kernel_rfl
@[simp] theorem sz_143 : szOf Try.prog 143 = some 1 := by kernel_rfl
@[simp] theorem ag_143 : aggOf Try.prog 143 = some false := by kernel_rfl
@[simp] theorem zo_143 : zOf Try.prog 143 = some (.nilf) := by kernel_rfl
@[simp] theorem by_143 : byOf Try.prog 143 = some 8 := by kernel_rfl
@[simp] theorem sz_144 : szOf Try.prog 144 = some 1 := by kernel_rfl
@[simp] theorem ag_144 : aggOf Try.prog 144 = some false := by kernel_rfl
@[simp] theorem zo_144 : zOf Try.prog 144 = some (.nilf) := by kernel_rfl
@[simp] theorem by_144 : byOf Try.prog 144 = some 8 := by kernel_rfl
@[simp] theorem sz_145 : szOf Try.prog 145 = some 1 := by kernel_rfl
@[simp] theorem ag_145 : aggOf Try.prog 145 = some false := by kernel_rfl
@[simp] theorem zo_145 : zOf Try.prog 145 = some (.nilf) := by kernel_rfl
@[simp] theorem by_145 : byOf Try.prog 145 = some 8 := by kernel_rfl
@[simp] theorem sz_146 : szOf Try.prog 146 = some 1 := by kernel_rfl
@[simp] theorem ag_146 : aggOf Try.prog 146 = some false := by kernel_rfl
@[simp] theorem zo_146 : zOf Try.prog 146 = some (.nilf) := by kernel_rfl
@[simp] theorem by_146 : byOf Try.prog 146 = some 8 := by kernel_rfl
@[simp] theorem sz_147 : szOf Try.prog 147 = some 1 := by kernel_rfl
@[simp] theorem ag_147 : aggOf Try.prog 147 = some false := by kernel_rfl
@[simp] theorem zo_147 : zOf Try.prog 147 = some (.nilf) := by kernel_rfl
@[simp] theorem by_147 : byOf Try.prog 147 = some 8 := by kernel_rfl
@[simp] theorem sz_148 : szOf Try.prog 148 = some 1 := by kernel_rfl
@[simp] theorem ag_148 : aggOf Try.prog 148 = some false := by kernel_rfl
@[simp] theorem zo_148 : zOf Try.prog 148 = some (.nilf) := by kernel_rfl
@[simp] theorem by_148 : byOf Try.prog 148 = some 8 := by kernel_rfl
@[simp] theorem sz_149 : szOf Try.prog 149 = some 1 := by kernel_rfl
@[simp] theorem ag_149 : aggOf Try.prog 149 = some false := by kernel_rfl
@[simp] theorem zo_149 : zOf Try.prog 149 = some (.nilf) := by kernel_rfl
@[simp] theorem by_149 : byOf Try.prog 149 = some 8 := by kernel_rfl
@[simp] theorem sz_150 : szOf Try.prog 150 = some 1 := by kernel_rfl
@[simp] theorem ag_150 : aggOf Try.prog 150 = some false := by kernel_rfl
@[simp] theorem zo_150 : zOf Try.prog 150 = some (.nilf) := by kernel_rfl
@[simp] theorem by_150 : byOf Try.prog 150 = some 8 := by kernel_rfl
@[simp] theorem sz_151 : szOf Try.prog 151 = some 1 := by kernel_rfl
@[simp] theorem ag_151 : aggOf Try.prog 151 = some false := by kernel_rfl
@[simp] theorem zo_151 : zOf Try.prog 151 = some (.nilm) := by kernel_rfl
@[simp] theorem un_151 : Try.prog.underlying 151 = some (.map 3 3) := by kernel_rfl
@[simp] theorem mp_151 : mapOf Try.prog 151 = some (3, .int .i64 0) := by kernel_rfl
@[simp] theorem by_151 : byOf Try.prog 151 = some 8 := by kernel_rfl
@[simp] theorem sz_152 : szOf Try.prog 152 = some 1 := by kernel_rfl
@[simp] theorem ag_152 : aggOf Try.prog 152 = some true := by kernel_rfl
@[simp] theorem zo_152 : zOf Try.prog 152 = some (.agg [.sl .exact []]) := by kernel_rfl
@[simp] theorem ft_152 : ftOf Try.prog 152 = some (1, [(53, 0, 1)]) := by kernel_rfl
@[simp] theorem fd_152_0 : fldOf Try.prog 152 0 = some (0, 1, false) := by kernel_rfl
@[simp] theorem bd_152 : bldOf Try.prog 152 = some ([(0, 1)], [.sl .exact []]) := by kernel_rfl
@[simp] theorem by_152 : byOf Try.prog 152 = some 24 := by kernel_rfl
@[simp] theorem sz_153 : szOf Try.prog 153 = some 1 := by kernel_rfl
@[simp] theorem ag_153 : aggOf Try.prog 153 = some true := by kernel_rfl
@[simp] theorem zo_153 : zOf Try.prog 153 = some (.agg [.sl .exact []]) := by kernel_rfl
@[simp] theorem ft_153 : ftOf Try.prog 153 = some (1, [(53, 0, 1)]) := by kernel_rfl
@[simp] theorem fd_153_0 : fldOf Try.prog 153 0 = some (0, 1, false) := by kernel_rfl
@[simp] theorem bd_153 : bldOf Try.prog 153 = some ([(0, 1)], [.sl .exact []]) := by kernel_rfl
@[simp] theorem by_153 : byOf Try.prog 153 = some 24 := by kernel_rfl
@[simp] theorem sz_154 : szOf Try.prog 154 = some 1 := by kernel_rfl
@[simp] theorem ag_154 : aggOf Try.prog 154 = some false := by kernel_rfl
@[simp] theorem zo_154 : zOf Try.prog 154 = some (.nilf) := by kernel_rfl
@[simp] theorem by_154 : byOf Try.prog 154 = some 8 := by kernel_rfl
@[simp] theorem sz_155 : szOf Try.prog 155 = some 1 := by kernel_rfl
@[simp] theorem ag_155 : aggOf Try.prog 155 = some false := by kernel_rfl
@[simp] theorem zo_155 : zOf Try.prog 155 = some (.nilf) := by kernel_rfl
@[simp] theorem by_155 : byOf Try.prog 155 = some 8 := by kernel_rfl
@[simp] theorem sz_156 : szOf Try.prog 156 = some 1 := by kernel_rfl
@[simp] theorem ag_156 : aggOf Try.prog 156 = some false := by kernel_rfl
@[simp] theorem zo_156 : zOf Try.prog 156 = some (.nilf) := by kernel_rfl
@[simp] theorem by_156 : byOf Try.prog 156 = some 8 := by kernel_rfl
@[simp] theorem sz_157 : szOf Try.prog 157 = some 1 := by kernel_rfl
@[simp] theorem ag_157 : aggOf Try.prog 157 = some false := by kernel_rfl
@[simp] theorem zo_157 : zOf Try.prog 157 = some (.nilf) := by kernel_rfl
@[simp] theorem by_157 : byOf Try.prog 157 = some 8 := by kernel_rfl
@[simp] theorem sz_158 : szOf Try.prog 158 = some 1 := by kernel_rfl
@[simp] theorem ag_158 : aggOf Try.prog 158 = some false := by kernel_rfl
@[simp] theorem zo_158 : zOf Try.prog 158 = some (.nilf) := by kernel_rfl
@[simp] theorem by_158 : byOf Try.prog 158 = some 8 := by kernel_rfl
@[simp] theorem sz_159 : szOf Try.prog 159 = some 1 := by kernel_rfl
@[simp] theorem ag_159 : aggOf Try.prog 159 = some false := by kernel_rfl
@[simp] theorem zo_159 : zOf Try.prog 159 = some (.nilf) := by kernel_rfl
@[simp] theorem by_159 : byOf Try.prog 159 = some 8 := by kernel_rfl
@[simp] theorem sz_160 : szOf Try.prog 160 = some 1 := by kernel_rfl
@[simp] theorem ag_160 : aggOf Try.prog 160 = some false := by kernel_rfl
@[simp] theorem zo_160 : zOf Try.prog 160 = some (.nilf) := by kernel_rfl
@[simp] theorem by_160 : byOf Try.prog 160 = some 8 := by kernel_rfl
@[simp] theorem sz_161 : szOf Try.prog 161 = some 1 := by kernel_rfl
@[simp] theorem ag_161 : aggOf Try.prog 161 = some false := by kernel_rfl
@[simp] theorem zo_161 : zOf Try.prog 161 = some (.nilf) := by kernel_rfl
@[simp] theorem by_161 : byOf Try.prog 161 = some 8 := by kernel_rfl
@[simp] theorem sz_162 : szOf Try.prog 162 = some 1 := by kernel_rfl
@[simp] theorem ag_162 : aggOf Try.prog 162 = some false := by kernel_rfl
@[simp] theorem zo_162 : zOf Try.prog 162 = some (.int .u64 0) := by kernel_rfl
@[simp] theorem un_162 : Try.prog.underlying 162 = some (.int .u64) := by kernel_rfl
@[simp] theorem by_162 : byOf Try.prog 162 = some 8 := by kernel_rfl
@[simp] theorem sz_163 : szOf Try.prog 163 = some 1 := by kernel_rfl
@[simp] theorem ag_163 : aggOf Try.prog 163 = some false := by kernel_rfl
@[simp] theorem zo_163 : zOf Try.prog 163 = some (.nilf) := by kernel_rfl
@[simp] theorem by_163 : byOf Try.prog 163 = some 8 := by kernel_rfl
@[simp] theorem sz_164 : szOf Try.prog 164 = some 1 := by kernel_rfl
@[simp] theorem ag_164 : aggOf Try.prog 164 = some false := by kernel_rfl
@[simp] theorem zo_164 : zOf Try.prog 164 = some (.nilf) := by kernel_rfl
@[simp] theorem by_164 : byOf Try.prog 164 = some 8 := by kernel_rfl
@[simp] theorem sz_165 : szOf Try.prog 165 = some 1 := by kernel_rfl
@[simp] theorem ag_165 : aggOf Try.prog 165 = some false := by kernel_rfl
@[simp] theorem zo_165 : zOf Try.prog 165 = some (.nilf) := by kernel_rfl
@[simp] theorem by_165 : byOf Try.prog 165 = some 8 := by kernel_rfl
@[simp] theorem sz_166 : szOf Try.prog 166 = some 1 := by kernel_rfl
@[simp] theorem ag_166 : aggOf Try.prog 166 = some false := by kernel_rfl
@[simp] theorem zo_166 : zOf Try.prog 166 = some (.int .i64 0) := by kernel_rfl
@[simp] theorem un_166 : Try.prog.underlying 166 = some (.int .i64) := by kernel_rfl
@[simp] theorem by_166 : byOf Try.prog 166 = some 8 := by kernel_rfl
@[simp] theorem sz_168 : szOf Try.prog 168 = some 1 := by kernel_rfl
@[simp] theorem ag_168 : aggOf Try.prog 168 = some false := by kernel_rfl
@[simp] theorem zo_168 : zOf Try.prog 168 = some (.nilf) := by kernel_rfl
@[simp] theorem by_168 : byOf Try.prog 168 = some 8 := by kernel_rfl
@[simp] theorem sz_169 : szOf Try.prog 169 = some 1 := by kernel_rfl
@[simp] theorem ag_169 : aggOf Try.prog 169 = some false := by kernel_rfl
@[simp] theorem zo_169 : zOf Try.prog 169 = some (.nilf) := by kernel_rfl
@[simp] theorem by_169 : byOf Try.prog 169 = some 8 := by kernel_rfl
@[simp] theorem sz_170 : szOf Try.prog 170 = some 1 := by kernel_rfl
@[simp] theorem ag_170 : aggOf Try.prog 170 = some false := by kernel_rfl
@[simp] theorem zo_170 : zOf Try.prog 170 = some (.nilf) := by kernel_rfl
@[simp] theorem by_170 : byOf Try.prog 170 = some 8 := by kernel_rfl
@[simp] theorem sz_171 : szOf Try.prog 171 = some 1 := by kernel_rfl
@[simp] theorem ag_171 : aggOf Try.prog 171 = some false := by kernel_rfl
@[simp] theorem zo_171 : zOf Try.prog 171 = some (.nilf) := by kernel_rfl
@[simp] theorem by_171 : byOf Try.prog 171 = some 8 := by kernel_rfl
@[simp] theorem sz_172 : szOf Try.prog 172 = some 1 := by kernel_rfl
@[simp] theorem ag_172 : aggOf Try.prog 172 = some false := by kernel_rfl
@[simp] theorem zo_172 : zOf Try.prog 172 = some (.int .u32 0) := by kernel_rfl
@[simp] theorem un_172 : Try.prog.underlying 172 = some (.int .u32) := by kernel_rfl
@[simp] theorem by_172 : byOf Try.prog 172 = some 4 := by kernel_rfl
@[simp] theorem sz_173 : szOf Try.prog 173 = some 1 := by kernel_rfl
@[simp] theorem ag_173 : aggOf Try.prog 173 = some false := by kernel_rfl
@[simp] theorem zo_173 : zOf Try.prog 173 = some (.nilf) := by kernel_rfl
@[simp] theorem by_173 : byOf Try.prog 173 = some 8 := by kernel_rfl
@[simp] theorem sz_174 : szOf Try.prog 174 = some 1 := by kernel_rfl
@[simp] theorem ag_174 : aggOf Try.prog 174 = some false := by kernel_rfl
@[simp] theorem zo_174 : zOf Try.prog 174 = some (.int .u64 0) := by kernel_rfl
@[simp] theorem un_174 : Try.prog.underlying 174 = some (.int .u64) := by kernel_rfl
@[simp] theorem by_174 : byOf Try.prog 174 = some 8 := by kernel_rfl
@[simp] theorem sz_175 : szOf Try.prog 175 = some 1 := by kernel_rfl
@[simp] theorem ag_175 : aggOf Try.prog 175 = some false := by kernel_rfl
@[simp] theorem zo_175 : zOf Try.prog 175 = some (.int .u64 0) := by kernel_rfl
@[simp] theorem un_175 : Try.prog.underlying 175 = some (.int .u64) := by kernel_rfl
@[simp] theorem by_175 : byOf Try.prog 175 = some 8 := by kernel_rfl
@[simp] theorem sz_176 : szOf Try.prog 176 = some 1 := by kernel_rfl
@[simp] theorem ag_176 : aggOf Try.prog 176 = some false := by kernel_rfl
@[simp] theorem zo_176 : zOf Try.prog 176 = some (.nilf) := by kernel_rfl
@[simp] theorem by_176 : byOf Try.prog 176 = some 8 := by kernel_rfl
@[simp] theorem sz_177 : szOf Try.prog 177 = some 1 := by kernel_rfl
@[simp] theorem ag_177 : aggOf Try.prog 177 = some false := by kernel_rfl
@[simp] theorem zo_177 : zOf Try.prog 177 = some (.nilf) := by kernel_rfl
@[simp] theorem by_177 : byOf Try.prog 177 = some 8 := by kernel_rfl
@[simp] theorem sz_178 : szOf Try.prog 178 = some 1 := by kernel_rfl
@[simp] theorem ag_178 : aggOf Try.prog 178 = some false := by kernel_rfl
@[simp] theorem zo_178 : zOf Try.prog 178 = some (.nilf) := by kernel_rfl
@[simp] theorem by_178 : byOf Try.prog 178 = some 8 := by kernel_rfl
@[simp] theorem sz_179 : szOf Try.prog 179 = some 1 := by kernel_rfl
@[simp] theorem ag_179 : aggOf Try.prog 179 = some false := by kernel_rfl
@[simp] theorem zo_179 : zOf Try.prog 179 = some (.nilp) := by kernel_rfl
@[simp] theorem un_179 : Try.prog.underlying 179 = some (.pointer 3) := by kernel_rfl
@[simp] theorem by_179 : byOf Try.prog 179 = some 8 := by kernel_rfl
@[simp] theorem sz_180 : szOf Try.prog 180 = some 1 := by kernel_rfl
@[simp] theorem ag_180 : aggOf Try.prog 180 = some false := by kernel_rfl
@[simp] theorem zo_180 : zOf Try.prog 180 = some (.nilf) := by kernel_rfl
@[simp] theorem by_180 : byOf Try.prog 180 = some 8 := by kernel_rfl
@[simp] theorem sz_181 : szOf Try.prog 181 = some 1 := by kernel_rfl
@[simp] theorem ag_181 : aggOf Try.prog 181 = some false := by kernel_rfl
@[simp] theorem zo_181 : zOf Try.prog 181 = some (.nilp) := by kernel_rfl
@[simp] theorem un_181 : Try.prog.underlying 181 = some (.pointer 175) := by kernel_rfl
@[simp] theorem by_181 : byOf Try.prog 181 = some 8 := by kernel_rfl
@[simp] theorem sz_183 : szOf Try.prog 183 = some 1 := by kernel_rfl
@[simp] theorem ag_183 : aggOf Try.prog 183 = some false := by kernel_rfl
@[simp] theorem zo_183 : zOf Try.prog 183 = some (.nilf) := by kernel_rfl
@[simp] theorem by_183 : byOf Try.prog 183 = some 8 := by kernel_rfl
@[simp] theorem sz_184 : szOf Try.prog 184 = some 1 := by kernel_rfl
@[simp] theorem ag_184 : aggOf Try.prog 184 = some false := by kernel_rfl
@[simp] theorem zo_184 : zOf Try.prog 184 = some (.nilf) := by kernel_rfl
@[simp] theorem by_184 : byOf Try.prog 184 = some 8 := by kernel_rfl
@[simp] theorem sz_185 : szOf Try.prog 185 = some 4 := by kernel_rfl
@[simp] theorem ag_185 : aggOf Try.prog 185 = some true := by kernel_rfl
@[simp] theorem zo_185 : zOf Try.prog 185 = some (.agg [.nilp, .nilp, .nilp, .str ⟨#[]⟩]) := by kernel_rfl
@[simp] theorem ft_185 : ftOf Try.prog 185 = some (4, [(17, 0, 1), (17, 1, 1), (17, 2, 1), (9, 3, 1)]) := by kernel_rfl
@[simp] theorem fd_185_0 : fldOf Try.prog 185 0 = some (0, 1, false) := by kernel_rfl
@[simp] theorem fd_185_1 : fldOf Try.prog 185 1 = some (1, 1, false) := by kernel_rfl
@[simp] theorem fd_185_2 : fldOf Try.prog 185 2 = some (2, 1, false) := by kernel_rfl
@[simp] theorem fd_185_3 : fldOf Try.prog 185 3 = some (3, 1, false) := by kernel_rfl
@[simp] theorem bd_185 : bldOf Try.prog 185 = some ([(0, 1), (1, 1), (2, 1), (3, 1)], [.nilp, .nilp, .nilp, .str ⟨#[]⟩]) := by kernel_rfl
@[simp] theorem by_185 : byOf Try.prog 185 = some 40 := by kernel_rfl
@[simp] theorem sz_186 : szOf Try.prog 186 = some 4 := by kernel_rfl
@[simp] theorem ag_186 : aggOf Try.prog 186 = some true := by kernel_rfl
@[simp] theorem zo_186 : zOf Try.prog 186 = some (.agg [.nilp, .nilp, .nilp, .str ⟨#[]⟩]) := by kernel_rfl
@[simp] theorem ft_186 : ftOf Try.prog 186 = some (4, [(17, 0, 1), (17, 1, 1), (17, 2, 1), (9, 3, 1)]) := by kernel_rfl
@[simp] theorem fd_186_0 : fldOf Try.prog 186 0 = some (0, 1, false) := by kernel_rfl
@[simp] theorem fd_186_1 : fldOf Try.prog 186 1 = some (1, 1, false) := by kernel_rfl
@[simp] theorem fd_186_2 : fldOf Try.prog 186 2 = some (2, 1, false) := by kernel_rfl
@[simp] theorem fd_186_3 : fldOf Try.prog 186 3 = some (3, 1, false) := by kernel_rfl
@[simp] theorem bd_186 : bldOf Try.prog 186 = some ([(0, 1), (1, 1), (2, 1), (3, 1)], [.nilp, .nilp, .nilp, .str ⟨#[]⟩]) := by kernel_rfl
@[simp] theorem by_186 : byOf Try.prog 186 = some 40 := by kernel_rfl
@[simp] theorem sz_187 : szOf Try.prog 187 = some 0 := by kernel_rfl
@[simp] theorem ag_187 : aggOf Try.prog 187 = some true := by kernel_rfl
@[simp] theorem zo_187 : zOf Try.prog 187 = some (.agg []) := by kernel_rfl
@[simp] theorem ar_187 : arrOf Try.prog 187 = some (0, 16, 1, false) := by kernel_rfl
@[simp] theorem bd_187 : bldOf Try.prog 187 = some ([], []) := by kernel_rfl
@[simp] theorem un_187 : Try.prog.underlying 187 = some (.array 0 16) := by kernel_rfl
@[simp] theorem by_187 : byOf Try.prog 187 = some 0 := by kernel_rfl
@[simp] theorem sz_188 : szOf Try.prog 188 = some 0 := by kernel_rfl
@[simp] theorem ag_188 : aggOf Try.prog 188 = some true := by kernel_rfl
@[simp] theorem zo_188 : zOf Try.prog 188 = some (.agg []) := by kernel_rfl
@[simp] theorem ft_188 : ftOf Try.prog 188 = some (0, [(187, 0, 0)]) := by kernel_rfl
@[simp] theorem fd_188_0 : fldOf Try.prog 188 0 = some (0, 0, true) := by kernel_rfl
@[simp] theorem bd_188 : bldOf Try.prog 188 = some ([(0, 0)], []) := by kernel_rfl
@[simp] theorem by_188 : byOf Try.prog 188 = some 0 := by kernel_rfl
@[simp] theorem sz_189 : szOf Try.prog 189 = some 0 := by kernel_rfl
@[simp] theorem ag_189 : aggOf Try.prog 189 = some true := by kernel_rfl
@[simp] theorem zo_189 : zOf Try.prog 189 = some (.agg []) := by kernel_rfl
@[simp] theorem ft_189 : ftOf Try.prog 189 = some (0, [(187, 0, 0)]) := by kernel_rfl
@[simp] theorem fd_189_0 : fldOf Try.prog 189 0 = some (0, 0, true) := by kernel_rfl
@[simp] theorem bd_189 : bldOf Try.prog 189 = some ([(0, 0)], []) := by kernel_rfl
@[simp] theorem by_189 : byOf Try.prog 189 = some 0 := by kernel_rfl
@[simp] theorem sz_190 : szOf Try.prog 190 = some 1 := by kernel_rfl
@[simp] theorem ag_190 : aggOf Try.prog 190 = some false := by kernel_rfl
@[simp] theorem zo_190 : zOf Try.prog 190 = some (.int .u8 0) := by kernel_rfl
@[simp] theorem un_190 : Try.prog.underlying 190 = some (.int .u8) := by kernel_rfl
@[simp] theorem by_190 : byOf Try.prog 190 = some 1 := by kernel_rfl
@[simp] theorem sz_191 : szOf Try.prog 191 = some 1 := by kernel_rfl
@[simp] theorem ag_191 : aggOf Try.prog 191 = some false := by kernel_rfl
@[simp] theorem zo_191 : zOf Try.prog 191 = some (.int .u8 0) := by kernel_rfl
@[simp] theorem un_191 : Try.prog.underlying 191 = some (.int .u8) := by kernel_rfl
@[simp] theorem by_191 : byOf Try.prog 191 = some 1 := by kernel_rfl
@[simp] theorem sz_192 : szOf Try.prog 192 = some 1 := by kernel_rfl
@[simp] theorem ag_192 : aggOf Try.prog 192 = some false := by kernel_rfl
@[simp] theorem zo_192 : zOf Try.prog 192 = some (.nilf) := by kernel_rfl
@[simp] theorem by_192 : byOf Try.prog 192 = some 8 := by kernel_rfl
@[simp] theorem sz_193 : szOf Try.prog 193 = some 1 := by kernel_rfl
@[simp] theorem ag_193 : aggOf Try.prog 193 = some false := by kernel_rfl
@[simp] theorem zo_193 : zOf Try.prog 193 = some (.nilp) := by kernel_rfl
@[simp] theorem un_193 : Try.prog.underlying 193 = some (.pointer 5) := by kernel_rfl
@[simp] theorem by_193 : byOf Try.prog 193 = some 8 := by kernel_rfl
@[simp] theorem sz_194 : szOf Try.prog 194 = some 1 := by kernel_rfl
@[simp] theorem ag_194 : aggOf Try.prog 194 = some false := by kernel_rfl
@[simp] theorem zo_194 : zOf Try.prog 194 = some (.int .i32 0) := by kernel_rfl
@[simp] theorem un_194 : Try.prog.underlying 194 = some (.int .i32) := by kernel_rfl
@[simp] theorem by_194 : byOf Try.prog 194 = some 4 := by kernel_rfl
@[simp] theorem sz_195 : szOf Try.prog 195 = some 1 := by kernel_rfl
@[simp] theorem ag_195 : aggOf Try.prog 195 = some false := by kernel_rfl
@[simp] theorem zo_195 : zOf Try.prog 195 = some (.int .i32 0) := by kernel_rfl
@[simp] theorem un_195 : Try.prog.underlying 195 = some (.int .i32) := by kernel_rfl
@[simp] theorem by_195 : byOf Try.prog 195 = some 4 := by kernel_rfl
@[simp] theorem sz_196 : szOf Try.prog 196 = some 11 := by kernel_rfl
@[simp] theorem ag_196 : aggOf Try.prog 196 = some true := by kernel_rfl
@[simp] theorem zo_196 : zOf Try.prog 196 = some (.agg [.int .u64 0, .int .u64 0, .int .u32 0, .int .u8 0, .int .u8 0, .int .u8 0, .int .u8 0, .nilf, .nilp, .int .i32 0, .int .i32 0]) := by kernel_rfl
@[simp] theorem ft_196 : ftOf Try.prog 196 = some (11, [(12, 0, 1), (12, 1, 1), (172, 2, 1), (190, 3, 1), (5, 4, 1), (5, 5, 1), (191, 6, 1), (192, 7, 1), (193, 8, 1), (194, 9, 1), (195, 10, 1)]) := by kernel_rfl
@[simp] theorem fd_196_0 : fldOf Try.prog 196 0 = some (0, 1, false) := by kernel_rfl
@[simp] theorem fd_196_1 : fldOf Try.prog 196 1 = some (1, 1, false) := by kernel_rfl
@[simp] theorem fd_196_2 : fldOf Try.prog 196 2 = some (2, 1, false) := by kernel_rfl
@[simp] theorem fd_196_3 : fldOf Try.prog 196 3 = some (3, 1, false) := by kernel_rfl
@[simp] theorem fd_196_4 : fldOf Try.prog 196 4 = some (4, 1, false) := by kernel_rfl
@[simp] theorem fd_196_5 : fldOf Try.prog 196 5 = some (5, 1, false) := by kernel_rfl
@[simp] theorem fd_196_6 : fldOf Try.prog 196 6 = some (6, 1, false) := by kernel_rfl
@[simp] theorem fd_196_7 : fldOf Try.prog 196 7 = some (7, 1, false) := by kernel_rfl
@[simp] theorem fd_196_8 : fldOf Try.prog 196 8 = some (8, 1, false) := by kernel_rfl
@[simp] theorem fd_196_9 : fldOf Try.prog 196 9 = some (9, 1, false) := by kernel_rfl
@[simp] theorem fd_196_10 : fldOf Try.prog 196 10 = some (10, 1, false) := by kernel_rfl
@[simp] theorem bd_196 : bldOf Try.prog 196 = some ([(0, 1), (1, 1), (2, 1), (3, 1), (4, 1), (5, 1), (6, 1), (7, 1), (8, 1), (9, 1), (10, 1)], [.int .u64 0, .int .u64 0, .int .u32 0, .int .u8 0, .int .u8 0, .int .u8 0, .int .u8 0, .nilf, .nilp, .int .i32 0, .int .i32 0]) := by kernel_rfl
@[simp] theorem by_196 : byOf Try.prog 196 = some 48 := by kernel_rfl
@[simp] theorem sz_197 : szOf Try.prog 197 = some 11 := by kernel_rfl
@[simp] theorem ag_197 : aggOf Try.prog 197 = some true := by kernel_rfl
@[simp] theorem zo_197 : zOf Try.prog 197 = some (.agg [.int .u64 0, .int .u64 0, .int .u32 0, .int .u8 0, .int .u8 0, .int .u8 0, .int .u8 0, .nilf, .nilp, .int .i32 0, .int .i32 0]) := by kernel_rfl
@[simp] theorem ft_197 : ftOf Try.prog 197 = some (11, [(12, 0, 1), (12, 1, 1), (172, 2, 1), (190, 3, 1), (5, 4, 1), (5, 5, 1), (191, 6, 1), (192, 7, 1), (193, 8, 1), (194, 9, 1), (195, 10, 1)]) := by kernel_rfl
@[simp] theorem fd_197_0 : fldOf Try.prog 197 0 = some (0, 1, false) := by kernel_rfl
@[simp] theorem fd_197_1 : fldOf Try.prog 197 1 = some (1, 1, false) := by kernel_rfl
@[simp] theorem fd_197_2 : fldOf Try.prog 197 2 = some (2, 1, false) := by kernel_rfl
@[simp] theorem fd_197_3 : fldOf Try.prog 197 3 = some (3, 1, false) := by kernel_rfl
@[simp] theorem fd_197_4 : fldOf Try.prog 197 4 = some (4, 1, false) := by kernel_rfl
@[simp] theorem fd_197_5 : fldOf Try.prog 197 5 = some (5, 1, false) := by kernel_rfl
@[simp] theorem fd_197_6 : fldOf Try.prog 197 6 = some (6, 1, false) := by kernel_rfl
@[simp] theorem fd_197_7 : fldOf Try.prog 197 7 = some (7, 1, false) := by kernel_rfl
@[simp] theorem fd_197_8 : fldOf Try.prog 197 8 = some (8, 1, false) := by kernel_rfl
@[simp] theorem fd_197_9 : fldOf Try.prog 197 9 = some (9, 1, false) := by kernel_rfl
@[simp] theorem fd_197_10 : fldOf Try.prog 197 10 = some (10, 1, false) := by kernel_rfl
@[simp] theorem bd_197 : bldOf Try.prog 197 = some ([(0, 1), (1, 1), (2, 1), (3, 1), (4, 1), (5, 1), (6, 1), (7, 1), (8, 1), (9, 1), (10, 1)], [.int .u64 0, .int .u64 0, .int .u32 0, .int .u8 0, .int .u8 0, .int .u8 0, .int .u8 0, .nilf, .nilp, .int .i32 0, .int .i32 0]) := by kernel_rfl
@[simp] theorem by_197 : byOf Try.prog 197 = some 48 := by kernel_rfl
def allS : List Nat := [2, 3, 4, 5, 6, 7, 8, 9, 10, 11, 12, 13, 14, 21, 22, 23, 24, 25, 26, 27, 28, 29, 30, 34, 43, 44, 45, 46, 49, 50, 51, 52, 53, 81, 89, 90, 91, 92, 93, 95, 96, 137, 138, 142, 152, 153, 162, 166, 172, 174, 175, 190, 191, 194, 195]
theorem plain_all : plainS Try.prog allS = true := by kernel_rfl
end Go.Proofs.Ytaahlhhpmooliaa.PL
