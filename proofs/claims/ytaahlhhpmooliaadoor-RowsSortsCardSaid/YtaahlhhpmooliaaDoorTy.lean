/- What the program's types are, as it is asked in the steps. -/
import Derived.Test.YtaahlhhpmooliaaDoorPLd
import Derived.Test.YtaahlhhpmooliaaDoorProg
import Derived.KernelRfl
namespace Go.Proofs.YtaahlhhpmooliaaDoor.PL
open Go.Proofs
theorem mix : Tryd.prog.follows .mixedOrders = true := by kernel_rfl
@[simp] theorem sz_1 : szOf Tryd.prog 1 = some 1 := by kernel_rfl
@[simp] theorem ag_1 : aggOf Tryd.prog 1 = some false := by kernel_rfl
@[simp] theorem zo_1 : zOf Tryd.prog 1 = some (.nilf) := by kernel_rfl
@[simp] theorem by_1 : byOf Tryd.prog 1 = some 8 := by kernel_rfl
@[simp] theorem sz_2 : szOf Tryd.prog 2 = some 1 := by kernel_rfl
@[simp] theorem ag_2 : aggOf Tryd.prog 2 = some false := by kernel_rfl
@[simp] theorem zo_2 : zOf Tryd.prog 2 = some (.int .i64 0) := by kernel_rfl
@[simp] theorem un_2 : Tryd.prog.underlying 2 = some (.int .i64) := by kernel_rfl
@[simp] theorem by_2 : byOf Tryd.prog 2 = some 8 := by kernel_rfl
@[simp] theorem sz_3 : szOf Tryd.prog 3 = some 1 := by kernel_rfl
@[simp] theorem ag_3 : aggOf Tryd.prog 3 = some false := by kernel_rfl
@[simp] theorem zo_3 : zOf Tryd.prog 3 = some (.int .i64 0) := by kernel_rfl
@[simp] theorem un_3 : Tryd.prog.underlying 3 = some (.int .i64) := by kernel_rfl
@[simp] theorem by_3 : byOf Tryd.prog 3 = some 8 := by kernel_rfl
@[simp] theorem sz_4 : szOf Tryd.prog 4 = some 1 := by kernel_rfl
@[simp] theorem ag_4 : aggOf Tryd.prog 4 = some false := by kernel_rfl
@[simp] theorem zo_4 : zOf Tryd.prog 4 = some (.bool false) := by kernel_rfl
@[simp] theorem un_4 : Tryd.prog.underlying 4 = some (.bool) := by kernel_rfl
@[simp] theorem by_4 : byOf Tryd.prog 4 = some 1 := by kernel_rfl
@[simp] theorem sz_5 : szOf Tryd.prog 5 = some 1 := by kernel_rfl
@[simp] theorem ag_5 : aggOf Tryd.prog 5 = some false := by kernel_rfl
@[simp] theorem zo_5 : zOf Tryd.prog 5 = some (.int .u8 0) := by kernel_rfl
@[simp] theorem un_5 : Tryd.prog.underlying 5 = some (.int .u8) := by kernel_rfl
@[simp] theorem by_5 : byOf Tryd.prog 5 = some 1 := by kernel_rfl
@[simp] theorem sz_6 : szOf Tryd.prog 6 = some 1 := by kernel_rfl
@[simp] theorem ag_6 : aggOf Tryd.prog 6 = some false := by kernel_rfl
@[simp] theorem zo_6 : zOf Tryd.prog 6 = some (.int .u8 0) := by kernel_rfl
@[simp] theorem un_6 : Tryd.prog.underlying 6 = some (.int .u8) := by kernel_rfl
@[simp] theorem by_6 : byOf Tryd.prog 6 = some 1 := by kernel_rfl
@[simp] theorem sz_7 : szOf Tryd.prog 7 = some 4 := by kernel_rfl
@[simp] theorem ag_7 : aggOf Tryd.prog 7 = some true := by kernel_rfl
@[simp] theorem zo_7 : zOf Tryd.prog 7 = some (.agg [.int .i64 0, .int .i64 0, .bool false, .int .u8 0]) := by kernel_rfl
@[simp] theorem ft_7 : ftOf Tryd.prog 7 = some (4, [(2, 0, 1), (3, 1, 1), (4, 2, 1), (6, 3, 1)]) := by kernel_rfl
@[simp] theorem fd_7_0 : fldOf Tryd.prog 7 0 = some (0, 1, false) := by kernel_rfl
@[simp] theorem fd_7_1 : fldOf Tryd.prog 7 1 = some (1, 1, false) := by kernel_rfl
@[simp] theorem fd_7_2 : fldOf Tryd.prog 7 2 = some (2, 1, false) := by kernel_rfl
@[simp] theorem fd_7_3 : fldOf Tryd.prog 7 3 = some (3, 1, false) := by kernel_rfl
@[simp] theorem bd_7 : bldOf Tryd.prog 7 = some ([(0, 1), (1, 1), (2, 1), (3, 1)], [.int .i64 0, .int .i64 0, .bool false, .int .u8 0]) := by kernel_rfl
@[simp] theorem by_7 : byOf Tryd.prog 7 = some 24 := by kernel_rfl
@[simp] theorem sz_8 : szOf Tryd.prog 8 = some 4 := by kernel_rfl
@[simp] theorem ag_8 : aggOf Tryd.prog 8 = some true := by kernel_rfl
@[simp] theorem zo_8 : zOf Tryd.prog 8 = some (.agg [.int .i64 0, .int .i64 0, .bool false, .int .u8 0]) := by kernel_rfl
@[simp] theorem ft_8 : ftOf Tryd.prog 8 = some (4, [(2, 0, 1), (3, 1, 1), (4, 2, 1), (6, 3, 1)]) := by kernel_rfl
@[simp] theorem fd_8_0 : fldOf Tryd.prog 8 0 = some (0, 1, false) := by kernel_rfl
@[simp] theorem fd_8_1 : fldOf Tryd.prog 8 1 = some (1, 1, false) := by kernel_rfl
@[simp] theorem fd_8_2 : fldOf Tryd.prog 8 2 = some (2, 1, false) := by kernel_rfl
@[simp] theorem fd_8_3 : fldOf Tryd.prog 8 3 = some (3, 1, false) := by kernel_rfl
@[simp] theorem bd_8 : bldOf Tryd.prog 8 = some ([(0, 1), (1, 1), (2, 1), (3, 1)], [.int .i64 0, .int .i64 0, .bool false, .int .u8 0]) := by kernel_rfl
@[simp] theorem by_8 : byOf Tryd.prog 8 = some 24 := by kernel_rfl
@[simp] theorem sz_9 : szOf Tryd.prog 9 = some 1 := by kernel_rfl
@[simp] theorem ag_9 : aggOf Tryd.prog 9 = some false := by kernel_rfl
@[simp] theorem zo_9 : zOf Tryd.prog 9 = some (.str ⟨#[]⟩) := by kernel_rfl
@[simp] theorem un_9 : Tryd.prog.underlying 9 = some (.string) := by kernel_rfl
@[simp] theorem by_9 : byOf Tryd.prog 9 = some 16 := by kernel_rfl
@[simp] theorem sz_10 : szOf Tryd.prog 10 = some 1 := by kernel_rfl
@[simp] theorem ag_10 : aggOf Tryd.prog 10 = some false := by kernel_rfl
@[simp] theorem zo_10 : zOf Tryd.prog 10 = some (.str ⟨#[]⟩) := by kernel_rfl
@[simp] theorem un_10 : Tryd.prog.underlying 10 = some (.string) := by kernel_rfl
@[simp] theorem by_10 : byOf Tryd.prog 10 = some 16 := by kernel_rfl
@[simp] theorem sz_11 : szOf Tryd.prog 11 = some 1 := by kernel_rfl
@[simp] theorem ag_11 : aggOf Tryd.prog 11 = some false := by kernel_rfl
@[simp] theorem zo_11 : zOf Tryd.prog 11 = some (.str ⟨#[]⟩) := by kernel_rfl
@[simp] theorem un_11 : Tryd.prog.underlying 11 = some (.string) := by kernel_rfl
@[simp] theorem by_11 : byOf Tryd.prog 11 = some 16 := by kernel_rfl
@[simp] theorem sz_12 : szOf Tryd.prog 12 = some 1 := by kernel_rfl
@[simp] theorem ag_12 : aggOf Tryd.prog 12 = some false := by kernel_rfl
@[simp] theorem zo_12 : zOf Tryd.prog 12 = some (.int .u64 0) := by kernel_rfl
@[simp] theorem un_12 : Tryd.prog.underlying 12 = some (.int .u64) := by kernel_rfl
@[simp] theorem by_12 : byOf Tryd.prog 12 = some 8 := by kernel_rfl
@[simp] theorem sz_13 : szOf Tryd.prog 13 = some 2 := by kernel_rfl
@[simp] theorem ag_13 : aggOf Tryd.prog 13 = some true := by kernel_rfl
@[simp] theorem zo_13 : zOf Tryd.prog 13 = some (.agg [.str ⟨#[]⟩, .int .u64 0]) := by kernel_rfl
@[simp] theorem ft_13 : ftOf Tryd.prog 13 = some (2, [(9, 0, 1), (12, 1, 1)]) := by kernel_rfl
@[simp] theorem fd_13_0 : fldOf Tryd.prog 13 0 = some (0, 1, false) := by kernel_rfl
@[simp] theorem fd_13_1 : fldOf Tryd.prog 13 1 = some (1, 1, false) := by kernel_rfl
@[simp] theorem bd_13 : bldOf Tryd.prog 13 = some ([(0, 1), (1, 1)], [.str ⟨#[]⟩, .int .u64 0]) := by kernel_rfl
@[simp] theorem by_13 : byOf Tryd.prog 13 = some 24 := by kernel_rfl
@[simp] theorem sz_14 : szOf Tryd.prog 14 = some 2 := by kernel_rfl
@[simp] theorem ag_14 : aggOf Tryd.prog 14 = some true := by kernel_rfl
@[simp] theorem zo_14 : zOf Tryd.prog 14 = some (.agg [.str ⟨#[]⟩, .int .u64 0]) := by kernel_rfl
@[simp] theorem ft_14 : ftOf Tryd.prog 14 = some (2, [(9, 0, 1), (12, 1, 1)]) := by kernel_rfl
@[simp] theorem fd_14_0 : fldOf Tryd.prog 14 0 = some (0, 1, false) := by kernel_rfl
@[simp] theorem fd_14_1 : fldOf Tryd.prog 14 1 = some (1, 1, false) := by kernel_rfl
@[simp] theorem bd_14 : bldOf Tryd.prog 14 = some ([(0, 1), (1, 1)], [.str ⟨#[]⟩, .int .u64 0]) := by kernel_rfl
@[simp] theorem by_14 : byOf Tryd.prog 14 = some 24 := by kernel_rfl
@[simp] theorem sz_15 : szOf Tryd.prog 15 = some 1 := by kernel_rfl
@[simp] theorem ag_15 : aggOf Tryd.prog 15 = some false := by kernel_rfl
@[simp] theorem zo_15 : zOf Tryd.prog 15 = some (.nilp) := by kernel_rfl
@[simp] theorem un_15 : Tryd.prog.underlying 15 = some (.pointer 126) := by kernel_rfl
@[simp] theorem by_15 : byOf Tryd.prog 15 = some 8 := by kernel_rfl
@[simp] theorem sz_16 : szOf Tryd.prog 16 = some 1 := by kernel_rfl
@[simp] theorem ag_16 : aggOf Tryd.prog 16 = some false := by kernel_rfl
@[simp] theorem zo_16 : zOf Tryd.prog 16 = some (.nilp) := by kernel_rfl
@[simp] theorem un_16 : Tryd.prog.underlying 16 = some (.pointer 129) := by kernel_rfl
@[simp] theorem by_16 : byOf Tryd.prog 16 = some 8 := by kernel_rfl
@[simp] theorem sz_17 : szOf Tryd.prog 17 = some 1 := by kernel_rfl
@[simp] theorem ag_17 : aggOf Tryd.prog 17 = some false := by kernel_rfl
@[simp] theorem zo_17 : zOf Tryd.prog 17 = some (.nilp) := by kernel_rfl
@[simp] theorem un_17 : Tryd.prog.underlying 17 = some (.pointer 138) := by kernel_rfl
@[simp] theorem by_17 : byOf Tryd.prog 17 = some 8 := by kernel_rfl
@[simp] theorem sz_18 : szOf Tryd.prog 18 = some 1 := by kernel_rfl
@[simp] theorem ag_18 : aggOf Tryd.prog 18 = some true := by kernel_rfl
@[simp] theorem zo_18 : zOf Tryd.prog 18 = some (.agg [.nilp]) := by kernel_rfl
@[simp] theorem ft_18 : ftOf Tryd.prog 18 = some (1, [(17, 0, 1)]) := by kernel_rfl
@[simp] theorem fd_18_0 : fldOf Tryd.prog 18 0 = some (0, 1, false) := by kernel_rfl
@[simp] theorem bd_18 : bldOf Tryd.prog 18 = some ([(0, 1)], [.nilp]) := by kernel_rfl
@[simp] theorem by_18 : byOf Tryd.prog 18 = some 8 := by kernel_rfl
@[simp] theorem sz_19 : szOf Tryd.prog 19 = some 1 := by kernel_rfl
@[simp] theorem ag_19 : aggOf Tryd.prog 19 = some true := by kernel_rfl
@[simp] theorem zo_19 : zOf Tryd.prog 19 = some (.agg [.nilp]) := by kernel_rfl
@[simp] theorem ft_19 : ftOf Tryd.prog 19 = some (1, [(17, 0, 1)]) := by kernel_rfl
@[simp] theorem fd_19_0 : fldOf Tryd.prog 19 0 = some (0, 1, false) := by kernel_rfl
@[simp] theorem bd_19 : bldOf Tryd.prog 19 = some ([(0, 1)], [.nilp]) := by kernel_rfl
@[simp] theorem by_19 : byOf Tryd.prog 19 = some 8 := by kernel_rfl
@[simp] theorem sz_21 : szOf Tryd.prog 21 = some 1 := by kernel_rfl
@[simp] theorem ag_21 : aggOf Tryd.prog 21 = some false := by kernel_rfl
@[simp] theorem zo_21 : zOf Tryd.prog 21 = some (.int .i32 0) := by kernel_rfl
@[simp] theorem un_21 : Tryd.prog.underlying 21 = some (.int .i32) := by kernel_rfl
@[simp] theorem by_21 : byOf Tryd.prog 21 = some 4 := by kernel_rfl
@[simp] theorem sz_22 : szOf Tryd.prog 22 = some 1 := by kernel_rfl
@[simp] theorem ag_22 : aggOf Tryd.prog 22 = some false := by kernel_rfl
@[simp] theorem zo_22 : zOf Tryd.prog 22 = some (.sl .exact []) := by kernel_rfl
@[simp] theorem sl_22 : slOf Tryd.prog 22 = some (35, 1) := by kernel_rfl
@[simp] theorem li_22 : litOf Tryd.prog 22 = some (false, 1, [.sl .exact []]) := by kernel_rfl
@[simp] theorem un_22 : Tryd.prog.underlying 22 = some (.slice 35) := by kernel_rfl
@[simp] theorem by_22 : byOf Tryd.prog 22 = some 24 := by kernel_rfl
@[simp] theorem sz_23 : szOf Tryd.prog 23 = some 1 := by kernel_rfl
@[simp] theorem ag_23 : aggOf Tryd.prog 23 = some false := by kernel_rfl
@[simp] theorem zo_23 : zOf Tryd.prog 23 = some (.sl .exact []) := by kernel_rfl
@[simp] theorem sl_23 : slOf Tryd.prog 23 = some (29, 9) := by kernel_rfl
@[simp] theorem li_23 : litOf Tryd.prog 23 = some (true, 9, [.int .i64 0, .str ⟨#[]⟩, .str ⟨#[]⟩, .int .i64 0, .int .i64 0, .int .i64 0, .int .i64 0, .str ⟨#[]⟩, .sl .exact []]) := by kernel_rfl
@[simp] theorem un_23 : Tryd.prog.underlying 23 = some (.slice 29) := by kernel_rfl
@[simp] theorem by_23 : byOf Tryd.prog 23 = some 24 := by kernel_rfl
@[simp] theorem sz_24 : szOf Tryd.prog 24 = some 1 := by kernel_rfl
@[simp] theorem ag_24 : aggOf Tryd.prog 24 = some false := by kernel_rfl
@[simp] theorem zo_24 : zOf Tryd.prog 24 = some (.nilf) := by kernel_rfl
@[simp] theorem by_24 : byOf Tryd.prog 24 = some 8 := by kernel_rfl
@[simp] theorem sz_25 : szOf Tryd.prog 25 = some 1 := by kernel_rfl
@[simp] theorem ag_25 : aggOf Tryd.prog 25 = some false := by kernel_rfl
@[simp] theorem zo_25 : zOf Tryd.prog 25 = some (.sl .exact []) := by kernel_rfl
@[simp] theorem sl_25 : slOf Tryd.prog 25 = some (57, 12) := by kernel_rfl
@[simp] theorem li_25 : litOf Tryd.prog 25 = some (true, 12, [.int .i64 0, .str ⟨#[]⟩, .str ⟨#[]⟩, .int .i64 0, .str ⟨#[]⟩, .str ⟨#[]⟩, .int .i64 0, .int .i64 0, .int .i64 0, .int .i64 0, .str ⟨#[]⟩, .sl .exact []]) := by kernel_rfl
@[simp] theorem un_25 : Tryd.prog.underlying 25 = some (.slice 57) := by kernel_rfl
@[simp] theorem by_25 : byOf Tryd.prog 25 = some 24 := by kernel_rfl
@[simp] theorem sz_26 : szOf Tryd.prog 26 = some 3 := by kernel_rfl
@[simp] theorem ag_26 : aggOf Tryd.prog 26 = some true := by kernel_rfl
@[simp] theorem zo_26 : zOf Tryd.prog 26 = some (.agg [.int .i64 0, .int .i64 0, .str ⟨#[]⟩]) := by kernel_rfl
@[simp] theorem ft_26 : ftOf Tryd.prog 26 = some (3, [(3, 0, 1), (3, 1, 1), (9, 2, 1)]) := by kernel_rfl
@[simp] theorem fd_26_0 : fldOf Tryd.prog 26 0 = some (0, 1, false) := by kernel_rfl
@[simp] theorem fd_26_1 : fldOf Tryd.prog 26 1 = some (1, 1, false) := by kernel_rfl
@[simp] theorem fd_26_2 : fldOf Tryd.prog 26 2 = some (2, 1, false) := by kernel_rfl
@[simp] theorem bd_26 : bldOf Tryd.prog 26 = some ([(0, 1), (1, 1), (2, 1)], [.int .i64 0, .int .i64 0, .str ⟨#[]⟩]) := by kernel_rfl
@[simp] theorem by_26 : byOf Tryd.prog 26 = some 32 := by kernel_rfl
@[simp] theorem sz_27 : szOf Tryd.prog 27 = some 3 := by kernel_rfl
@[simp] theorem ag_27 : aggOf Tryd.prog 27 = some true := by kernel_rfl
@[simp] theorem zo_27 : zOf Tryd.prog 27 = some (.agg [.int .i64 0, .int .i64 0, .str ⟨#[]⟩]) := by kernel_rfl
@[simp] theorem ft_27 : ftOf Tryd.prog 27 = some (3, [(3, 0, 1), (3, 1, 1), (9, 2, 1)]) := by kernel_rfl
@[simp] theorem fd_27_0 : fldOf Tryd.prog 27 0 = some (0, 1, false) := by kernel_rfl
@[simp] theorem fd_27_1 : fldOf Tryd.prog 27 1 = some (1, 1, false) := by kernel_rfl
@[simp] theorem fd_27_2 : fldOf Tryd.prog 27 2 = some (2, 1, false) := by kernel_rfl
@[simp] theorem bd_27 : bldOf Tryd.prog 27 = some ([(0, 1), (1, 1), (2, 1)], [.int .i64 0, .int .i64 0, .str ⟨#[]⟩]) := by kernel_rfl
@[simp] theorem eqt_27 {a0 b0 : Int} {a1 b1 : Int} {a2 b2 : ByteArray} : EqT Tryd.prog 27 [.int .i64 a0, .int .i64 a1, .str a2] [.int .i64 b0, .int .i64 b1, .str b2] = True := eq_true (EqT.flat [.int, .int, .str] (by kernel_rfl) rfl rfl (by simp [kindsFit]))
@[simp] theorem by_27 : byOf Tryd.prog 27 = some 32 := by kernel_rfl
@[simp] theorem sz_28 : szOf Tryd.prog 28 = some 9 := by kernel_rfl
@[simp] theorem ag_28 : aggOf Tryd.prog 28 = some true := by kernel_rfl
@[simp] theorem zo_28 : zOf Tryd.prog 28 = some (.agg [.int .i64 0, .str ⟨#[]⟩, .str ⟨#[]⟩, .int .i64 0, .int .i64 0, .int .i64 0, .int .i64 0, .str ⟨#[]⟩, .sl .exact []]) := by kernel_rfl
@[simp] theorem ft_28 : ftOf Tryd.prog 28 = some (9, [(3, 0, 1), (9, 1, 1), (9, 2, 1), (3, 3, 1), (3, 4, 1), (27, 5, 3), (23, 8, 1)]) := by kernel_rfl
@[simp] theorem fd_28_0 : fldOf Tryd.prog 28 0 = some (0, 1, false) := by kernel_rfl
@[simp] theorem fd_28_1 : fldOf Tryd.prog 28 1 = some (1, 1, false) := by kernel_rfl
@[simp] theorem fd_28_2 : fldOf Tryd.prog 28 2 = some (2, 1, false) := by kernel_rfl
@[simp] theorem fd_28_3 : fldOf Tryd.prog 28 3 = some (3, 1, false) := by kernel_rfl
@[simp] theorem fd_28_4 : fldOf Tryd.prog 28 4 = some (4, 1, false) := by kernel_rfl
@[simp] theorem fd_28_5 : fldOf Tryd.prog 28 5 = some (5, 3, true) := by kernel_rfl
@[simp] theorem fd_28_6 : fldOf Tryd.prog 28 6 = some (8, 1, false) := by kernel_rfl
@[simp] theorem bd_28 : bldOf Tryd.prog 28 = some ([(0, 1), (1, 1), (2, 1), (3, 1), (4, 1), (5, 3), (8, 1)], [.int .i64 0, .str ⟨#[]⟩, .str ⟨#[]⟩, .int .i64 0, .int .i64 0, .int .i64 0, .int .i64 0, .str ⟨#[]⟩, .sl .exact []]) := by kernel_rfl
@[simp] theorem by_28 : byOf Tryd.prog 28 = some 112 := by kernel_rfl
@[simp] theorem sz_29 : szOf Tryd.prog 29 = some 9 := by kernel_rfl
@[simp] theorem ag_29 : aggOf Tryd.prog 29 = some true := by kernel_rfl
@[simp] theorem zo_29 : zOf Tryd.prog 29 = some (.agg [.int .i64 0, .str ⟨#[]⟩, .str ⟨#[]⟩, .int .i64 0, .int .i64 0, .int .i64 0, .int .i64 0, .str ⟨#[]⟩, .sl .exact []]) := by kernel_rfl
@[simp] theorem ft_29 : ftOf Tryd.prog 29 = some (9, [(3, 0, 1), (9, 1, 1), (9, 2, 1), (3, 3, 1), (3, 4, 1), (27, 5, 3), (23, 8, 1)]) := by kernel_rfl
@[simp] theorem fd_29_0 : fldOf Tryd.prog 29 0 = some (0, 1, false) := by kernel_rfl
@[simp] theorem fd_29_1 : fldOf Tryd.prog 29 1 = some (1, 1, false) := by kernel_rfl
@[simp] theorem fd_29_2 : fldOf Tryd.prog 29 2 = some (2, 1, false) := by kernel_rfl
@[simp] theorem fd_29_3 : fldOf Tryd.prog 29 3 = some (3, 1, false) := by kernel_rfl
@[simp] theorem fd_29_4 : fldOf Tryd.prog 29 4 = some (4, 1, false) := by kernel_rfl
@[simp] theorem fd_29_5 : fldOf Tryd.prog 29 5 = some (5, 3, true) := by kernel_rfl
@[simp] theorem fd_29_6 : fldOf Tryd.prog 29 6 = some (8, 1, false) := by kernel_rfl
@[simp] theorem bd_29 : bldOf Tryd.prog 29 = some ([(0, 1), (1, 1), (2, 1), (3, 1), (4, 1), (5, 3), (8, 1)], [.int .i64 0, .str ⟨#[]⟩, .str ⟨#[]⟩, .int .i64 0, .int .i64 0, .int .i64 0, .int .i64 0, .str ⟨#[]⟩, .sl .exact []]) := by kernel_rfl
@[simp] theorem by_29 : byOf Tryd.prog 29 = some 112 := by kernel_rfl
@[simp] theorem sz_30 : szOf Tryd.prog 30 = some 12 := by kernel_rfl
@[simp] theorem ag_30 : aggOf Tryd.prog 30 = some true := by kernel_rfl
@[simp] theorem zo_30 : zOf Tryd.prog 30 = some (.agg [.sl .exact [], .sl .exact [], .int .i64 0, .str ⟨#[]⟩, .str ⟨#[]⟩, .int .i64 0, .int .i64 0, .int .i64 0, .int .i64 0, .str ⟨#[]⟩, .sl .exact [], .sl .exact []]) := by kernel_rfl
@[simp] theorem ft_30 : ftOf Tryd.prog 30 = some (12, [(23, 0, 1), (25, 1, 1), (29, 2, 9), (23, 11, 1)]) := by kernel_rfl
@[simp] theorem fd_30_0 : fldOf Tryd.prog 30 0 = some (0, 1, false) := by kernel_rfl
@[simp] theorem fd_30_1 : fldOf Tryd.prog 30 1 = some (1, 1, false) := by kernel_rfl
@[simp] theorem fd_30_2 : fldOf Tryd.prog 30 2 = some (2, 9, true) := by kernel_rfl
@[simp] theorem fd_30_3 : fldOf Tryd.prog 30 3 = some (11, 1, false) := by kernel_rfl
@[simp] theorem bd_30 : bldOf Tryd.prog 30 = some ([(0, 1), (1, 1), (2, 9), (11, 1)], [.sl .exact [], .sl .exact [], .int .i64 0, .str ⟨#[]⟩, .str ⟨#[]⟩, .int .i64 0, .int .i64 0, .int .i64 0, .int .i64 0, .str ⟨#[]⟩, .sl .exact [], .sl .exact []]) := by kernel_rfl
@[simp] theorem by_30 : byOf Tryd.prog 30 = some 184 := by kernel_rfl
@[simp] theorem sz_31 : szOf Tryd.prog 31 = some 12 := by kernel_rfl
@[simp] theorem ag_31 : aggOf Tryd.prog 31 = some true := by kernel_rfl
@[simp] theorem zo_31 : zOf Tryd.prog 31 = some (.agg [.sl .exact [], .sl .exact [], .int .i64 0, .str ⟨#[]⟩, .str ⟨#[]⟩, .int .i64 0, .int .i64 0, .int .i64 0, .int .i64 0, .str ⟨#[]⟩, .sl .exact [], .sl .exact []]) := by kernel_rfl
@[simp] theorem ft_31 : ftOf Tryd.prog 31 = some (12, [(23, 0, 1), (25, 1, 1), (29, 2, 9), (23, 11, 1)]) := by kernel_rfl
@[simp] theorem fd_31_0 : fldOf Tryd.prog 31 0 = some (0, 1, false) := by kernel_rfl
@[simp] theorem fd_31_1 : fldOf Tryd.prog 31 1 = some (1, 1, false) := by kernel_rfl
@[simp] theorem fd_31_2 : fldOf Tryd.prog 31 2 = some (2, 9, true) := by kernel_rfl
@[simp] theorem fd_31_3 : fldOf Tryd.prog 31 3 = some (11, 1, false) := by kernel_rfl
@[simp] theorem bd_31 : bldOf Tryd.prog 31 = some ([(0, 1), (1, 1), (2, 9), (11, 1)], [.sl .exact [], .sl .exact [], .int .i64 0, .str ⟨#[]⟩, .str ⟨#[]⟩, .int .i64 0, .int .i64 0, .int .i64 0, .int .i64 0, .str ⟨#[]⟩, .sl .exact [], .sl .exact []]) := by kernel_rfl
@[simp] theorem by_31 : byOf Tryd.prog 31 = some 184 := by kernel_rfl
@[simp] theorem sz_32 : szOf Tryd.prog 32 = some 1 := by kernel_rfl
@[simp] theorem ag_32 : aggOf Tryd.prog 32 = some false := by kernel_rfl
@[simp] theorem zo_32 : zOf Tryd.prog 32 = some (.nilf) := by kernel_rfl
@[simp] theorem by_32 : byOf Tryd.prog 32 = some 8 := by kernel_rfl
@[simp] theorem sz_33 : szOf Tryd.prog 33 = some 1 := by kernel_rfl
@[simp] theorem ag_33 : aggOf Tryd.prog 33 = some false := by kernel_rfl
@[simp] theorem zo_33 : zOf Tryd.prog 33 = some (.nilf) := by kernel_rfl
@[simp] theorem by_33 : byOf Tryd.prog 33 = some 8 := by kernel_rfl
@[simp] theorem sz_34 : szOf Tryd.prog 34 = some 1 := by kernel_rfl
@[simp] theorem ag_34 : aggOf Tryd.prog 34 = some false := by kernel_rfl
@[simp] theorem zo_34 : zOf Tryd.prog 34 = some (.nilf) := by kernel_rfl
@[simp] theorem by_34 : byOf Tryd.prog 34 = some 8 := by kernel_rfl
@[simp] theorem sz_35 : szOf Tryd.prog 35 = some 1 := by kernel_rfl
@[simp] theorem ag_35 : aggOf Tryd.prog 35 = some false := by kernel_rfl
@[simp] theorem zo_35 : zOf Tryd.prog 35 = some (.sl .exact []) := by kernel_rfl
@[simp] theorem sl_35 : slOf Tryd.prog 35 = some (40, 1) := by kernel_rfl
@[simp] theorem li_35 : litOf Tryd.prog 35 = some (false, 1, [.sl .exact []]) := by kernel_rfl
@[simp] theorem un_35 : Tryd.prog.underlying 35 = some (.slice 40) := by kernel_rfl
@[simp] theorem by_35 : byOf Tryd.prog 35 = some 24 := by kernel_rfl
@[simp] theorem sz_36 : szOf Tryd.prog 36 = some 1 := by kernel_rfl
@[simp] theorem ag_36 : aggOf Tryd.prog 36 = some false := by kernel_rfl
@[simp] theorem zo_36 : zOf Tryd.prog 36 = some (.sl .exact []) := by kernel_rfl
@[simp] theorem sl_36 : slOf Tryd.prog 36 = some (38, 1) := by kernel_rfl
@[simp] theorem li_36 : litOf Tryd.prog 36 = some (false, 1, [.sl .exact []]) := by kernel_rfl
@[simp] theorem un_36 : Tryd.prog.underlying 36 = some (.slice 38) := by kernel_rfl
@[simp] theorem by_36 : byOf Tryd.prog 36 = some 24 := by kernel_rfl
@[simp] theorem sz_37 : szOf Tryd.prog 37 = some 1 := by kernel_rfl
@[simp] theorem ag_37 : aggOf Tryd.prog 37 = some false := by kernel_rfl
@[simp] theorem zo_37 : zOf Tryd.prog 37 = some (.nilf) := by kernel_rfl
@[simp] theorem by_37 : byOf Tryd.prog 37 = some 8 := by kernel_rfl
@[simp] theorem sz_38 : szOf Tryd.prog 38 = some 1 := by kernel_rfl
@[simp] theorem ag_38 : aggOf Tryd.prog 38 = some false := by kernel_rfl
@[simp] theorem zo_38 : zOf Tryd.prog 38 = some (.sl .exact []) := by kernel_rfl
@[simp] theorem sl_38 : slOf Tryd.prog 38 = some (3, 1) := by kernel_rfl
@[simp] theorem li_38 : litOf Tryd.prog 38 = some (false, 1, [.int .i64 0]) := by kernel_rfl
@[simp] theorem un_38 : Tryd.prog.underlying 38 = some (.slice 3) := by kernel_rfl
@[simp] theorem by_38 : byOf Tryd.prog 38 = some 24 := by kernel_rfl
@[simp] theorem sz_39 : szOf Tryd.prog 39 = some 1 := by kernel_rfl
@[simp] theorem ag_39 : aggOf Tryd.prog 39 = some false := by kernel_rfl
@[simp] theorem zo_39 : zOf Tryd.prog 39 = some (.nilf) := by kernel_rfl
@[simp] theorem by_39 : byOf Tryd.prog 39 = some 8 := by kernel_rfl
@[simp] theorem sz_40 : szOf Tryd.prog 40 = some 1 := by kernel_rfl
@[simp] theorem ag_40 : aggOf Tryd.prog 40 = some false := by kernel_rfl
@[simp] theorem zo_40 : zOf Tryd.prog 40 = some (.sl .exact []) := by kernel_rfl
@[simp] theorem sl_40 : slOf Tryd.prog 40 = some (27, 3) := by kernel_rfl
@[simp] theorem li_40 : litOf Tryd.prog 40 = some (true, 3, [.int .i64 0, .int .i64 0, .str ⟨#[]⟩]) := by kernel_rfl
@[simp] theorem un_40 : Tryd.prog.underlying 40 = some (.slice 27) := by kernel_rfl
@[simp] theorem by_40 : byOf Tryd.prog 40 = some 24 := by kernel_rfl
@[simp] theorem sz_41 : szOf Tryd.prog 41 = some 1 := by kernel_rfl
@[simp] theorem ag_41 : aggOf Tryd.prog 41 = some false := by kernel_rfl
@[simp] theorem zo_41 : zOf Tryd.prog 41 = some (.int .i16 0) := by kernel_rfl
@[simp] theorem un_41 : Tryd.prog.underlying 41 = some (.int .i16) := by kernel_rfl
@[simp] theorem by_41 : byOf Tryd.prog 41 = some 2 := by kernel_rfl
@[simp] theorem sz_42 : szOf Tryd.prog 42 = some 1 := by kernel_rfl
@[simp] theorem ag_42 : aggOf Tryd.prog 42 = some false := by kernel_rfl
@[simp] theorem zo_42 : zOf Tryd.prog 42 = some (.nilf) := by kernel_rfl
@[simp] theorem by_42 : byOf Tryd.prog 42 = some 8 := by kernel_rfl
@[simp] theorem sz_43 : szOf Tryd.prog 43 = some 1 := by kernel_rfl
@[simp] theorem ag_43 : aggOf Tryd.prog 43 = some false := by kernel_rfl
@[simp] theorem zo_43 : zOf Tryd.prog 43 = some (.nilf) := by kernel_rfl
@[simp] theorem by_43 : byOf Tryd.prog 43 = some 8 := by kernel_rfl
@[simp] theorem sz_44 : szOf Tryd.prog 44 = some 1 := by kernel_rfl
@[simp] theorem ag_44 : aggOf Tryd.prog 44 = some false := by kernel_rfl
@[simp] theorem zo_44 : zOf Tryd.prog 44 = some (.nilf) := by kernel_rfl
@[simp] theorem by_44 : byOf Tryd.prog 44 = some 8 := by kernel_rfl
@[simp] theorem sz_45 : szOf Tryd.prog 45 = some 1 := by kernel_rfl
@[simp] theorem ag_45 : aggOf Tryd.prog 45 = some false := by kernel_rfl
@[simp] theorem zo_45 : zOf Tryd.prog 45 = some (.nilf) := by kernel_rfl
@[simp] theorem by_45 : byOf Tryd.prog 45 = some 8 := by kernel_rfl
@[simp] theorem sz_46 : szOf Tryd.prog 46 = some 1 := by kernel_rfl
@[simp] theorem ag_46 : aggOf Tryd.prog 46 = some false := by kernel_rfl
@[simp] theorem zo_46 : zOf Tryd.prog 46 = some (.nilf) := by kernel_rfl
@[simp] theorem by_46 : byOf Tryd.prog 46 = some 8 := by kernel_rfl
@[simp] theorem sz_47 : szOf Tryd.prog 47 = some 1 := by kernel_rfl
@[simp] theorem ag_47 : aggOf Tryd.prog 47 = some false := by kernel_rfl
@[simp] theorem zo_47 : zOf Tryd.prog 47 = some (.nilf) := by kernel_rfl
@[simp] theorem by_47 : byOf Tryd.prog 47 = some 8 := by kernel_rfl
@[simp] theorem sz_48 : szOf Tryd.prog 48 = some 1 := by kernel_rfl
@[simp] theorem ag_48 : aggOf Tryd.prog 48 = some false := by kernel_rfl
@[simp] theorem zo_48 : zOf Tryd.prog 48 = some (.nilf) := by kernel_rfl
@[simp] theorem by_48 : byOf Tryd.prog 48 = some 8 := by kernel_rfl
@[simp] theorem sz_49 : szOf Tryd.prog 49 = some 1 := by kernel_rfl
@[simp] theorem ag_49 : aggOf Tryd.prog 49 = some false := by kernel_rfl
@[simp] theorem zo_49 : zOf Tryd.prog 49 = some (.nilf) := by kernel_rfl
@[simp] theorem by_49 : byOf Tryd.prog 49 = some 8 := by kernel_rfl
@[simp] theorem sz_50 : szOf Tryd.prog 50 = some 1 := by kernel_rfl
@[simp] theorem ag_50 : aggOf Tryd.prog 50 = some false := by kernel_rfl
@[simp] theorem zo_50 : zOf Tryd.prog 50 = some (.nilf) := by kernel_rfl
@[simp] theorem by_50 : byOf Tryd.prog 50 = some 8 := by kernel_rfl
@[simp] theorem sz_51 : szOf Tryd.prog 51 = some 1 := by kernel_rfl
@[simp] theorem ag_51 : aggOf Tryd.prog 51 = some false := by kernel_rfl
@[simp] theorem zo_51 : zOf Tryd.prog 51 = some (.nilf) := by kernel_rfl
@[simp] theorem by_51 : byOf Tryd.prog 51 = some 8 := by kernel_rfl
@[simp] theorem sz_52 : szOf Tryd.prog 52 = some 1 := by kernel_rfl
@[simp] theorem ag_52 : aggOf Tryd.prog 52 = some false := by kernel_rfl
@[simp] theorem zo_52 : zOf Tryd.prog 52 = some (.nilf) := by kernel_rfl
@[simp] theorem by_52 : byOf Tryd.prog 52 = some 8 := by kernel_rfl
@[simp] theorem sz_53 : szOf Tryd.prog 53 = some 1 := by kernel_rfl
@[simp] theorem ag_53 : aggOf Tryd.prog 53 = some false := by kernel_rfl
@[simp] theorem zo_53 : zOf Tryd.prog 53 = some (.nilf) := by kernel_rfl
@[simp] theorem by_53 : byOf Tryd.prog 53 = some 8 := by kernel_rfl
@[simp] theorem sz_54 : szOf Tryd.prog 54 = some 1 := by kernel_rfl
@[simp] theorem ag_54 : aggOf Tryd.prog 54 = some false := by kernel_rfl
@[simp] theorem zo_54 : zOf Tryd.prog 54 = some (.nilf) := by kernel_rfl
@[simp] theorem by_54 : byOf Tryd.prog 54 = some 8 := by kernel_rfl
@[simp] theorem sz_55 : szOf Tryd.prog 55 = some 1 := by kernel_rfl
@[simp] theorem ag_55 : aggOf Tryd.prog 55 = some false := by kernel_rfl
@[simp] theorem zo_55 : zOf Tryd.prog 55 = some (.nilf) := by kernel_rfl
@[simp] theorem by_55 : byOf Tryd.prog 55 = some 8 := by kernel_rfl
@[simp] theorem sz_56 : szOf Tryd.prog 56 = some 12 := by kernel_rfl
@[simp] theorem ag_56 : aggOf Tryd.prog 56 = some true := by kernel_rfl
@[simp] theorem zo_56 : zOf Tryd.prog 56 = some (.agg [.int .i64 0, .str ⟨#[]⟩, .str ⟨#[]⟩, .int .i64 0, .str ⟨#[]⟩, .str ⟨#[]⟩, .int .i64 0, .int .i64 0, .int .i64 0, .int .i64 0, .str ⟨#[]⟩, .sl .exact []]) := by kernel_rfl
@[simp] theorem ft_56 : ftOf Tryd.prog 56 = some (12, [(3, 0, 1), (9, 1, 1), (9, 2, 1), (29, 3, 9)]) := by kernel_rfl
@[simp] theorem fd_56_0 : fldOf Tryd.prog 56 0 = some (0, 1, false) := by kernel_rfl
@[simp] theorem fd_56_1 : fldOf Tryd.prog 56 1 = some (1, 1, false) := by kernel_rfl
@[simp] theorem fd_56_2 : fldOf Tryd.prog 56 2 = some (2, 1, false) := by kernel_rfl
@[simp] theorem fd_56_3 : fldOf Tryd.prog 56 3 = some (3, 9, true) := by kernel_rfl
@[simp] theorem bd_56 : bldOf Tryd.prog 56 = some ([(0, 1), (1, 1), (2, 1), (3, 9)], [.int .i64 0, .str ⟨#[]⟩, .str ⟨#[]⟩, .int .i64 0, .str ⟨#[]⟩, .str ⟨#[]⟩, .int .i64 0, .int .i64 0, .int .i64 0, .int .i64 0, .str ⟨#[]⟩, .sl .exact []]) := by kernel_rfl
@[simp] theorem by_56 : byOf Tryd.prog 56 = some 152 := by kernel_rfl
@[simp] theorem sz_57 : szOf Tryd.prog 57 = some 12 := by kernel_rfl
@[simp] theorem ag_57 : aggOf Tryd.prog 57 = some true := by kernel_rfl
@[simp] theorem zo_57 : zOf Tryd.prog 57 = some (.agg [.int .i64 0, .str ⟨#[]⟩, .str ⟨#[]⟩, .int .i64 0, .str ⟨#[]⟩, .str ⟨#[]⟩, .int .i64 0, .int .i64 0, .int .i64 0, .int .i64 0, .str ⟨#[]⟩, .sl .exact []]) := by kernel_rfl
@[simp] theorem ft_57 : ftOf Tryd.prog 57 = some (12, [(3, 0, 1), (9, 1, 1), (9, 2, 1), (29, 3, 9)]) := by kernel_rfl
@[simp] theorem fd_57_0 : fldOf Tryd.prog 57 0 = some (0, 1, false) := by kernel_rfl
@[simp] theorem fd_57_1 : fldOf Tryd.prog 57 1 = some (1, 1, false) := by kernel_rfl
@[simp] theorem fd_57_2 : fldOf Tryd.prog 57 2 = some (2, 1, false) := by kernel_rfl
@[simp] theorem fd_57_3 : fldOf Tryd.prog 57 3 = some (3, 9, true) := by kernel_rfl
@[simp] theorem bd_57 : bldOf Tryd.prog 57 = some ([(0, 1), (1, 1), (2, 1), (3, 9)], [.int .i64 0, .str ⟨#[]⟩, .str ⟨#[]⟩, .int .i64 0, .str ⟨#[]⟩, .str ⟨#[]⟩, .int .i64 0, .int .i64 0, .int .i64 0, .int .i64 0, .str ⟨#[]⟩, .sl .exact []]) := by kernel_rfl
@[simp] theorem by_57 : byOf Tryd.prog 57 = some 152 := by kernel_rfl
@[simp] theorem sz_58 : szOf Tryd.prog 58 = some 1 := by kernel_rfl
@[simp] theorem ag_58 : aggOf Tryd.prog 58 = some false := by kernel_rfl
@[simp] theorem zo_58 : zOf Tryd.prog 58 = some (.int .i64 0) := by kernel_rfl
@[simp] theorem un_58 : Tryd.prog.underlying 58 = some (.int .i64) := by kernel_rfl
@[simp] theorem by_58 : byOf Tryd.prog 58 = some 8 := by kernel_rfl
@[simp] theorem sz_60 : szOf Tryd.prog 60 = some 1 := by kernel_rfl
@[simp] theorem ag_60 : aggOf Tryd.prog 60 = some false := by kernel_rfl
@[simp] theorem zo_60 : zOf Tryd.prog 60 = some (.nilf) := by kernel_rfl
@[simp] theorem by_60 : byOf Tryd.prog 60 = some 8 := by kernel_rfl
@[simp] theorem sz_61 : szOf Tryd.prog 61 = some 1 := by kernel_rfl
@[simp] theorem ag_61 : aggOf Tryd.prog 61 = some false := by kernel_rfl
@[simp] theorem zo_61 : zOf Tryd.prog 61 = some (.nilf) := by kernel_rfl
@[simp] theorem by_61 : byOf Tryd.prog 61 = some 8 := by kernel_rfl
@[simp] theorem sz_62 : szOf Tryd.prog 62 = some 1 := by kernel_rfl
@[simp] theorem ag_62 : aggOf Tryd.prog 62 = some false := by kernel_rfl
@[simp] theorem zo_62 : zOf Tryd.prog 62 = some (.nilm) := by kernel_rfl
@[simp] theorem un_62 : Tryd.prog.underlying 62 = some (.map 9 3) := by kernel_rfl
@[simp] theorem mp_62 : mapOf Tryd.prog 62 = some (9, .int .i64 0) := by kernel_rfl
@[simp] theorem by_62 : byOf Tryd.prog 62 = some 8 := by kernel_rfl
@[simp] theorem sz_63 : szOf Tryd.prog 63 = some 1 := by kernel_rfl
@[simp] theorem ag_63 : aggOf Tryd.prog 63 = some false := by kernel_rfl
@[simp] theorem zo_63 : zOf Tryd.prog 63 = some (.nilf) := by kernel_rfl
@[simp] theorem by_63 : byOf Tryd.prog 63 = some 8 := by kernel_rfl
@[simp] theorem sz_65 : szOf Tryd.prog 65 = some 1 := by kernel_rfl
@[simp] theorem ag_65 : aggOf Tryd.prog 65 = some false := by kernel_rfl
@[simp] theorem zo_65 : zOf Tryd.prog 65 = some (.nilf) := by kernel_rfl
@[simp] theorem by_65 : byOf Tryd.prog 65 = some 8 := by kernel_rfl
@[simp] theorem sz_66 : szOf Tryd.prog 66 = some 1 := by kernel_rfl
@[simp] theorem ag_66 : aggOf Tryd.prog 66 = some false := by kernel_rfl
@[simp] theorem zo_66 : zOf Tryd.prog 66 = some (.nilf) := by kernel_rfl
@[simp] theorem by_66 : byOf Tryd.prog 66 = some 8 := by kernel_rfl
@[simp] theorem sz_67 : szOf Tryd.prog 67 = some 1 := by kernel_rfl
@[simp] theorem ag_67 : aggOf Tryd.prog 67 = some false := by kernel_rfl
@[simp] theorem zo_67 : zOf Tryd.prog 67 = some (.nilf) := by kernel_rfl
@[simp] theorem by_67 : byOf Tryd.prog 67 = some 8 := by kernel_rfl
@[simp] theorem sz_68 : szOf Tryd.prog 68 = some 1 := by kernel_rfl
@[simp] theorem ag_68 : aggOf Tryd.prog 68 = some false := by kernel_rfl
@[simp] theorem zo_68 : zOf Tryd.prog 68 = some (.nilf) := by kernel_rfl
@[simp] theorem by_68 : byOf Tryd.prog 68 = some 8 := by kernel_rfl
@[simp] theorem sz_69 : szOf Tryd.prog 69 = some 1 := by kernel_rfl
@[simp] theorem ag_69 : aggOf Tryd.prog 69 = some false := by kernel_rfl
@[simp] theorem zo_69 : zOf Tryd.prog 69 = some (.nilf) := by kernel_rfl
@[simp] theorem by_69 : byOf Tryd.prog 69 = some 8 := by kernel_rfl
@[simp] theorem sz_70 : szOf Tryd.prog 70 = some 1 := by kernel_rfl
@[simp] theorem ag_70 : aggOf Tryd.prog 70 = some false := by kernel_rfl
@[simp] theorem zo_70 : zOf Tryd.prog 70 = some (.nilf) := by kernel_rfl
@[simp] theorem by_70 : byOf Tryd.prog 70 = some 8 := by kernel_rfl
@[simp] theorem sz_71 : szOf Tryd.prog 71 = some 1 := by kernel_rfl
@[simp] theorem ag_71 : aggOf Tryd.prog 71 = some false := by kernel_rfl
@[simp] theorem zo_71 : zOf Tryd.prog 71 = some (.nilf) := by kernel_rfl
@[simp] theorem by_71 : byOf Tryd.prog 71 = some 8 := by kernel_rfl
@[simp] theorem sz_72 : szOf Tryd.prog 72 = some 1 := by kernel_rfl
@[simp] theorem ag_72 : aggOf Tryd.prog 72 = some false := by kernel_rfl
@[simp] theorem zo_72 : zOf Tryd.prog 72 = some (.nilf) := by kernel_rfl
@[simp] theorem by_72 : byOf Tryd.prog 72 = some 8 := by kernel_rfl
@[simp] theorem sz_73 : szOf Tryd.prog 73 = some 1 := by kernel_rfl
@[simp] theorem ag_73 : aggOf Tryd.prog 73 = some false := by kernel_rfl
@[simp] theorem zo_73 : zOf Tryd.prog 73 = some (.nilf) := by kernel_rfl
@[simp] theorem by_73 : byOf Tryd.prog 73 = some 8 := by kernel_rfl
@[simp] theorem sz_74 : szOf Tryd.prog 74 = some 1 := by kernel_rfl
@[simp] theorem ag_74 : aggOf Tryd.prog 74 = some false := by kernel_rfl
@[simp] theorem zo_74 : zOf Tryd.prog 74 = some (.nilf) := by kernel_rfl
@[simp] theorem by_74 : byOf Tryd.prog 74 = some 8 := by kernel_rfl
@[simp] theorem sz_75 : szOf Tryd.prog 75 = some 1 := by kernel_rfl
@[simp] theorem ag_75 : aggOf Tryd.prog 75 = some false := by kernel_rfl
@[simp] theorem zo_75 : zOf Tryd.prog 75 = some (.int .u64 0) := by kernel_rfl
@[simp] theorem un_75 : Tryd.prog.underlying 75 = some (.int .u64) := by kernel_rfl
@[simp] theorem by_75 : byOf Tryd.prog 75 = some 8 := by kernel_rfl
@[simp] theorem sz_76 : szOf Tryd.prog 76 = some 3 := by kernel_rfl
@[simp] theorem ag_76 : aggOf Tryd.prog 76 = some true := by kernel_rfl
@[simp] theorem zo_76 : zOf Tryd.prog 76 = some (.agg [.int .u64 0, .int .u64 0, .int .i64 0]) := by kernel_rfl
@[simp] theorem ft_76 : ftOf Tryd.prog 76 = some (3, [(75, 0, 1), (75, 1, 1), (3, 2, 1)]) := by kernel_rfl
@[simp] theorem fd_76_0 : fldOf Tryd.prog 76 0 = some (0, 1, false) := by kernel_rfl
@[simp] theorem fd_76_1 : fldOf Tryd.prog 76 1 = some (1, 1, false) := by kernel_rfl
@[simp] theorem fd_76_2 : fldOf Tryd.prog 76 2 = some (2, 1, false) := by kernel_rfl
@[simp] theorem bd_76 : bldOf Tryd.prog 76 = some ([(0, 1), (1, 1), (2, 1)], [.int .u64 0, .int .u64 0, .int .i64 0]) := by kernel_rfl
@[simp] theorem by_76 : byOf Tryd.prog 76 = some 24 := by kernel_rfl
@[simp] theorem sz_77 : szOf Tryd.prog 77 = some 3 := by kernel_rfl
@[simp] theorem ag_77 : aggOf Tryd.prog 77 = some true := by kernel_rfl
@[simp] theorem zo_77 : zOf Tryd.prog 77 = some (.agg [.int .u64 0, .int .u64 0, .int .i64 0]) := by kernel_rfl
@[simp] theorem ft_77 : ftOf Tryd.prog 77 = some (3, [(75, 0, 1), (75, 1, 1), (3, 2, 1)]) := by kernel_rfl
@[simp] theorem fd_77_0 : fldOf Tryd.prog 77 0 = some (0, 1, false) := by kernel_rfl
@[simp] theorem fd_77_1 : fldOf Tryd.prog 77 1 = some (1, 1, false) := by kernel_rfl
@[simp] theorem fd_77_2 : fldOf Tryd.prog 77 2 = some (2, 1, false) := by kernel_rfl
@[simp] theorem bd_77 : bldOf Tryd.prog 77 = some ([(0, 1), (1, 1), (2, 1)], [.int .u64 0, .int .u64 0, .int .i64 0]) := by kernel_rfl
@[simp] theorem eqt_77 {a0 b0 : Int} {a1 b1 : Int} {a2 b2 : Int} : EqT Tryd.prog 77 [.int .u64 a0, .int .u64 a1, .int .i64 a2] [.int .u64 b0, .int .u64 b1, .int .i64 b2] = True := eq_true (EqT.flat [.int, .int, .int] (by kernel_rfl) rfl rfl (by simp [kindsFit]))
@[simp] theorem by_77 : byOf Tryd.prog 77 = some 24 := by kernel_rfl
@[simp] theorem sz_78 : szOf Tryd.prog 78 = some 13 := by kernel_rfl
@[simp] theorem ag_78 : aggOf Tryd.prog 78 = some true := by kernel_rfl
@[simp] theorem zo_78 : zOf Tryd.prog 78 = some (.agg [.int .i64 0, .int .i64 0, .int .i64 0, .int .u64 0, .int .u64 0, .int .i64 0, .int .i64 0, .int .i64 0, .str ⟨#[]⟩, .int .i64 0, .int .i64 0, .str ⟨#[]⟩, .bool false]) := by kernel_rfl
@[simp] theorem ft_78 : ftOf Tryd.prog 78 = some (13, [(3, 0, 1), (3, 1, 1), (3, 2, 1), (77, 3, 3), (27, 6, 3), (27, 9, 3), (4, 12, 1)]) := by kernel_rfl
@[simp] theorem fd_78_0 : fldOf Tryd.prog 78 0 = some (0, 1, false) := by kernel_rfl
@[simp] theorem fd_78_1 : fldOf Tryd.prog 78 1 = some (1, 1, false) := by kernel_rfl
@[simp] theorem fd_78_2 : fldOf Tryd.prog 78 2 = some (2, 1, false) := by kernel_rfl
@[simp] theorem fd_78_3 : fldOf Tryd.prog 78 3 = some (3, 3, true) := by kernel_rfl
@[simp] theorem fd_78_4 : fldOf Tryd.prog 78 4 = some (6, 3, true) := by kernel_rfl
@[simp] theorem fd_78_5 : fldOf Tryd.prog 78 5 = some (9, 3, true) := by kernel_rfl
@[simp] theorem fd_78_6 : fldOf Tryd.prog 78 6 = some (12, 1, false) := by kernel_rfl
@[simp] theorem bd_78 : bldOf Tryd.prog 78 = some ([(0, 1), (1, 1), (2, 1), (3, 3), (6, 3), (9, 3), (12, 1)], [.int .i64 0, .int .i64 0, .int .i64 0, .int .u64 0, .int .u64 0, .int .i64 0, .int .i64 0, .int .i64 0, .str ⟨#[]⟩, .int .i64 0, .int .i64 0, .str ⟨#[]⟩, .bool false]) := by kernel_rfl
@[simp] theorem by_78 : byOf Tryd.prog 78 = some 120 := by kernel_rfl
@[simp] theorem sz_79 : szOf Tryd.prog 79 = some 13 := by kernel_rfl
@[simp] theorem ag_79 : aggOf Tryd.prog 79 = some true := by kernel_rfl
@[simp] theorem zo_79 : zOf Tryd.prog 79 = some (.agg [.int .i64 0, .int .i64 0, .int .i64 0, .int .u64 0, .int .u64 0, .int .i64 0, .int .i64 0, .int .i64 0, .str ⟨#[]⟩, .int .i64 0, .int .i64 0, .str ⟨#[]⟩, .bool false]) := by kernel_rfl
@[simp] theorem ft_79 : ftOf Tryd.prog 79 = some (13, [(3, 0, 1), (3, 1, 1), (3, 2, 1), (77, 3, 3), (27, 6, 3), (27, 9, 3), (4, 12, 1)]) := by kernel_rfl
@[simp] theorem fd_79_0 : fldOf Tryd.prog 79 0 = some (0, 1, false) := by kernel_rfl
@[simp] theorem fd_79_1 : fldOf Tryd.prog 79 1 = some (1, 1, false) := by kernel_rfl
@[simp] theorem fd_79_2 : fldOf Tryd.prog 79 2 = some (2, 1, false) := by kernel_rfl
@[simp] theorem fd_79_3 : fldOf Tryd.prog 79 3 = some (3, 3, true) := by kernel_rfl
@[simp] theorem fd_79_4 : fldOf Tryd.prog 79 4 = some (6, 3, true) := by kernel_rfl
@[simp] theorem fd_79_5 : fldOf Tryd.prog 79 5 = some (9, 3, true) := by kernel_rfl
@[simp] theorem fd_79_6 : fldOf Tryd.prog 79 6 = some (12, 1, false) := by kernel_rfl
@[simp] theorem bd_79 : bldOf Tryd.prog 79 = some ([(0, 1), (1, 1), (2, 1), (3, 3), (6, 3), (9, 3), (12, 1)], [.int .i64 0, .int .i64 0, .int .i64 0, .int .u64 0, .int .u64 0, .int .i64 0, .int .i64 0, .int .i64 0, .str ⟨#[]⟩, .int .i64 0, .int .i64 0, .str ⟨#[]⟩, .bool false]) := by kernel_rfl
@[simp] theorem by_79 : byOf Tryd.prog 79 = some 120 := by kernel_rfl
@[simp] theorem sz_80 : szOf Tryd.prog 80 = some 1 := by kernel_rfl
@[simp] theorem ag_80 : aggOf Tryd.prog 80 = some false := by kernel_rfl
@[simp] theorem zo_80 : zOf Tryd.prog 80 = some (.nilf) := by kernel_rfl
@[simp] theorem by_80 : byOf Tryd.prog 80 = some 8 := by kernel_rfl
@[simp] theorem sz_81 : szOf Tryd.prog 81 = some 1 := by kernel_rfl
@[simp] theorem ag_81 : aggOf Tryd.prog 81 = some false := by kernel_rfl
@[simp] theorem zo_81 : zOf Tryd.prog 81 = some (.nilf) := by kernel_rfl
@[simp] theorem by_81 : byOf Tryd.prog 81 = some 8 := by kernel_rfl
@[simp] theorem sz_82 : szOf Tryd.prog 82 = some 1 := by kernel_rfl
@[simp] theorem ag_82 : aggOf Tryd.prog 82 = some false := by kernel_rfl
@[simp] theorem zo_82 : zOf Tryd.prog 82 = some (.nilf) := by kernel_rfl
@[simp] theorem by_82 : byOf Tryd.prog 82 = some 8 := by kernel_rfl
@[simp] theorem sz_83 : szOf Tryd.prog 83 = some 1 := by kernel_rfl
@[simp] theorem ag_83 : aggOf Tryd.prog 83 = some false := by kernel_rfl
@[simp] theorem zo_83 : zOf Tryd.prog 83 = some (.nilf) := by kernel_rfl
@[simp] theorem by_83 : byOf Tryd.prog 83 = some 8 := by kernel_rfl
@[simp] theorem sz_84 : szOf Tryd.prog 84 = some 1 := by kernel_rfl
@[simp] theorem ag_84 : aggOf Tryd.prog 84 = some false := by kernel_rfl
@[simp] theorem zo_84 : zOf Tryd.prog 84 = some (.nilf) := by kernel_rfl
@[simp] theorem by_84 : byOf Tryd.prog 84 = some 8 := by kernel_rfl
@[simp] theorem sz_85 : szOf Tryd.prog 85 = some 1 := by kernel_rfl
@[simp] theorem ag_85 : aggOf Tryd.prog 85 = some false := by kernel_rfl
@[simp] theorem zo_85 : zOf Tryd.prog 85 = some (.sl .exact []) := by kernel_rfl
@[simp] theorem sl_85 : slOf Tryd.prog 85 = some (5, 1) := by kernel_rfl
@[simp] theorem li_85 : litOf Tryd.prog 85 = some (false, 1, [.int .u8 0]) := by kernel_rfl
@[simp] theorem un_85 : Tryd.prog.underlying 85 = some (.slice 5) := by kernel_rfl
@[simp] theorem by_85 : byOf Tryd.prog 85 = some 24 := by kernel_rfl
@[simp] theorem sz_86 : szOf Tryd.prog 86 = some 1 := by kernel_rfl
@[simp] theorem ag_86 : aggOf Tryd.prog 86 = some false := by kernel_rfl
@[simp] theorem zo_86 : zOf Tryd.prog 86 = some (.nilf) := by kernel_rfl
@[simp] theorem by_86 : byOf Tryd.prog 86 = some 8 := by kernel_rfl
@[simp] theorem sz_87 : szOf Tryd.prog 87 = some 1 := by kernel_rfl
@[simp] theorem ag_87 : aggOf Tryd.prog 87 = some false := by kernel_rfl
@[simp] theorem zo_87 : zOf Tryd.prog 87 = some (.nilf) := by kernel_rfl
@[simp] theorem by_87 : byOf Tryd.prog 87 = some 8 := by kernel_rfl
@[simp] theorem sz_88 : szOf Tryd.prog 88 = some 1 := by kernel_rfl
@[simp] theorem ag_88 : aggOf Tryd.prog 88 = some false := by kernel_rfl
@[simp] theorem zo_88 : zOf Tryd.prog 88 = some (.nilf) := by kernel_rfl
@[simp] theorem by_88 : byOf Tryd.prog 88 = some 8 := by kernel_rfl
@[simp] theorem sz_89 : szOf Tryd.prog 89 = some 1 := by kernel_rfl
@[simp] theorem ag_89 : aggOf Tryd.prog 89 = some false := by kernel_rfl
@[simp] theorem zo_89 : zOf Tryd.prog 89 = some (.nilf) := by kernel_rfl
@[simp] theorem by_89 : byOf Tryd.prog 89 = some 8 := by kernel_rfl
@[simp] theorem sz_90 : szOf Tryd.prog 90 = some 1 := by kernel_rfl
@[simp] theorem ag_90 : aggOf Tryd.prog 90 = some false := by kernel_rfl
@[simp] theorem zo_90 : zOf Tryd.prog 90 = some (.nilf) := by kernel_rfl
@[simp] theorem by_90 : byOf Tryd.prog 90 = some 8 := by kernel_rfl
@[simp] theorem sz_91 : szOf Tryd.prog 91 = some 1 := by kernel_rfl
@[simp] theorem ag_91 : aggOf Tryd.prog 91 = some false := by kernel_rfl
@[simp] theorem zo_91 : zOf Tryd.prog 91 = some (.nilf) := by kernel_rfl
@[simp] theorem by_91 : byOf Tryd.prog 91 = some 8 := by kernel_rfl
@[simp] theorem sz_92 : szOf Tryd.prog 92 = some 1 := by kernel_rfl
@[simp] theorem ag_92 : aggOf Tryd.prog 92 = some false := by kernel_rfl
@[simp] theorem zo_92 : zOf Tryd.prog 92 = some (.nilf) := by kernel_rfl
@[simp] theorem by_92 : byOf Tryd.prog 92 = some 8 := by kernel_rfl
@[simp] theorem sz_93 : szOf Tryd.prog 93 = some 1 := by kernel_rfl
@[simp] theorem ag_93 : aggOf Tryd.prog 93 = some false := by kernel_rfl
@[simp] theorem zo_93 : zOf Tryd.prog 93 = some (.nilf) := by kernel_rfl
@[simp] theorem by_93 : byOf Tryd.prog 93 = some 8 := by kernel_rfl
@[simp] theorem sz_94 : szOf Tryd.prog 94 = some 1 := by kernel_rfl
@[simp] theorem ag_94 : aggOf Tryd.prog 94 = some false := by kernel_rfl
@[simp] theorem zo_94 : zOf Tryd.prog 94 = some (.nilf) := by kernel_rfl
@[simp] theorem by_94 : byOf Tryd.prog 94 = some 8 := by kernel_rfl
@[simp] theorem sz_95 : szOf Tryd.prog 95 = some 1 := by kernel_rfl
@[simp] theorem ag_95 : aggOf Tryd.prog 95 = some false := by kernel_rfl
@[simp] theorem zo_95 : zOf Tryd.prog 95 = some (.nilf) := by kernel_rfl
@[simp] theorem by_95 : byOf Tryd.prog 95 = some 8 := by kernel_rfl
@[simp] theorem sz_96 : szOf Tryd.prog 96 = some 1 := by kernel_rfl
@[simp] theorem ag_96 : aggOf Tryd.prog 96 = some false := by kernel_rfl
@[simp] theorem zo_96 : zOf Tryd.prog 96 = some (.nilf) := by kernel_rfl
@[simp] theorem by_96 : byOf Tryd.prog 96 = some 8 := by kernel_rfl
@[simp] theorem sz_97 : szOf Tryd.prog 97 = some 1 := by kernel_rfl
@[simp] theorem ag_97 : aggOf Tryd.prog 97 = some false := by kernel_rfl
@[simp] theorem zo_97 : zOf Tryd.prog 97 = some (.nilf) := by kernel_rfl
@[simp] theorem by_97 : byOf Tryd.prog 97 = some 8 := by kernel_rfl
@[simp] theorem sz_98 : szOf Tryd.prog 98 = some 1 := by kernel_rfl
@[simp] theorem ag_98 : aggOf Tryd.prog 98 = some false := by kernel_rfl
@[simp] theorem zo_98 : zOf Tryd.prog 98 = some (.nilf) := by kernel_rfl
@[simp] theorem by_98 : byOf Tryd.prog 98 = some 8 := by kernel_rfl
@[simp] theorem sz_99 : szOf Tryd.prog 99 = some 2 := by kernel_rfl
@[simp] theorem ag_99 : aggOf Tryd.prog 99 = some true := by kernel_rfl
@[simp] theorem zo_99 : zOf Tryd.prog 99 = some (.agg [.int .u64 0, .int .u64 0]) := by kernel_rfl
@[simp] theorem ar_99 : arrOf Tryd.prog 99 = some (2, 75, 1, false) := by kernel_rfl
@[simp] theorem bd_99 : bldOf Tryd.prog 99 = some ([(0, 1), (1, 1)], [.int .u64 0, .int .u64 0]) := by kernel_rfl
@[simp] theorem un_99 : Tryd.prog.underlying 99 = some (.array 2 75) := by kernel_rfl
@[simp] theorem by_99 : byOf Tryd.prog 99 = some 16 := by kernel_rfl
@[simp] theorem sz_100 : szOf Tryd.prog 100 = some 2 := by kernel_rfl
@[simp] theorem ag_100 : aggOf Tryd.prog 100 = some true := by kernel_rfl
@[simp] theorem zo_100 : zOf Tryd.prog 100 = some (.agg [.int .u64 0, .int .u64 0]) := by kernel_rfl
@[simp] theorem ar_100 : arrOf Tryd.prog 100 = some (2, 75, 1, false) := by kernel_rfl
@[simp] theorem bd_100 : bldOf Tryd.prog 100 = some ([(0, 1), (1, 1)], [.int .u64 0, .int .u64 0]) := by kernel_rfl
@[simp] theorem un_100 : Tryd.prog.underlying 100 = some (.array 2 75) := by kernel_rfl
@[simp] theorem by_100 : byOf Tryd.prog 100 = some 16 := by kernel_rfl
@[simp] theorem sz_101 : szOf Tryd.prog 101 = some 1 := by kernel_rfl
@[simp] theorem ag_101 : aggOf Tryd.prog 101 = some false := by kernel_rfl
@[simp] theorem zo_101 : zOf Tryd.prog 101 = some (.nilf) := by kernel_rfl
@[simp] theorem by_101 : byOf Tryd.prog 101 = some 8 := by kernel_rfl
@[simp] theorem sz_102 : szOf Tryd.prog 102 = some 1 := by kernel_rfl
@[simp] theorem ag_102 : aggOf Tryd.prog 102 = some false := by kernel_rfl
@[simp] theorem zo_102 : zOf Tryd.prog 102 = some (.nilf) := by kernel_rfl
@[simp] theorem by_102 : byOf Tryd.prog 102 = some 8 := by kernel_rfl
@[simp] theorem sz_104 : szOf Tryd.prog 104 = some 1 := by kernel_rfl
@[simp] theorem ag_104 : aggOf Tryd.prog 104 = some false := by kernel_rfl
@[simp] theorem zo_104 : zOf Tryd.prog 104 = some (.nilf) := by kernel_rfl
@[simp] theorem by_104 : byOf Tryd.prog 104 = some 8 := by kernel_rfl
@[simp] theorem sz_105 : szOf Tryd.prog 105 = some 24 := by kernel_rfl
@[simp] theorem ag_105 : aggOf Tryd.prog 105 = some true := by kernel_rfl
@[simp] theorem zo_105 : zOf Tryd.prog 105 = some (.agg [.int .u8 0, .int .u8 0, .int .u8 0, .int .u8 0, .int .u8 0, .int .u8 0, .int .u8 0, .int .u8 0, .int .u8 0, .int .u8 0, .int .u8 0, .int .u8 0, .int .u8 0, .int .u8 0, .int .u8 0, .int .u8 0, .int .u8 0, .int .u8 0, .int .u8 0, .int .u8 0, .int .u8 0, .int .u8 0, .int .u8 0, .int .u8 0]) := by kernel_rfl
@[simp] theorem ar_105 : arrOf Tryd.prog 105 = some (24, 5, 1, false) := by kernel_rfl
@[simp] theorem bd_105 : bldOf Tryd.prog 105 = some ([(0, 1), (1, 1), (2, 1), (3, 1), (4, 1), (5, 1), (6, 1), (7, 1), (8, 1), (9, 1), (10, 1), (11, 1), (12, 1), (13, 1), (14, 1), (15, 1), (16, 1), (17, 1), (18, 1), (19, 1), (20, 1), (21, 1), (22, 1), (23, 1)], [.int .u8 0, .int .u8 0, .int .u8 0, .int .u8 0, .int .u8 0, .int .u8 0, .int .u8 0, .int .u8 0, .int .u8 0, .int .u8 0, .int .u8 0, .int .u8 0, .int .u8 0, .int .u8 0, .int .u8 0, .int .u8 0, .int .u8 0, .int .u8 0, .int .u8 0, .int .u8 0, .int .u8 0, .int .u8 0, .int .u8 0, .int .u8 0]) := by kernel_rfl
@[simp] theorem un_105 : Tryd.prog.underlying 105 = some (.array 24 5) := by kernel_rfl
@[simp] theorem by_105 : byOf Tryd.prog 105 = some 24 := by kernel_rfl
@[simp] theorem sz_106 : szOf Tryd.prog 106 = some 1 := by kernel_rfl
@[simp] theorem ag_106 : aggOf Tryd.prog 106 = some false := by kernel_rfl
@[simp] theorem zo_106 : zOf Tryd.prog 106 = some (.nilf) := by kernel_rfl
@[simp] theorem by_106 : byOf Tryd.prog 106 = some 8 := by kernel_rfl
@[simp] theorem sz_107 : szOf Tryd.prog 107 = some 1 := by kernel_rfl
@[simp] theorem ag_107 : aggOf Tryd.prog 107 = some false := by kernel_rfl
@[simp] theorem zo_107 : zOf Tryd.prog 107 = some (.nilf) := by kernel_rfl
@[simp] theorem by_107 : byOf Tryd.prog 107 = some 8 := by kernel_rfl
@[simp] theorem sz_109 : szOf Tryd.prog 109 = some 1 := by kernel_rfl
@[simp] theorem ag_109 : aggOf Tryd.prog 109 = some false := by kernel_rfl
@[simp] theorem zo_109 : zOf Tryd.prog 109 = some (.nilf) := by kernel_rfl
@[simp] theorem by_109 : byOf Tryd.prog 109 = some 8 := by kernel_rfl
@[simp] theorem sz_110 : szOf Tryd.prog 110 = some 1 := by kernel_rfl
@[simp] theorem ag_110 : aggOf Tryd.prog 110 = some false := by kernel_rfl
@[simp] theorem zo_110 : zOf Tryd.prog 110 = some (.int .u64 0) := by kernel_rfl
@[simp] theorem un_110 : Tryd.prog.underlying 110 = some (.int .u64) := by kernel_rfl
@[simp] theorem by_110 : byOf Tryd.prog 110 = some 8 := by kernel_rfl
@[simp] theorem sz_111 : szOf Tryd.prog 111 = some 1 := by kernel_rfl
@[simp] theorem ag_111 : aggOf Tryd.prog 111 = some false := by kernel_rfl
@[simp] theorem zo_111 : zOf Tryd.prog 111 = some (.nilf) := by kernel_rfl
@[simp] theorem by_111 : byOf Tryd.prog 111 = some 8 := by kernel_rfl
@[simp] theorem sz_112 : szOf Tryd.prog 112 = some 1 := by kernel_rfl
@[simp] theorem ag_112 : aggOf Tryd.prog 112 = some false := by kernel_rfl
@[simp] theorem zo_112 : zOf Tryd.prog 112 = some (.nilf) := by kernel_rfl
@[simp] theorem by_112 : byOf Tryd.prog 112 = some 8 := by kernel_rfl
@[simp] theorem sz_113 : szOf Tryd.prog 113 = some 1 := by kernel_rfl
@[simp] theorem ag_113 : aggOf Tryd.prog 113 = some false := by kernel_rfl
@[simp] theorem zo_113 : zOf Tryd.prog 113 = some (.nilf) := by kernel_rfl
@[simp] theorem by_113 : byOf Tryd.prog 113 = some 8 := by kernel_rfl
@[simp] theorem sz_114 : szOf Tryd.prog 114 = some 1 := by kernel_rfl
@[simp] theorem ag_114 : aggOf Tryd.prog 114 = some false := by kernel_rfl
@[simp] theorem zo_114 : zOf Tryd.prog 114 = some (.nilf) := by kernel_rfl
@[simp] theorem by_114 : byOf Tryd.prog 114 = some 8 := by kernel_rfl
@[simp] theorem sz_115 : szOf Tryd.prog 115 = some 20 := by kernel_rfl
@[simp] theorem ag_115 : aggOf Tryd.prog 115 = some true := by kernel_rfl
@[simp] theorem zo_115 : zOf Tryd.prog 115 = some (.agg [.int .u64 0, .int .u64 0, .int .u64 0, .int .u64 0, .int .u64 0, .int .u64 0, .int .u64 0, .int .u64 0, .int .u64 0, .int .u64 0, .int .u64 0, .int .u64 0, .int .u64 0, .int .u64 0, .int .u64 0, .int .u64 0, .int .u64 0, .int .u64 0, .int .u64 0, .int .u64 0]) := by kernel_rfl
@[simp] theorem ar_115 : arrOf Tryd.prog 115 = some (20, 75, 1, false) := by kernel_rfl
@[simp] theorem bd_115 : bldOf Tryd.prog 115 = some ([(0, 1), (1, 1), (2, 1), (3, 1), (4, 1), (5, 1), (6, 1), (7, 1), (8, 1), (9, 1), (10, 1), (11, 1), (12, 1), (13, 1), (14, 1), (15, 1), (16, 1), (17, 1), (18, 1), (19, 1)], [.int .u64 0, .int .u64 0, .int .u64 0, .int .u64 0, .int .u64 0, .int .u64 0, .int .u64 0, .int .u64 0, .int .u64 0, .int .u64 0, .int .u64 0, .int .u64 0, .int .u64 0, .int .u64 0, .int .u64 0, .int .u64 0, .int .u64 0, .int .u64 0, .int .u64 0, .int .u64 0]) := by kernel_rfl
@[simp] theorem un_115 : Tryd.prog.underlying 115 = some (.array 20 75) := by kernel_rfl
@[simp] theorem by_115 : byOf Tryd.prog 115 = some 160 := by kernel_rfl
@[simp] theorem sz_116 : szOf Tryd.prog 116 = some 1 := by kernel_rfl
@[simp] theorem ag_116 : aggOf Tryd.prog 116 = some false := by kernel_rfl
@[simp] theorem zo_116 : zOf Tryd.prog 116 = some (.int .u32 0) := by kernel_rfl
@[simp] theorem un_116 : Tryd.prog.underlying 116 = some (.int .u32) := by kernel_rfl
@[simp] theorem by_116 : byOf Tryd.prog 116 = some 4 := by kernel_rfl
@[simp] theorem sz_117 : szOf Tryd.prog 117 = some 65 := by kernel_rfl
@[simp] theorem ag_117 : aggOf Tryd.prog 117 = some true := by kernel_rfl
@[simp] theorem zo_117 : zOf Tryd.prog 117 = some (.agg [.int .u8 0, .int .u8 0, .int .u8 0, .int .u8 0, .int .u8 0, .int .u8 0, .int .u8 0, .int .u8 0, .int .u8 0, .int .u8 0, .int .u8 0, .int .u8 0, .int .u8 0, .int .u8 0, .int .u8 0, .int .u8 0, .int .u8 0, .int .u8 0, .int .u8 0, .int .u8 0, .int .u8 0, .int .u8 0, .int .u8 0, .int .u8 0, .int .u8 0, .int .u8 0, .int .u8 0, .int .u8 0, .int .u8 0, .int .u8 0, .int .u8 0, .int .u8 0, .int .u8 0, .int .u8 0, .int .u8 0, .int .u8 0, .int .u8 0, .int .u8 0, .int .u8 0, .int .u8 0, .int .u8 0, .int .u8 0, .int .u8 0, .int .u8 0, .int .u8 0, .int .u8 0, .int .u8 0, .int .u8 0, .int .u8 0, .int .u8 0, .int .u8 0, .int .u8 0, .int .u8 0, .int .u8 0, .int .u8 0, .int .u8 0, .int .u8 0, .int .u8 0, .int .u8 0, .int .u8 0, .int .u8 0, .int .u8 0, .int .u8 0, .int .u8 0, .int .u8 0]) := by kernel_rfl
@[simp] theorem ar_117 : arrOf Tryd.prog 117 = some (65, 5, 1, false) := by kernel_rfl
@[simp] theorem bd_117 : bldOf Tryd.prog 117 = some ([(0, 1), (1, 1), (2, 1), (3, 1), (4, 1), (5, 1), (6, 1), (7, 1), (8, 1), (9, 1), (10, 1), (11, 1), (12, 1), (13, 1), (14, 1), (15, 1), (16, 1), (17, 1), (18, 1), (19, 1), (20, 1), (21, 1), (22, 1), (23, 1), (24, 1), (25, 1), (26, 1), (27, 1), (28, 1), (29, 1), (30, 1), (31, 1), (32, 1), (33, 1), (34, 1), (35, 1), (36, 1), (37, 1), (38, 1), (39, 1), (40, 1), (41, 1), (42, 1), (43, 1), (44, 1), (45, 1), (46, 1), (47, 1), (48, 1), (49, 1), (50, 1), (51, 1), (52, 1), (53, 1), (54, 1), (55, 1), (56, 1), (57, 1), (58, 1), (59, 1), (60, 1), (61, 1), (62, 1), (63, 1), (64, 1)], [.int .u8 0, .int .u8 0, .int .u8 0, .int .u8 0, .int .u8 0, .int .u8 0, .int .u8 0, .int .u8 0, .int .u8 0, .int .u8 0, .int .u8 0, .int .u8 0, .int .u8 0, .int .u8 0, .int .u8 0, .int .u8 0, .int .u8 0, .int .u8 0, .int .u8 0, .int .u8 0, .int .u8 0, .int .u8 0, .int .u8 0, .int .u8 0, .int .u8 0, .int .u8 0, .int .u8 0, .int .u8 0, .int .u8 0, .int .u8 0, .int .u8 0, .int .u8 0, .int .u8 0, .int .u8 0, .int .u8 0, .int .u8 0, .int .u8 0, .int .u8 0, .int .u8 0, .int .u8 0, .int .u8 0, .int .u8 0, .int .u8 0, .int .u8 0, .int .u8 0, .int .u8 0, .int .u8 0, .int .u8 0, .int .u8 0, .int .u8 0, .int .u8 0, .int .u8 0, .int .u8 0, .int .u8 0, .int .u8 0, .int .u8 0, .int .u8 0, .int .u8 0, .int .u8 0, .int .u8 0, .int .u8 0, .int .u8 0, .int .u8 0, .int .u8 0, .int .u8 0]) := by kernel_rfl
@[simp] theorem un_117 : Tryd.prog.underlying 117 = some (.array 65 5) := by kernel_rfl
@[simp] theorem by_117 : byOf Tryd.prog 117 = some 65 := by kernel_rfl
@[simp] theorem sz_118 : szOf Tryd.prog 118 = some 1 := by kernel_rfl
@[simp] theorem ag_118 : aggOf Tryd.prog 118 = some false := by kernel_rfl
@[simp] theorem zo_118 : zOf Tryd.prog 118 = some (.nilf) := by kernel_rfl
@[simp] theorem by_118 : byOf Tryd.prog 118 = some 8 := by kernel_rfl
@[simp] theorem sz_120 : szOf Tryd.prog 120 = some 1 := by kernel_rfl
@[simp] theorem ag_120 : aggOf Tryd.prog 120 = some false := by kernel_rfl
@[simp] theorem zo_120 : zOf Tryd.prog 120 = some (.nilf) := by kernel_rfl
@[simp] theorem by_120 : byOf Tryd.prog 120 = some 8 := by kernel_rfl
@[simp] theorem sz_121 : szOf Tryd.prog 121 = some 1 := by kernel_rfl
@[simp] theorem ag_121 : aggOf Tryd.prog 121 = some false := by kernel_rfl
@[simp] theorem zo_121 : zOf Tryd.prog 121 = some (.nilf) := by kernel_rfl
@[simp] theorem by_121 : byOf Tryd.prog 121 = some 8 := by kernel_rfl
@[simp] theorem sz_122 : szOf Tryd.prog 122 = some 32 := by kernel_rfl
@[simp] theorem ag_122 : aggOf Tryd.prog 122 = some true := by kernel_rfl
@[simp] theorem zo_122 : zOf Tryd.prog 122 = some (.agg [.int .u8 0, .int .u8 0, .int .u8 0, .int .u8 0, .int .u8 0, .int .u8 0, .int .u8 0, .int .u8 0, .int .u8 0, .int .u8 0, .int .u8 0, .int .u8 0, .int .u8 0, .int .u8 0, .int .u8 0, .int .u8 0, .int .u8 0, .int .u8 0, .int .u8 0, .int .u8 0, .int .u8 0, .int .u8 0, .int .u8 0, .int .u8 0, .int .u8 0, .int .u8 0, .int .u8 0, .int .u8 0, .int .u8 0, .int .u8 0, .int .u8 0, .int .u8 0]) := by kernel_rfl
@[simp] theorem ar_122 : arrOf Tryd.prog 122 = some (32, 5, 1, false) := by kernel_rfl
@[simp] theorem bd_122 : bldOf Tryd.prog 122 = some ([(0, 1), (1, 1), (2, 1), (3, 1), (4, 1), (5, 1), (6, 1), (7, 1), (8, 1), (9, 1), (10, 1), (11, 1), (12, 1), (13, 1), (14, 1), (15, 1), (16, 1), (17, 1), (18, 1), (19, 1), (20, 1), (21, 1), (22, 1), (23, 1), (24, 1), (25, 1), (26, 1), (27, 1), (28, 1), (29, 1), (30, 1), (31, 1)], [.int .u8 0, .int .u8 0, .int .u8 0, .int .u8 0, .int .u8 0, .int .u8 0, .int .u8 0, .int .u8 0, .int .u8 0, .int .u8 0, .int .u8 0, .int .u8 0, .int .u8 0, .int .u8 0, .int .u8 0, .int .u8 0, .int .u8 0, .int .u8 0, .int .u8 0, .int .u8 0, .int .u8 0, .int .u8 0, .int .u8 0, .int .u8 0, .int .u8 0, .int .u8 0, .int .u8 0, .int .u8 0, .int .u8 0, .int .u8 0, .int .u8 0, .int .u8 0]) := by kernel_rfl
@[simp] theorem un_122 : Tryd.prog.underlying 122 = some (.array 32 5) := by kernel_rfl
@[simp] theorem by_122 : byOf Tryd.prog 122 = some 32 := by kernel_rfl
@[simp] theorem sz_123 : szOf Tryd.prog 123 = some 64 := by kernel_rfl
@[simp] theorem ag_123 : aggOf Tryd.prog 123 = some true := by kernel_rfl
@[simp] theorem zo_123 : zOf Tryd.prog 123 = some (.agg [.int .u8 0, .int .u8 0, .int .u8 0, .int .u8 0, .int .u8 0, .int .u8 0, .int .u8 0, .int .u8 0, .int .u8 0, .int .u8 0, .int .u8 0, .int .u8 0, .int .u8 0, .int .u8 0, .int .u8 0, .int .u8 0, .int .u8 0, .int .u8 0, .int .u8 0, .int .u8 0, .int .u8 0, .int .u8 0, .int .u8 0, .int .u8 0, .int .u8 0, .int .u8 0, .int .u8 0, .int .u8 0, .int .u8 0, .int .u8 0, .int .u8 0, .int .u8 0, .int .u8 0, .int .u8 0, .int .u8 0, .int .u8 0, .int .u8 0, .int .u8 0, .int .u8 0, .int .u8 0, .int .u8 0, .int .u8 0, .int .u8 0, .int .u8 0, .int .u8 0, .int .u8 0, .int .u8 0, .int .u8 0, .int .u8 0, .int .u8 0, .int .u8 0, .int .u8 0, .int .u8 0, .int .u8 0, .int .u8 0, .int .u8 0, .int .u8 0, .int .u8 0, .int .u8 0, .int .u8 0, .int .u8 0, .int .u8 0, .int .u8 0, .int .u8 0]) := by kernel_rfl
@[simp] theorem ar_123 : arrOf Tryd.prog 123 = some (64, 5, 1, false) := by kernel_rfl
@[simp] theorem bd_123 : bldOf Tryd.prog 123 = some ([(0, 1), (1, 1), (2, 1), (3, 1), (4, 1), (5, 1), (6, 1), (7, 1), (8, 1), (9, 1), (10, 1), (11, 1), (12, 1), (13, 1), (14, 1), (15, 1), (16, 1), (17, 1), (18, 1), (19, 1), (20, 1), (21, 1), (22, 1), (23, 1), (24, 1), (25, 1), (26, 1), (27, 1), (28, 1), (29, 1), (30, 1), (31, 1), (32, 1), (33, 1), (34, 1), (35, 1), (36, 1), (37, 1), (38, 1), (39, 1), (40, 1), (41, 1), (42, 1), (43, 1), (44, 1), (45, 1), (46, 1), (47, 1), (48, 1), (49, 1), (50, 1), (51, 1), (52, 1), (53, 1), (54, 1), (55, 1), (56, 1), (57, 1), (58, 1), (59, 1), (60, 1), (61, 1), (62, 1), (63, 1)], [.int .u8 0, .int .u8 0, .int .u8 0, .int .u8 0, .int .u8 0, .int .u8 0, .int .u8 0, .int .u8 0, .int .u8 0, .int .u8 0, .int .u8 0, .int .u8 0, .int .u8 0, .int .u8 0, .int .u8 0, .int .u8 0, .int .u8 0, .int .u8 0, .int .u8 0, .int .u8 0, .int .u8 0, .int .u8 0, .int .u8 0, .int .u8 0, .int .u8 0, .int .u8 0, .int .u8 0, .int .u8 0, .int .u8 0, .int .u8 0, .int .u8 0, .int .u8 0, .int .u8 0, .int .u8 0, .int .u8 0, .int .u8 0, .int .u8 0, .int .u8 0, .int .u8 0, .int .u8 0, .int .u8 0, .int .u8 0, .int .u8 0, .int .u8 0, .int .u8 0, .int .u8 0, .int .u8 0, .int .u8 0, .int .u8 0, .int .u8 0, .int .u8 0, .int .u8 0, .int .u8 0, .int .u8 0, .int .u8 0, .int .u8 0, .int .u8 0, .int .u8 0, .int .u8 0, .int .u8 0, .int .u8 0, .int .u8 0, .int .u8 0, .int .u8 0]) := by kernel_rfl
@[simp] theorem un_123 : Tryd.prog.underlying 123 = some (.array 64 5) := by kernel_rfl
@[simp] theorem by_123 : byOf Tryd.prog 123 = some 64 := by kernel_rfl
@[simp] theorem sz_124 : szOf Tryd.prog 124 = some 1 := by kernel_rfl
@[simp] theorem ag_124 : aggOf Tryd.prog 124 = some false := by kernel_rfl
@[simp] theorem zo_124 : zOf Tryd.prog 124 = some (.nilf) := by kernel_rfl
@[simp] theorem by_124 : byOf Tryd.prog 124 = some 8 := by kernel_rfl
@[simp] theorem sz_125 : szOf Tryd.prog 125 = some 4 := by kernel_rfl
@[simp] theorem ag_125 : aggOf Tryd.prog 125 = some true := by kernel_rfl
@[simp] theorem zo_125 : zOf Tryd.prog 125 = some (.agg [.nilp, .nilp, .nilp, .str ⟨#[]⟩]) := by kernel_rfl
@[simp] theorem ft_125 : ftOf Tryd.prog 125 = some (4, [(17, 0, 1), (17, 1, 1), (17, 2, 1), (9, 3, 1)]) := by kernel_rfl
@[simp] theorem fd_125_0 : fldOf Tryd.prog 125 0 = some (0, 1, false) := by kernel_rfl
@[simp] theorem fd_125_1 : fldOf Tryd.prog 125 1 = some (1, 1, false) := by kernel_rfl
@[simp] theorem fd_125_2 : fldOf Tryd.prog 125 2 = some (2, 1, false) := by kernel_rfl
@[simp] theorem fd_125_3 : fldOf Tryd.prog 125 3 = some (3, 1, false) := by kernel_rfl
@[simp] theorem bd_125 : bldOf Tryd.prog 125 = some ([(0, 1), (1, 1), (2, 1), (3, 1)], [.nilp, .nilp, .nilp, .str ⟨#[]⟩]) := by kernel_rfl
@[simp] theorem by_125 : byOf Tryd.prog 125 = some 40 := by kernel_rfl
@[simp] theorem sz_126 : szOf Tryd.prog 126 = some 4 := by kernel_rfl
@[simp] theorem ag_126 : aggOf Tryd.prog 126 = some true := by kernel_rfl
@[simp] theorem zo_126 : zOf Tryd.prog 126 = some (.agg [.nilp, .nilp, .nilp, .str ⟨#[]⟩]) := by kernel_rfl
@[simp] theorem ft_126 : ftOf Tryd.prog 126 = some (4, [(17, 0, 1), (17, 1, 1), (17, 2, 1), (9, 3, 1)]) := by kernel_rfl
@[simp] theorem fd_126_0 : fldOf Tryd.prog 126 0 = some (0, 1, false) := by kernel_rfl
@[simp] theorem fd_126_1 : fldOf Tryd.prog 126 1 = some (1, 1, false) := by kernel_rfl
@[simp] theorem fd_126_2 : fldOf Tryd.prog 126 2 = some (2, 1, false) := by kernel_rfl
@[simp] theorem fd_126_3 : fldOf Tryd.prog 126 3 = some (3, 1, false) := by kernel_rfl
@[simp] theorem bd_126 : bldOf Tryd.prog 126 = some ([(0, 1), (1, 1), (2, 1), (3, 1)], [.nilp, .nilp, .nilp, .str ⟨#[]⟩]) := by kernel_rfl
@[simp] theorem by_126 : byOf Tryd.prog 126 = some 40 := by kernel_rfl
@[simp] theorem sz_127 : szOf Tryd.prog 127 = some 0 := by kernel_rfl
@[simp] theorem ag_127 : aggOf Tryd.prog 127 = some true := by kernel_rfl
@[simp] theorem zo_127 : zOf Tryd.prog 127 = some (.agg []) := by kernel_rfl
@[simp] theorem ar_127 : arrOf Tryd.prog 127 = some (0, 16, 1, false) := by kernel_rfl
@[simp] theorem bd_127 : bldOf Tryd.prog 127 = some ([], []) := by kernel_rfl
@[simp] theorem un_127 : Tryd.prog.underlying 127 = some (.array 0 16) := by kernel_rfl
@[simp] theorem by_127 : byOf Tryd.prog 127 = some 0 := by kernel_rfl
@[simp] theorem sz_128 : szOf Tryd.prog 128 = some 0 := by kernel_rfl
@[simp] theorem ag_128 : aggOf Tryd.prog 128 = some true := by kernel_rfl
@[simp] theorem zo_128 : zOf Tryd.prog 128 = some (.agg []) := by kernel_rfl
@[simp] theorem ft_128 : ftOf Tryd.prog 128 = some (0, [(127, 0, 0)]) := by kernel_rfl
@[simp] theorem fd_128_0 : fldOf Tryd.prog 128 0 = some (0, 0, true) := by kernel_rfl
@[simp] theorem bd_128 : bldOf Tryd.prog 128 = some ([(0, 0)], []) := by kernel_rfl
@[simp] theorem by_128 : byOf Tryd.prog 128 = some 0 := by kernel_rfl
@[simp] theorem sz_129 : szOf Tryd.prog 129 = some 0 := by kernel_rfl
@[simp] theorem ag_129 : aggOf Tryd.prog 129 = some true := by kernel_rfl
@[simp] theorem zo_129 : zOf Tryd.prog 129 = some (.agg []) := by kernel_rfl
@[simp] theorem ft_129 : ftOf Tryd.prog 129 = some (0, [(127, 0, 0)]) := by kernel_rfl
@[simp] theorem fd_129_0 : fldOf Tryd.prog 129 0 = some (0, 0, true) := by kernel_rfl
@[simp] theorem bd_129 : bldOf Tryd.prog 129 = some ([(0, 0)], []) := by kernel_rfl
@[simp] theorem by_129 : byOf Tryd.prog 129 = some 0 := by kernel_rfl
@[simp] theorem sz_130 : szOf Tryd.prog 130 = some 1 := by kernel_rfl
@[simp] theorem ag_130 : aggOf Tryd.prog 130 = some false := by kernel_rfl
@[simp] theorem zo_130 : zOf Tryd.prog 130 = some (.nilf) := by kernel_rfl
@[simp] theorem by_130 : byOf Tryd.prog 130 = some 8 := by kernel_rfl
@[simp] theorem sz_131 : szOf Tryd.prog 131 = some 1 := by kernel_rfl
@[simp] theorem ag_131 : aggOf Tryd.prog 131 = some false := by kernel_rfl
@[simp] theorem zo_131 : zOf Tryd.prog 131 = some (.int .u8 0) := by kernel_rfl
@[simp] theorem un_131 : Tryd.prog.underlying 131 = some (.int .u8) := by kernel_rfl
@[simp] theorem by_131 : byOf Tryd.prog 131 = some 1 := by kernel_rfl
@[simp] theorem sz_132 : szOf Tryd.prog 132 = some 1 := by kernel_rfl
@[simp] theorem ag_132 : aggOf Tryd.prog 132 = some false := by kernel_rfl
@[simp] theorem zo_132 : zOf Tryd.prog 132 = some (.int .u8 0) := by kernel_rfl
@[simp] theorem un_132 : Tryd.prog.underlying 132 = some (.int .u8) := by kernel_rfl
@[simp] theorem by_132 : byOf Tryd.prog 132 = some 1 := by kernel_rfl
@[simp] theorem sz_133 : szOf Tryd.prog 133 = some 1 := by kernel_rfl
@[simp] theorem ag_133 : aggOf Tryd.prog 133 = some false := by kernel_rfl
@[simp] theorem zo_133 : zOf Tryd.prog 133 = some (.nilf) := by kernel_rfl
@[simp] theorem by_133 : byOf Tryd.prog 133 = some 8 := by kernel_rfl
@[simp] theorem sz_134 : szOf Tryd.prog 134 = some 1 := by kernel_rfl
@[simp] theorem ag_134 : aggOf Tryd.prog 134 = some false := by kernel_rfl
@[simp] theorem zo_134 : zOf Tryd.prog 134 = some (.nilp) := by kernel_rfl
@[simp] theorem un_134 : Tryd.prog.underlying 134 = some (.pointer 5) := by kernel_rfl
@[simp] theorem by_134 : byOf Tryd.prog 134 = some 8 := by kernel_rfl
@[simp] theorem sz_135 : szOf Tryd.prog 135 = some 1 := by kernel_rfl
@[simp] theorem ag_135 : aggOf Tryd.prog 135 = some false := by kernel_rfl
@[simp] theorem zo_135 : zOf Tryd.prog 135 = some (.int .i32 0) := by kernel_rfl
@[simp] theorem un_135 : Tryd.prog.underlying 135 = some (.int .i32) := by kernel_rfl
@[simp] theorem by_135 : byOf Tryd.prog 135 = some 4 := by kernel_rfl
@[simp] theorem sz_136 : szOf Tryd.prog 136 = some 1 := by kernel_rfl
@[simp] theorem ag_136 : aggOf Tryd.prog 136 = some false := by kernel_rfl
@[simp] theorem zo_136 : zOf Tryd.prog 136 = some (.int .i32 0) := by kernel_rfl
@[simp] theorem un_136 : Tryd.prog.underlying 136 = some (.int .i32) := by kernel_rfl
@[simp] theorem by_136 : byOf Tryd.prog 136 = some 4 := by kernel_rfl
@[simp] theorem sz_137 : szOf Tryd.prog 137 = some 11 := by kernel_rfl
@[simp] theorem ag_137 : aggOf Tryd.prog 137 = some true := by kernel_rfl
@[simp] theorem zo_137 : zOf Tryd.prog 137 = some (.agg [.int .u64 0, .int .u64 0, .int .u32 0, .int .u8 0, .int .u8 0, .int .u8 0, .int .u8 0, .nilf, .nilp, .int .i32 0, .int .i32 0]) := by kernel_rfl
@[simp] theorem ft_137 : ftOf Tryd.prog 137 = some (11, [(12, 0, 1), (12, 1, 1), (116, 2, 1), (131, 3, 1), (5, 4, 1), (5, 5, 1), (132, 6, 1), (133, 7, 1), (134, 8, 1), (135, 9, 1), (136, 10, 1)]) := by kernel_rfl
@[simp] theorem fd_137_0 : fldOf Tryd.prog 137 0 = some (0, 1, false) := by kernel_rfl
@[simp] theorem fd_137_1 : fldOf Tryd.prog 137 1 = some (1, 1, false) := by kernel_rfl
@[simp] theorem fd_137_2 : fldOf Tryd.prog 137 2 = some (2, 1, false) := by kernel_rfl
@[simp] theorem fd_137_3 : fldOf Tryd.prog 137 3 = some (3, 1, false) := by kernel_rfl
@[simp] theorem fd_137_4 : fldOf Tryd.prog 137 4 = some (4, 1, false) := by kernel_rfl
@[simp] theorem fd_137_5 : fldOf Tryd.prog 137 5 = some (5, 1, false) := by kernel_rfl
@[simp] theorem fd_137_6 : fldOf Tryd.prog 137 6 = some (6, 1, false) := by kernel_rfl
@[simp] theorem fd_137_7 : fldOf Tryd.prog 137 7 = some (7, 1, false) := by kernel_rfl
@[simp] theorem fd_137_8 : fldOf Tryd.prog 137 8 = some (8, 1, false) := by kernel_rfl
@[simp] theorem fd_137_9 : fldOf Tryd.prog 137 9 = some (9, 1, false) := by kernel_rfl
@[simp] theorem fd_137_10 : fldOf Tryd.prog 137 10 = some (10, 1, false) := by kernel_rfl
@[simp] theorem bd_137 : bldOf Tryd.prog 137 = some ([(0, 1), (1, 1), (2, 1), (3, 1), (4, 1), (5, 1), (6, 1), (7, 1), (8, 1), (9, 1), (10, 1)], [.int .u64 0, .int .u64 0, .int .u32 0, .int .u8 0, .int .u8 0, .int .u8 0, .int .u8 0, .nilf, .nilp, .int .i32 0, .int .i32 0]) := by kernel_rfl
@[simp] theorem by_137 : byOf Tryd.prog 137 = some 48 := by kernel_rfl
@[simp] theorem sz_138 : szOf Tryd.prog 138 = some 11 := by kernel_rfl
@[simp] theorem ag_138 : aggOf Tryd.prog 138 = some true := by kernel_rfl
@[simp] theorem zo_138 : zOf Tryd.prog 138 = some (.agg [.int .u64 0, .int .u64 0, .int .u32 0, .int .u8 0, .int .u8 0, .int .u8 0, .int .u8 0, .nilf, .nilp, .int .i32 0, .int .i32 0]) := by kernel_rfl
@[simp] theorem ft_138 : ftOf Tryd.prog 138 = some (11, [(12, 0, 1), (12, 1, 1), (116, 2, 1), (131, 3, 1), (5, 4, 1), (5, 5, 1), (132, 6, 1), (133, 7, 1), (134, 8, 1), (135, 9, 1), (136, 10, 1)]) := by kernel_rfl
@[simp] theorem fd_138_0 : fldOf Tryd.prog 138 0 = some (0, 1, false) := by kernel_rfl
@[simp] theorem fd_138_1 : fldOf Tryd.prog 138 1 = some (1, 1, false) := by kernel_rfl
@[simp] theorem fd_138_2 : fldOf Tryd.prog 138 2 = some (2, 1, false) := by kernel_rfl
@[simp] theorem fd_138_3 : fldOf Tryd.prog 138 3 = some (3, 1, false) := by kernel_rfl
@[simp] theorem fd_138_4 : fldOf Tryd.prog 138 4 = some (4, 1, false) := by kernel_rfl
@[simp] theorem fd_138_5 : fldOf Tryd.prog 138 5 = some (5, 1, false) := by kernel_rfl
@[simp] theorem fd_138_6 : fldOf Tryd.prog 138 6 = some (6, 1, false) := by kernel_rfl
@[simp] theorem fd_138_7 : fldOf Tryd.prog 138 7 = some (7, 1, false) := by kernel_rfl
@[simp] theorem fd_138_8 : fldOf Tryd.prog 138 8 = some (8, 1, false) := by kernel_rfl
@[simp] theorem fd_138_9 : fldOf Tryd.prog 138 9 = some (9, 1, false) := by kernel_rfl
@[simp] theorem fd_138_10 : fldOf Tryd.prog 138 10 = some (10, 1, false) := by kernel_rfl
@[simp] theorem bd_138 : bldOf Tryd.prog 138 = some ([(0, 1), (1, 1), (2, 1), (3, 1), (4, 1), (5, 1), (6, 1), (7, 1), (8, 1), (9, 1), (10, 1)], [.int .u64 0, .int .u64 0, .int .u32 0, .int .u8 0, .int .u8 0, .int .u8 0, .int .u8 0, .nilf, .nilp, .int .i32 0, .int .i32 0]) := by kernel_rfl
@[simp] theorem by_138 : byOf Tryd.prog 138 = some 48 := by kernel_rfl
def allS : List Nat := [2, 3, 4, 5, 6, 7, 8, 9, 10, 11, 12, 13, 14, 21, 22, 23, 25, 26, 27, 28, 29, 30, 31, 35, 36, 38, 40, 41, 56, 57, 58, 75, 76, 77, 78, 79, 85, 110, 116, 131, 132, 135, 136]
theorem plain_all : plainS Tryd.prog allS = true := by kernel_rfl
end Go.Proofs.YtaahlhhpmooliaaDoor.PL
