/- What the program's types are, as it is asked in the steps. -/
import Derived.Test.YtjplcdeaedflpaaDoorPLd
import Derived.Test.YtjplcdeaedflpaaDoorProg
import Derived.KernelRfl
namespace Go.Proofs.YtjplcdeaedflpaaDoor.PL
open Go.Proofs
theorem mix : Tryd.prog.follows .mixedOrders = true := by kernel_rfl
@[simp] theorem sz_1 : szOf Tryd.prog 1 = some 1 := by kernel_rfl
@[simp] theorem ag_1 : aggOf Tryd.prog 1 = some false := by kernel_rfl
@[simp] theorem zo_1 : zOf Tryd.prog 1 = some (.nilf) := by kernel_rfl
@[simp] theorem by_1 : byOf Tryd.prog 1 = some 8 := by kernel_rfl
@[simp] theorem sz_2 : szOf Tryd.prog 2 = some 1 := by kernel_rfl
@[simp] theorem ag_2 : aggOf Tryd.prog 2 = some false := by kernel_rfl
@[simp] theorem zo_2 : zOf Tryd.prog 2 = some (.int .i64 0) := by kernel_rfl
@[simp] theorem un_2 : Tryd.prog.underlying 2 = some (.int .i64) := by kernel_rfl
@[simp] theorem by_2 : byOf Tryd.prog 2 = some 8 := by kernel_rfl
@[simp] theorem sz_3 : szOf Tryd.prog 3 = some 1 := by kernel_rfl
@[simp] theorem ag_3 : aggOf Tryd.prog 3 = some false := by kernel_rfl
@[simp] theorem zo_3 : zOf Tryd.prog 3 = some (.int .i64 0) := by kernel_rfl
@[simp] theorem un_3 : Tryd.prog.underlying 3 = some (.int .i64) := by kernel_rfl
@[simp] theorem by_3 : byOf Tryd.prog 3 = some 8 := by kernel_rfl
@[simp] theorem sz_4 : szOf Tryd.prog 4 = some 1 := by kernel_rfl
@[simp] theorem ag_4 : aggOf Tryd.prog 4 = some false := by kernel_rfl
@[simp] theorem zo_4 : zOf Tryd.prog 4 = some (.bool false) := by kernel_rfl
@[simp] theorem un_4 : Tryd.prog.underlying 4 = some (.bool) := by kernel_rfl
@[simp] theorem by_4 : byOf Tryd.prog 4 = some 1 := by kernel_rfl
@[simp] theorem sz_5 : szOf Tryd.prog 5 = some 1 := by kernel_rfl
@[simp] theorem ag_5 : aggOf Tryd.prog 5 = some false := by kernel_rfl
@[simp] theorem zo_5 : zOf Tryd.prog 5 = some (.int .u8 0) := by kernel_rfl
@[simp] theorem un_5 : Tryd.prog.underlying 5 = some (.int .u8) := by kernel_rfl
@[simp] theorem by_5 : byOf Tryd.prog 5 = some 1 := by kernel_rfl
@[simp] theorem sz_6 : szOf Tryd.prog 6 = some 1 := by kernel_rfl
@[simp] theorem ag_6 : aggOf Tryd.prog 6 = some false := by kernel_rfl
@[simp] theorem zo_6 : zOf Tryd.prog 6 = some (.int .u8 0) := by kernel_rfl
@[simp] theorem un_6 : Tryd.prog.underlying 6 = some (.int .u8) := by kernel_rfl
@[simp] theorem by_6 : byOf Tryd.prog 6 = some 1 := by kernel_rfl
@[simp] theorem sz_7 : szOf Tryd.prog 7 = some 4 := by kernel_rfl
@[simp] theorem ag_7 : aggOf Tryd.prog 7 = some true := by kernel_rfl
@[simp] theorem zo_7 : zOf Tryd.prog 7 = some (.agg [.int .i64 0, .int .i64 0, .bool false, .int .u8 0]) := by kernel_rfl
@[simp] theorem ft_7 : ftOf Tryd.prog 7 = some (4, [(2, 0, 1), (3, 1, 1), (4, 2, 1), (6, 3, 1)]) := by kernel_rfl
@[simp] theorem fd_7_0 : fldOf Tryd.prog 7 0 = some (0, 1, false) := by kernel_rfl
@[simp] theorem fd_7_1 : fldOf Tryd.prog 7 1 = some (1, 1, false) := by kernel_rfl
@[simp] theorem fd_7_2 : fldOf Tryd.prog 7 2 = some (2, 1, false) := by kernel_rfl
@[simp] theorem fd_7_3 : fldOf Tryd.prog 7 3 = some (3, 1, false) := by kernel_rfl
@[simp] theorem bd_7 : bldOf Tryd.prog 7 = some ([(0, 1), (1, 1), (2, 1), (3, 1)], [.int .i64 0, .int .i64 0, .bool false, .int .u8 0]) := by kernel_rfl
@[simp] theorem by_7 : byOf Tryd.prog 7 = some 24 := by kernel_rfl
@[simp] theorem sz_8 : szOf Tryd.prog 8 = some 4 := by kernel_rfl
@[simp] theorem ag_8 : aggOf Tryd.prog 8 = some true := by kernel_rfl
@[simp] theorem zo_8 : zOf Tryd.prog 8 = some (.agg [.int .i64 0, .int .i64 0, .bool false, .int .u8 0]) := by kernel_rfl
@[simp] theorem ft_8 : ftOf Tryd.prog 8 = some (4, [(2, 0, 1), (3, 1, 1), (4, 2, 1), (6, 3, 1)]) := by kernel_rfl
@[simp] theorem fd_8_0 : fldOf Tryd.prog 8 0 = some (0, 1, false) := by kernel_rfl
@[simp] theorem fd_8_1 : fldOf Tryd.prog 8 1 = some (1, 1, false) := by kernel_rfl
@[simp] theorem fd_8_2 : fldOf Tryd.prog 8 2 = some (2, 1, false) := by kernel_rfl
@[simp] theorem fd_8_3 : fldOf Tryd.prog 8 3 = some (3, 1, false) := by kernel_rfl
@[simp] theorem bd_8 : bldOf Tryd.prog 8 = some ([(0, 1), (1, 1), (2, 1), (3, 1)], [.int .i64 0, .int .i64 0, .bool false, .int .u8 0]) := by kernel_rfl
@[simp] theorem by_8 : byOf Tryd.prog 8 = some 24 := by kernel_rfl
@[simp] theorem sz_9 : szOf Tryd.prog 9 = some 1 := by kernel_rfl
@[simp] theorem ag_9 : aggOf Tryd.prog 9 = some false := by kernel_rfl
@[simp] theorem zo_9 : zOf Tryd.prog 9 = some (.str ⟨#[]⟩) := by kernel_rfl
@[simp] theorem un_9 : Tryd.prog.underlying 9 = some (.string) := by kernel_rfl
@[simp] theorem by_9 : byOf Tryd.prog 9 = some 16 := by kernel_rfl
@[simp] theorem sz_10 : szOf Tryd.prog 10 = some 1 := by kernel_rfl
@[simp] theorem ag_10 : aggOf Tryd.prog 10 = some false := by kernel_rfl
@[simp] theorem zo_10 : zOf Tryd.prog 10 = some (.str ⟨#[]⟩) := by kernel_rfl
@[simp] theorem un_10 : Tryd.prog.underlying 10 = some (.string) := by kernel_rfl
@[simp] theorem by_10 : byOf Tryd.prog 10 = some 16 := by kernel_rfl
@[simp] theorem sz_11 : szOf Tryd.prog 11 = some 1 := by kernel_rfl
@[simp] theorem ag_11 : aggOf Tryd.prog 11 = some false := by kernel_rfl
@[simp] theorem zo_11 : zOf Tryd.prog 11 = some (.str ⟨#[]⟩) := by kernel_rfl
@[simp] theorem un_11 : Tryd.prog.underlying 11 = some (.string) := by kernel_rfl
@[simp] theorem by_11 : byOf Tryd.prog 11 = some 16 := by kernel_rfl
@[simp] theorem sz_12 : szOf Tryd.prog 12 = some 1 := by kernel_rfl
@[simp] theorem ag_12 : aggOf Tryd.prog 12 = some false := by kernel_rfl
@[simp] theorem zo_12 : zOf Tryd.prog 12 = some (.int .u64 0) := by kernel_rfl
@[simp] theorem un_12 : Tryd.prog.underlying 12 = some (.int .u64) := by kernel_rfl
@[simp] theorem by_12 : byOf Tryd.prog 12 = some 8 := by kernel_rfl
@[simp] theorem sz_13 : szOf Tryd.prog 13 = some 2 := by kernel_rfl
@[simp] theorem ag_13 : aggOf Tryd.prog 13 = some true := by kernel_rfl
@[simp] theorem zo_13 : zOf Tryd.prog 13 = some (.agg [.str ⟨#[]⟩, .int .u64 0]) := by kernel_rfl
@[simp] theorem ft_13 : ftOf Tryd.prog 13 = some (2, [(9, 0, 1), (12, 1, 1)]) := by kernel_rfl
@[simp] theorem fd_13_0 : fldOf Tryd.prog 13 0 = some (0, 1, false) := by kernel_rfl
@[simp] theorem fd_13_1 : fldOf Tryd.prog 13 1 = some (1, 1, false) := by kernel_rfl
@[simp] theorem bd_13 : bldOf Tryd.prog 13 = some ([(0, 1), (1, 1)], [.str ⟨#[]⟩, .int .u64 0]) := by kernel_rfl
@[simp] theorem by_13 : byOf Tryd.prog 13 = some 24 := by kernel_rfl
@[simp] theorem sz_14 : szOf Tryd.prog 14 = some 2 := by kernel_rfl
@[simp] theorem ag_14 : aggOf Tryd.prog 14 = some true := by kernel_rfl
@[simp] theorem zo_14 : zOf Tryd.prog 14 = some (.agg [.str ⟨#[]⟩, .int .u64 0]) := by kernel_rfl
@[simp] theorem ft_14 : ftOf Tryd.prog 14 = some (2, [(9, 0, 1), (12, 1, 1)]) := by kernel_rfl
@[simp] theorem fd_14_0 : fldOf Tryd.prog 14 0 = some (0, 1, false) := by kernel_rfl
@[simp] theorem fd_14_1 : fldOf Tryd.prog 14 1 = some (1, 1, false) := by kernel_rfl
@[simp] theorem bd_14 : bldOf Tryd.prog 14 = some ([(0, 1), (1, 1)], [.str ⟨#[]⟩, .int .u64 0]) := by kernel_rfl
@[simp] theorem by_14 : byOf Tryd.prog 14 = some 24 := by kernel_rfl
@[simp] theorem sz_15 : szOf Tryd.prog 15 = some 1 := by kernel_rfl
@[simp] theorem ag_15 : aggOf Tryd.prog 15 = some false := by kernel_rfl
@[simp] theorem zo_15 : zOf Tryd.prog 15 = some (.nilp) := by kernel_rfl
@[simp] theorem un_15 : Tryd.prog.underlying 15 = some (.pointer 119) := by kernel_rfl
@[simp] theorem by_15 : byOf Tryd.prog 15 = some 8 := by kernel_rfl
@[simp] theorem sz_16 : szOf Tryd.prog 16 = some 1 := by kernel_rfl
@[simp] theorem ag_16 : aggOf Tryd.prog 16 = some false := by kernel_rfl
@[simp] theorem zo_16 : zOf Tryd.prog 16 = some (.nilp) := by kernel_rfl
@[simp] theorem un_16 : Tryd.prog.underlying 16 = some (.pointer 122) := by kernel_rfl
@[simp] theorem by_16 : byOf Tryd.prog 16 = some 8 := by kernel_rfl
@[simp] theorem sz_17 : szOf Tryd.prog 17 = some 1 := by kernel_rfl
@[simp] theorem ag_17 : aggOf Tryd.prog 17 = some false := by kernel_rfl
@[simp] theorem zo_17 : zOf Tryd.prog 17 = some (.nilp) := by kernel_rfl
@[simp] theorem un_17 : Tryd.prog.underlying 17 = some (.pointer 131) := by kernel_rfl
@[simp] theorem by_17 : byOf Tryd.prog 17 = some 8 := by kernel_rfl
@[simp] theorem sz_18 : szOf Tryd.prog 18 = some 1 := by kernel_rfl
@[simp] theorem ag_18 : aggOf Tryd.prog 18 = some true := by kernel_rfl
@[simp] theorem zo_18 : zOf Tryd.prog 18 = some (.agg [.nilp]) := by kernel_rfl
@[simp] theorem ft_18 : ftOf Tryd.prog 18 = some (1, [(17, 0, 1)]) := by kernel_rfl
@[simp] theorem fd_18_0 : fldOf Tryd.prog 18 0 = some (0, 1, false) := by kernel_rfl
@[simp] theorem bd_18 : bldOf Tryd.prog 18 = some ([(0, 1)], [.nilp]) := by kernel_rfl
@[simp] theorem by_18 : byOf Tryd.prog 18 = some 8 := by kernel_rfl
@[simp] theorem sz_19 : szOf Tryd.prog 19 = some 1 := by kernel_rfl
@[simp] theorem ag_19 : aggOf Tryd.prog 19 = some true := by kernel_rfl
@[simp] theorem zo_19 : zOf Tryd.prog 19 = some (.agg [.nilp]) := by kernel_rfl
@[simp] theorem ft_19 : ftOf Tryd.prog 19 = some (1, [(17, 0, 1)]) := by kernel_rfl
@[simp] theorem fd_19_0 : fldOf Tryd.prog 19 0 = some (0, 1, false) := by kernel_rfl
@[simp] theorem bd_19 : bldOf Tryd.prog 19 = some ([(0, 1)], [.nilp]) := by kernel_rfl
@[simp] theorem by_19 : byOf Tryd.prog 19 = some 8 := by kernel_rfl
@[simp] theorem sz_21 : szOf Tryd.prog 21 = some 1 := by kernel_rfl
@[simp] theorem ag_21 : aggOf Tryd.prog 21 = some false := by kernel_rfl
@[simp] theorem zo_21 : zOf Tryd.prog 21 = some (.int .i32 0) := by kernel_rfl
@[simp] theorem un_21 : Tryd.prog.underlying 21 = some (.int .i32) := by kernel_rfl
@[simp] theorem by_21 : byOf Tryd.prog 21 = some 4 := by kernel_rfl
@[simp] theorem sz_22 : szOf Tryd.prog 22 = some 1 := by kernel_rfl
@[simp] theorem ag_22 : aggOf Tryd.prog 22 = some false := by kernel_rfl
@[simp] theorem zo_22 : zOf Tryd.prog 22 = some (.sl .exact []) := by kernel_rfl
@[simp] theorem sl_22 : slOf Tryd.prog 22 = some (3, 1) := by kernel_rfl
@[simp] theorem li_22 : litOf Tryd.prog 22 = some (false, 1, [.int .i64 0]) := by kernel_rfl
@[simp] theorem un_22 : Tryd.prog.underlying 22 = some (.slice 3) := by kernel_rfl
@[simp] theorem by_22 : byOf Tryd.prog 22 = some 24 := by kernel_rfl
@[simp] theorem sz_23 : szOf Tryd.prog 23 = some 1 := by kernel_rfl
@[simp] theorem ag_23 : aggOf Tryd.prog 23 = some false := by kernel_rfl
@[simp] theorem zo_23 : zOf Tryd.prog 23 = some (.sl .exact []) := by kernel_rfl
@[simp] theorem sl_23 : slOf Tryd.prog 23 = some (31, 1) := by kernel_rfl
@[simp] theorem li_23 : litOf Tryd.prog 23 = some (false, 1, [.sl .exact []]) := by kernel_rfl
@[simp] theorem un_23 : Tryd.prog.underlying 23 = some (.slice 31) := by kernel_rfl
@[simp] theorem by_23 : byOf Tryd.prog 23 = some 24 := by kernel_rfl
@[simp] theorem sz_24 : szOf Tryd.prog 24 = some 2 := by kernel_rfl
@[simp] theorem ag_24 : aggOf Tryd.prog 24 = some true := by kernel_rfl
@[simp] theorem zo_24 : zOf Tryd.prog 24 = some (.agg [.sl .exact [], .sl .exact []]) := by kernel_rfl
@[simp] theorem ft_24 : ftOf Tryd.prog 24 = some (2, [(22, 0, 1), (23, 1, 1)]) := by kernel_rfl
@[simp] theorem fd_24_0 : fldOf Tryd.prog 24 0 = some (0, 1, false) := by kernel_rfl
@[simp] theorem fd_24_1 : fldOf Tryd.prog 24 1 = some (1, 1, false) := by kernel_rfl
@[simp] theorem bd_24 : bldOf Tryd.prog 24 = some ([(0, 1), (1, 1)], [.sl .exact [], .sl .exact []]) := by kernel_rfl
@[simp] theorem by_24 : byOf Tryd.prog 24 = some 48 := by kernel_rfl
@[simp] theorem sz_25 : szOf Tryd.prog 25 = some 2 := by kernel_rfl
@[simp] theorem ag_25 : aggOf Tryd.prog 25 = some true := by kernel_rfl
@[simp] theorem zo_25 : zOf Tryd.prog 25 = some (.agg [.sl .exact [], .sl .exact []]) := by kernel_rfl
@[simp] theorem ft_25 : ftOf Tryd.prog 25 = some (2, [(22, 0, 1), (23, 1, 1)]) := by kernel_rfl
@[simp] theorem fd_25_0 : fldOf Tryd.prog 25 0 = some (0, 1, false) := by kernel_rfl
@[simp] theorem fd_25_1 : fldOf Tryd.prog 25 1 = some (1, 1, false) := by kernel_rfl
@[simp] theorem bd_25 : bldOf Tryd.prog 25 = some ([(0, 1), (1, 1)], [.sl .exact [], .sl .exact []]) := by kernel_rfl
@[simp] theorem by_25 : byOf Tryd.prog 25 = some 48 := by kernel_rfl
@[simp] theorem sz_26 : szOf Tryd.prog 26 = some 1 := by kernel_rfl
@[simp] theorem ag_26 : aggOf Tryd.prog 26 = some false := by kernel_rfl
@[simp] theorem zo_26 : zOf Tryd.prog 26 = some (.nilf) := by kernel_rfl
@[simp] theorem by_26 : byOf Tryd.prog 26 = some 8 := by kernel_rfl
@[simp] theorem sz_27 : szOf Tryd.prog 27 = some 1 := by kernel_rfl
@[simp] theorem ag_27 : aggOf Tryd.prog 27 = some false := by kernel_rfl
@[simp] theorem zo_27 : zOf Tryd.prog 27 = some (.nilf) := by kernel_rfl
@[simp] theorem by_27 : byOf Tryd.prog 27 = some 8 := by kernel_rfl
@[simp] theorem sz_28 : szOf Tryd.prog 28 = some 1 := by kernel_rfl
@[simp] theorem ag_28 : aggOf Tryd.prog 28 = some false := by kernel_rfl
@[simp] theorem zo_28 : zOf Tryd.prog 28 = some (.nilf) := by kernel_rfl
@[simp] theorem by_28 : byOf Tryd.prog 28 = some 8 := by kernel_rfl
@[simp] theorem sz_29 : szOf Tryd.prog 29 = some 1 := by kernel_rfl
@[simp] theorem ag_29 : aggOf Tryd.prog 29 = some false := by kernel_rfl
@[simp] theorem zo_29 : zOf Tryd.prog 29 = some (.nilf) := by kernel_rfl
@[simp] theorem by_29 : byOf Tryd.prog 29 = some 8 := by kernel_rfl
@[simp] theorem sz_30 : szOf Tryd.prog 30 = some 1 := by kernel_rfl
@[simp] theorem ag_30 : aggOf Tryd.prog 30 = some false := by kernel_rfl
@[simp] theorem zo_30 : zOf Tryd.prog 30 = some (.nilf) := by kernel_rfl
@[simp] theorem by_30 : byOf Tryd.prog 30 = some 8 := by kernel_rfl
@[simp] theorem sz_31 : szOf Tryd.prog 31 = some 1 := by kernel_rfl
@[simp] theorem ag_31 : aggOf Tryd.prog 31 = some false := by kernel_rfl
@[simp] theorem zo_31 : zOf Tryd.prog 31 = some (.sl .exact []) := by kernel_rfl
@[simp] theorem sl_31 : slOf Tryd.prog 31 = some (36, 3) := by kernel_rfl
@[simp] theorem li_31 : litOf Tryd.prog 31 = some (true, 3, [.int .i64 0, .int .i64 0, .str ⟨#[]⟩]) := by kernel_rfl
@[simp] theorem un_31 : Tryd.prog.underlying 31 = some (.slice 36) := by kernel_rfl
@[simp] theorem by_31 : byOf Tryd.prog 31 = some 24 := by kernel_rfl
@[simp] theorem sz_32 : szOf Tryd.prog 32 = some 1 := by kernel_rfl
@[simp] theorem ag_32 : aggOf Tryd.prog 32 = some false := by kernel_rfl
@[simp] theorem zo_32 : zOf Tryd.prog 32 = some (.nilf) := by kernel_rfl
@[simp] theorem by_32 : byOf Tryd.prog 32 = some 8 := by kernel_rfl
@[simp] theorem sz_33 : szOf Tryd.prog 33 = some 1 := by kernel_rfl
@[simp] theorem ag_33 : aggOf Tryd.prog 33 = some false := by kernel_rfl
@[simp] theorem zo_33 : zOf Tryd.prog 33 = some (.nilf) := by kernel_rfl
@[simp] theorem by_33 : byOf Tryd.prog 33 = some 8 := by kernel_rfl
@[simp] theorem sz_34 : szOf Tryd.prog 34 = some 1 := by kernel_rfl
@[simp] theorem ag_34 : aggOf Tryd.prog 34 = some false := by kernel_rfl
@[simp] theorem zo_34 : zOf Tryd.prog 34 = some (.nilf) := by kernel_rfl
@[simp] theorem by_34 : byOf Tryd.prog 34 = some 8 := by kernel_rfl
@[simp] theorem sz_35 : szOf Tryd.prog 35 = some 3 := by kernel_rfl
@[simp] theorem ag_35 : aggOf Tryd.prog 35 = some true := by kernel_rfl
@[simp] theorem zo_35 : zOf Tryd.prog 35 = some (.agg [.int .i64 0, .int .i64 0, .str ⟨#[]⟩]) := by kernel_rfl
@[simp] theorem ft_35 : ftOf Tryd.prog 35 = some (3, [(3, 0, 1), (3, 1, 1), (9, 2, 1)]) := by kernel_rfl
@[simp] theorem fd_35_0 : fldOf Tryd.prog 35 0 = some (0, 1, false) := by kernel_rfl
@[simp] theorem fd_35_1 : fldOf Tryd.prog 35 1 = some (1, 1, false) := by kernel_rfl
@[simp] theorem fd_35_2 : fldOf Tryd.prog 35 2 = some (2, 1, false) := by kernel_rfl
@[simp] theorem bd_35 : bldOf Tryd.prog 35 = some ([(0, 1), (1, 1), (2, 1)], [.int .i64 0, .int .i64 0, .str ⟨#[]⟩]) := by kernel_rfl
@[simp] theorem by_35 : byOf Tryd.prog 35 = some 32 := by kernel_rfl
@[simp] theorem sz_36 : szOf Tryd.prog 36 = some 3 := by kernel_rfl
@[simp] theorem ag_36 : aggOf Tryd.prog 36 = some true := by kernel_rfl
@[simp] theorem zo_36 : zOf Tryd.prog 36 = some (.agg [.int .i64 0, .int .i64 0, .str ⟨#[]⟩]) := by kernel_rfl
@[simp] theorem ft_36 : ftOf Tryd.prog 36 = some (3, [(3, 0, 1), (3, 1, 1), (9, 2, 1)]) := by kernel_rfl
@[simp] theorem fd_36_0 : fldOf Tryd.prog 36 0 = some (0, 1, false) := by kernel_rfl
@[simp] theorem fd_36_1 : fldOf Tryd.prog 36 1 = some (1, 1, false) := by kernel_rfl
@[simp] theorem fd_36_2 : fldOf Tryd.prog 36 2 = some (2, 1, false) := by kernel_rfl
@[simp] theorem bd_36 : bldOf Tryd.prog 36 = some ([(0, 1), (1, 1), (2, 1)], [.int .i64 0, .int .i64 0, .str ⟨#[]⟩]) := by kernel_rfl
@[simp] theorem eqt_36 {a0 b0 : Int} {a1 b1 : Int} {a2 b2 : ByteArray} : EqT Tryd.prog 36 [.int .i64 a0, .int .i64 a1, .str a2] [.int .i64 b0, .int .i64 b1, .str b2] = True := eq_true (EqT.flat [.int, .int, .str] (by kernel_rfl) rfl rfl (by simp [kindsFit]))
@[simp] theorem by_36 : byOf Tryd.prog 36 = some 32 := by kernel_rfl
@[simp] theorem sz_37 : szOf Tryd.prog 37 = some 1 := by kernel_rfl
@[simp] theorem ag_37 : aggOf Tryd.prog 37 = some false := by kernel_rfl
@[simp] theorem zo_37 : zOf Tryd.prog 37 = some (.nilf) := by kernel_rfl
@[simp] theorem by_37 : byOf Tryd.prog 37 = some 8 := by kernel_rfl
@[simp] theorem sz_38 : szOf Tryd.prog 38 = some 1 := by kernel_rfl
@[simp] theorem ag_38 : aggOf Tryd.prog 38 = some false := by kernel_rfl
@[simp] theorem zo_38 : zOf Tryd.prog 38 = some (.nilf) := by kernel_rfl
@[simp] theorem by_38 : byOf Tryd.prog 38 = some 8 := by kernel_rfl
@[simp] theorem sz_39 : szOf Tryd.prog 39 = some 1 := by kernel_rfl
@[simp] theorem ag_39 : aggOf Tryd.prog 39 = some false := by kernel_rfl
@[simp] theorem zo_39 : zOf Tryd.prog 39 = some (.nilf) := by kernel_rfl
@[simp] theorem by_39 : byOf Tryd.prog 39 = some 8 := by kernel_rfl
@[simp] theorem sz_40 : szOf Tryd.prog 40 = some 1 := by kernel_rfl
@[simp] theorem ag_40 : aggOf Tryd.prog 40 = some false := by kernel_rfl
@[simp] theorem zo_40 : zOf Tryd.prog 40 = some (.nilm) := by kernel_rfl
@[simp] theorem un_40 : Tryd.prog.underlying 40 = some (.map 9 22) := by kernel_rfl
@[simp] theorem mp_40 : mapOf Tryd.prog 40 = some (9, .sl .exact []) := by kernel_rfl
@[simp] theorem by_40 : byOf Tryd.prog 40 = some 8 := by kernel_rfl
@[simp] theorem sz_41 : szOf Tryd.prog 41 = some 4 := by kernel_rfl
@[simp] theorem ag_41 : aggOf Tryd.prog 41 = some true := by kernel_rfl
@[simp] theorem zo_41 : zOf Tryd.prog 41 = some (.agg [.sl .exact [], .sl .exact [], .sl .exact [], .nilm]) := by kernel_rfl
@[simp] theorem ft_41 : ftOf Tryd.prog 41 = some (4, [(25, 0, 2), (22, 2, 1), (40, 3, 1)]) := by kernel_rfl
@[simp] theorem fd_41_0 : fldOf Tryd.prog 41 0 = some (0, 2, true) := by kernel_rfl
@[simp] theorem fd_41_1 : fldOf Tryd.prog 41 1 = some (2, 1, false) := by kernel_rfl
@[simp] theorem fd_41_2 : fldOf Tryd.prog 41 2 = some (3, 1, false) := by kernel_rfl
@[simp] theorem bd_41 : bldOf Tryd.prog 41 = some ([(0, 2), (2, 1), (3, 1)], [.sl .exact [], .sl .exact [], .sl .exact [], .nilm]) := by kernel_rfl
@[simp] theorem by_41 : byOf Tryd.prog 41 = some 80 := by kernel_rfl
@[simp] theorem sz_42 : szOf Tryd.prog 42 = some 4 := by kernel_rfl
@[simp] theorem ag_42 : aggOf Tryd.prog 42 = some true := by kernel_rfl
@[simp] theorem zo_42 : zOf Tryd.prog 42 = some (.agg [.sl .exact [], .sl .exact [], .sl .exact [], .nilm]) := by kernel_rfl
@[simp] theorem ft_42 : ftOf Tryd.prog 42 = some (4, [(25, 0, 2), (22, 2, 1), (40, 3, 1)]) := by kernel_rfl
@[simp] theorem fd_42_0 : fldOf Tryd.prog 42 0 = some (0, 2, true) := by kernel_rfl
@[simp] theorem fd_42_1 : fldOf Tryd.prog 42 1 = some (2, 1, false) := by kernel_rfl
@[simp] theorem fd_42_2 : fldOf Tryd.prog 42 2 = some (3, 1, false) := by kernel_rfl
@[simp] theorem bd_42 : bldOf Tryd.prog 42 = some ([(0, 2), (2, 1), (3, 1)], [.sl .exact [], .sl .exact [], .sl .exact [], .nilm]) := by kernel_rfl
@[simp] theorem by_42 : byOf Tryd.prog 42 = some 80 := by kernel_rfl
@[simp] theorem sz_43 : szOf Tryd.prog 43 = some 1 := by kernel_rfl
@[simp] theorem ag_43 : aggOf Tryd.prog 43 = some false := by kernel_rfl
@[simp] theorem zo_43 : zOf Tryd.prog 43 = some (.nilf) := by kernel_rfl
@[simp] theorem by_43 : byOf Tryd.prog 43 = some 8 := by kernel_rfl
@[simp] theorem sz_44 : szOf Tryd.prog 44 = some 1 := by kernel_rfl
@[simp] theorem ag_44 : aggOf Tryd.prog 44 = some false := by kernel_rfl
@[simp] theorem zo_44 : zOf Tryd.prog 44 = some (.nilf) := by kernel_rfl
@[simp] theorem by_44 : byOf Tryd.prog 44 = some 8 := by kernel_rfl
@[simp] theorem sz_45 : szOf Tryd.prog 45 = some 1 := by kernel_rfl
@[simp] theorem ag_45 : aggOf Tryd.prog 45 = some false := by kernel_rfl
@[simp] theorem zo_45 : zOf Tryd.prog 45 = some (.sl .exact []) := by kernel_rfl
@[simp] theorem sl_45 : slOf Tryd.prog 45 = some (22, 1) := by kernel_rfl
@[simp] theorem li_45 : litOf Tryd.prog 45 = some (false, 1, [.sl .exact []]) := by kernel_rfl
@[simp] theorem un_45 : Tryd.prog.underlying 45 = some (.slice 22) := by kernel_rfl
@[simp] theorem by_45 : byOf Tryd.prog 45 = some 24 := by kernel_rfl
@[simp] theorem sz_46 : szOf Tryd.prog 46 = some 1 := by kernel_rfl
@[simp] theorem ag_46 : aggOf Tryd.prog 46 = some false := by kernel_rfl
@[simp] theorem zo_46 : zOf Tryd.prog 46 = some (.nilf) := by kernel_rfl
@[simp] theorem by_46 : byOf Tryd.prog 46 = some 8 := by kernel_rfl
@[simp] theorem sz_47 : szOf Tryd.prog 47 = some 1 := by kernel_rfl
@[simp] theorem ag_47 : aggOf Tryd.prog 47 = some false := by kernel_rfl
@[simp] theorem zo_47 : zOf Tryd.prog 47 = some (.nilf) := by kernel_rfl
@[simp] theorem by_47 : byOf Tryd.prog 47 = some 8 := by kernel_rfl
@[simp] theorem sz_48 : szOf Tryd.prog 48 = some 1 := by kernel_rfl
@[simp] theorem ag_48 : aggOf Tryd.prog 48 = some false := by kernel_rfl
@[simp] theorem zo_48 : zOf Tryd.prog 48 = some (.nilf) := by kernel_rfl
@[simp] theorem by_48 : byOf Tryd.prog 48 = some 8 := by kernel_rfl
@[simp] theorem sz_49 : szOf Tryd.prog 49 = some 1 := by kernel_rfl
@[simp] theorem ag_49 : aggOf Tryd.prog 49 = some false := by kernel_rfl
@[simp] theorem zo_49 : zOf Tryd.prog 49 = some (.nilf) := by kernel_rfl
@[simp] theorem by_49 : byOf Tryd.prog 49 = some 8 := by kernel_rfl
@[simp] theorem sz_50 : szOf Tryd.prog 50 = some 1 := by kernel_rfl
@[simp] theorem ag_50 : aggOf Tryd.prog 50 = some false := by kernel_rfl
@[simp] theorem zo_50 : zOf Tryd.prog 50 = some (.nilf) := by kernel_rfl
@[simp] theorem by_50 : byOf Tryd.prog 50 = some 8 := by kernel_rfl
@[simp] theorem sz_51 : szOf Tryd.prog 51 = some 1 := by kernel_rfl
@[simp] theorem ag_51 : aggOf Tryd.prog 51 = some false := by kernel_rfl
@[simp] theorem zo_51 : zOf Tryd.prog 51 = some (.nilf) := by kernel_rfl
@[simp] theorem by_51 : byOf Tryd.prog 51 = some 8 := by kernel_rfl
@[simp] theorem sz_52 : szOf Tryd.prog 52 = some 1 := by kernel_rfl
@[simp] theorem ag_52 : aggOf Tryd.prog 52 = some false := by kernel_rfl
@[simp] theorem zo_52 : zOf Tryd.prog 52 = some (.nilf) := by kernel_rfl
@[simp] theorem by_52 : byOf Tryd.prog 52 = some 8 := by kernel_rfl
@[simp] theorem sz_53 : szOf Tryd.prog 53 = some 1 := by kernel_rfl
@[simp] theorem ag_53 : aggOf Tryd.prog 53 = some false := by kernel_rfl
@[simp] theorem zo_53 : zOf Tryd.prog 53 = some (.nilf) := by kernel_rfl
@[simp] theorem by_53 : byOf Tryd.prog 53 = some 8 := by kernel_rfl
@[simp] theorem sz_54 : szOf Tryd.prog 54 = some 1 := by kernel_rfl
@[simp] theorem ag_54 : aggOf Tryd.prog 54 = some false := by kernel_rfl
@[simp] theorem zo_54 : zOf Tryd.prog 54 = some (.nilf) := by kernel_rfl
@[simp] theorem by_54 : byOf Tryd.prog 54 = some 8 := by kernel_rfl
@[simp] theorem sz_55 : szOf Tryd.prog 55 = some 1 := by kernel_rfl
@[simp] theorem ag_55 : aggOf Tryd.prog 55 = some false := by kernel_rfl
@[simp] theorem zo_55 : zOf Tryd.prog 55 = some (.nilf) := by kernel_rfl
@[simp] theorem by_55 : byOf Tryd.prog 55 = some 8 := by kernel_rfl
@[simp] theorem sz_56 : szOf Tryd.prog 56 = some 1 := by kernel_rfl
@[simp] theorem ag_56 : aggOf Tryd.prog 56 = some false := by kernel_rfl
@[simp] theorem zo_56 : zOf Tryd.prog 56 = some (.nilf) := by kernel_rfl
@[simp] theorem by_56 : byOf Tryd.prog 56 = some 8 := by kernel_rfl
@[simp] theorem sz_57 : szOf Tryd.prog 57 = some 1 := by kernel_rfl
@[simp] theorem ag_57 : aggOf Tryd.prog 57 = some false := by kernel_rfl
@[simp] theorem zo_57 : zOf Tryd.prog 57 = some (.nilf) := by kernel_rfl
@[simp] theorem by_57 : byOf Tryd.prog 57 = some 8 := by kernel_rfl
@[simp] theorem sz_58 : szOf Tryd.prog 58 = some 1 := by kernel_rfl
@[simp] theorem ag_58 : aggOf Tryd.prog 58 = some false := by kernel_rfl
@[simp] theorem zo_58 : zOf Tryd.prog 58 = some (.nilf) := by kernel_rfl
@[simp] theorem by_58 : byOf Tryd.prog 58 = some 8 := by kernel_rfl
@[simp] theorem sz_59 : szOf Tryd.prog 59 = some 1 := by kernel_rfl
@[simp] theorem ag_59 : aggOf Tryd.prog 59 = some false := by kernel_rfl
@[simp] theorem zo_59 : zOf Tryd.prog 59 = some (.nilf) := by kernel_rfl
@[simp] theorem by_59 : byOf Tryd.prog 59 = some 8 := by kernel_rfl
@[simp] theorem sz_60 : szOf Tryd.prog 60 = some 1 := by kernel_rfl
@[simp] theorem ag_60 : aggOf Tryd.prog 60 = some false := by kernel_rfl
@[simp] theorem zo_60 : zOf Tryd.prog 60 = some (.nilf) := by kernel_rfl
@[simp] theorem by_60 : byOf Tryd.prog 60 = some 8 := by kernel_rfl
@[simp] theorem sz_61 : szOf Tryd.prog 61 = some 1 := by kernel_rfl
@[simp] theorem ag_61 : aggOf Tryd.prog 61 = some false := by kernel_rfl
@[simp] theorem zo_61 : zOf Tryd.prog 61 = some (.nilf) := by kernel_rfl
@[simp] theorem by_61 : byOf Tryd.prog 61 = some 8 := by kernel_rfl
@[simp] theorem sz_62 : szOf Tryd.prog 62 = some 1 := by kernel_rfl
@[simp] theorem ag_62 : aggOf Tryd.prog 62 = some false := by kernel_rfl
@[simp] theorem zo_62 : zOf Tryd.prog 62 = some (.nilf) := by kernel_rfl
@[simp] theorem by_62 : byOf Tryd.prog 62 = some 8 := by kernel_rfl
@[simp] theorem sz_63 : szOf Tryd.prog 63 = some 1 := by kernel_rfl
@[simp] theorem ag_63 : aggOf Tryd.prog 63 = some false := by kernel_rfl
@[simp] theorem zo_63 : zOf Tryd.prog 63 = some (.nilf) := by kernel_rfl
@[simp] theorem by_63 : byOf Tryd.prog 63 = some 8 := by kernel_rfl
@[simp] theorem sz_64 : szOf Tryd.prog 64 = some 1 := by kernel_rfl
@[simp] theorem ag_64 : aggOf Tryd.prog 64 = some false := by kernel_rfl
@[simp] theorem zo_64 : zOf Tryd.prog 64 = some (.nilf) := by kernel_rfl
@[simp] theorem by_64 : byOf Tryd.prog 64 = some 8 := by kernel_rfl
@[simp] theorem sz_65 : szOf Tryd.prog 65 = some 1 := by kernel_rfl
@[simp] theorem ag_65 : aggOf Tryd.prog 65 = some false := by kernel_rfl
@[simp] theorem zo_65 : zOf Tryd.prog 65 = some (.nilf) := by kernel_rfl
@[simp] theorem by_65 : byOf Tryd.prog 65 = some 8 := by kernel_rfl
@[simp] theorem sz_66 : szOf Tryd.prog 66 = some 1 := by kernel_rfl
@[simp] theorem ag_66 : aggOf Tryd.prog 66 = some false := by kernel_rfl
@[simp] theorem zo_66 : zOf Tryd.prog 66 = some (.nilm) := by kernel_rfl
@[simp] theorem un_66 : Tryd.prog.underlying 66 = some (.map 3 3) := by kernel_rfl
@[simp] theorem mp_66 : mapOf Tryd.prog 66 = some (3, .int .i64 0) := by kernel_rfl
@[simp] theorem by_66 : byOf Tryd.prog 66 = some 8 := by kernel_rfl
@[simp] theorem sz_67 : szOf Tryd.prog 67 = some 1 := by kernel_rfl
@[simp] theorem ag_67 : aggOf Tryd.prog 67 = some false := by kernel_rfl
@[simp] theorem zo_67 : zOf Tryd.prog 67 = some (.nilf) := by kernel_rfl
@[simp] theorem by_67 : byOf Tryd.prog 67 = some 8 := by kernel_rfl
@[simp] theorem sz_68 : szOf Tryd.prog 68 = some 1 := by kernel_rfl
@[simp] theorem ag_68 : aggOf Tryd.prog 68 = some false := by kernel_rfl
@[simp] theorem zo_68 : zOf Tryd.prog 68 = some (.nilf) := by kernel_rfl
@[simp] theorem by_68 : byOf Tryd.prog 68 = some 8 := by kernel_rfl
@[simp] theorem sz_69 : szOf Tryd.prog 69 = some 1 := by kernel_rfl
@[simp] theorem ag_69 : aggOf Tryd.prog 69 = some false := by kernel_rfl
@[simp] theorem zo_69 : zOf Tryd.prog 69 = some (.nilf) := by kernel_rfl
@[simp] theorem by_69 : byOf Tryd.prog 69 = some 8 := by kernel_rfl
@[simp] theorem sz_70 : szOf Tryd.prog 70 = some 1 := by kernel_rfl
@[simp] theorem ag_70 : aggOf Tryd.prog 70 = some false := by kernel_rfl
@[simp] theorem zo_70 : zOf Tryd.prog 70 = some (.nilf) := by kernel_rfl
@[simp] theorem by_70 : byOf Tryd.prog 70 = some 8 := by kernel_rfl
@[simp] theorem sz_71 : szOf Tryd.prog 71 = some 1 := by kernel_rfl
@[simp] theorem ag_71 : aggOf Tryd.prog 71 = some false := by kernel_rfl
@[simp] theorem zo_71 : zOf Tryd.prog 71 = some (.nilf) := by kernel_rfl
@[simp] theorem by_71 : byOf Tryd.prog 71 = some 8 := by kernel_rfl
@[simp] theorem sz_72 : szOf Tryd.prog 72 = some 1 := by kernel_rfl
@[simp] theorem ag_72 : aggOf Tryd.prog 72 = some false := by kernel_rfl
@[simp] theorem zo_72 : zOf Tryd.prog 72 = some (.nilf) := by kernel_rfl
@[simp] theorem by_72 : byOf Tryd.prog 72 = some 8 := by kernel_rfl
@[simp] theorem sz_73 : szOf Tryd.prog 73 = some 1 := by kernel_rfl
@[simp] theorem ag_73 : aggOf Tryd.prog 73 = some false := by kernel_rfl
@[simp] theorem zo_73 : zOf Tryd.prog 73 = some (.nilf) := by kernel_rfl
@[simp] theorem by_73 : byOf Tryd.prog 73 = some 8 := by kernel_rfl
@[simp] theorem sz_74 : szOf Tryd.prog 74 = some 1 := by kernel_rfl
@[simp] theorem ag_74 : aggOf Tryd.prog 74 = some false := by kernel_rfl
@[simp] theorem zo_74 : zOf Tryd.prog 74 = some (.nilf) := by kernel_rfl
@[simp] theorem by_74 : byOf Tryd.prog 74 = some 8 := by kernel_rfl
@[simp] theorem sz_75 : szOf Tryd.prog 75 = some 1 := by kernel_rfl
@[simp] theorem ag_75 : aggOf Tryd.prog 75 = some false := by kernel_rfl
@[simp] theorem zo_75 : zOf Tryd.prog 75 = some (.nilf) := by kernel_rfl
@[simp] theorem by_75 : byOf Tryd.prog 75 = some 8 := by kernel_rfl
@[simp] theorem sz_76 : szOf Tryd.prog 76 = some 1 := by kernel_rfl
@[simp] theorem ag_76 : aggOf Tryd.prog 76 = some false := by kernel_rfl
@[simp] theorem zo_76 : zOf Tryd.prog 76 = some (.int .u64 0) := by kernel_rfl
@[simp] theorem un_76 : Tryd.prog.underlying 76 = some (.int .u64) := by kernel_rfl
@[simp] theorem by_76 : byOf Tryd.prog 76 = some 8 := by kernel_rfl
@[simp] theorem sz_77 : szOf Tryd.prog 77 = some 1 := by kernel_rfl
@[simp] theorem ag_77 : aggOf Tryd.prog 77 = some false := by kernel_rfl
@[simp] theorem zo_77 : zOf Tryd.prog 77 = some (.int .u64 0) := by kernel_rfl
@[simp] theorem un_77 : Tryd.prog.underlying 77 = some (.int .u64) := by kernel_rfl
@[simp] theorem by_77 : byOf Tryd.prog 77 = some 8 := by kernel_rfl
@[simp] theorem sz_78 : szOf Tryd.prog 78 = some 1 := by kernel_rfl
@[simp] theorem ag_78 : aggOf Tryd.prog 78 = some false := by kernel_rfl
@[simp] theorem zo_78 : zOf Tryd.prog 78 = some (.sl .exact []) := by kernel_rfl
@[simp] theorem sl_78 : slOf Tryd.prog 78 = some (5, 1) := by kernel_rfl
@[simp] theorem li_78 : litOf Tryd.prog 78 = some (false, 1, [.int .u8 0]) := by kernel_rfl
@[simp] theorem un_78 : Tryd.prog.underlying 78 = some (.slice 5) := by kernel_rfl
@[simp] theorem by_78 : byOf Tryd.prog 78 = some 24 := by kernel_rfl
@[simp] theorem sz_79 : szOf Tryd.prog 79 = some 1 := by kernel_rfl
@[simp] theorem ag_79 : aggOf Tryd.prog 79 = some false := by kernel_rfl
@[simp] theorem zo_79 : zOf Tryd.prog 79 = some (.nilf) := by kernel_rfl
@[simp] theorem by_79 : byOf Tryd.prog 79 = some 8 := by kernel_rfl
@[simp] theorem sz_80 : szOf Tryd.prog 80 = some 1 := by kernel_rfl
@[simp] theorem ag_80 : aggOf Tryd.prog 80 = some false := by kernel_rfl
@[simp] theorem zo_80 : zOf Tryd.prog 80 = some (.nilf) := by kernel_rfl
@[simp] theorem by_80 : byOf Tryd.prog 80 = some 8 := by kernel_rfl
@[simp] theorem sz_81 : szOf Tryd.prog 81 = some 1 := by kernel_rfl
@[simp] theorem ag_81 : aggOf Tryd.prog 81 = some false := by kernel_rfl
@[simp] theorem zo_81 : zOf Tryd.prog 81 = some (.int .i64 0) := by kernel_rfl
@[simp] theorem un_81 : Tryd.prog.underlying 81 = some (.int .i64) := by kernel_rfl
@[simp] theorem by_81 : byOf Tryd.prog 81 = some 8 := by kernel_rfl
@[simp] theorem sz_83 : szOf Tryd.prog 83 = some 1 := by kernel_rfl
@[simp] theorem ag_83 : aggOf Tryd.prog 83 = some false := by kernel_rfl
@[simp] theorem zo_83 : zOf Tryd.prog 83 = some (.nilf) := by kernel_rfl
@[simp] theorem by_83 : byOf Tryd.prog 83 = some 8 := by kernel_rfl
@[simp] theorem sz_84 : szOf Tryd.prog 84 = some 1 := by kernel_rfl
@[simp] theorem ag_84 : aggOf Tryd.prog 84 = some false := by kernel_rfl
@[simp] theorem zo_84 : zOf Tryd.prog 84 = some (.nilf) := by kernel_rfl
@[simp] theorem by_84 : byOf Tryd.prog 84 = some 8 := by kernel_rfl
@[simp] theorem sz_85 : szOf Tryd.prog 85 = some 1 := by kernel_rfl
@[simp] theorem ag_85 : aggOf Tryd.prog 85 = some false := by kernel_rfl
@[simp] theorem zo_85 : zOf Tryd.prog 85 = some (.nilf) := by kernel_rfl
@[simp] theorem by_85 : byOf Tryd.prog 85 = some 8 := by kernel_rfl
@[simp] theorem sz_86 : szOf Tryd.prog 86 = some 1 := by kernel_rfl
@[simp] theorem ag_86 : aggOf Tryd.prog 86 = some false := by kernel_rfl
@[simp] theorem zo_86 : zOf Tryd.prog 86 = some (.nilf) := by kernel_rfl
@[simp] theorem by_86 : byOf Tryd.prog 86 = some 8 := by kernel_rfl
@[simp] theorem sz_88 : szOf Tryd.prog 88 = some 1 := by kernel_rfl
@[simp] theorem ag_88 : aggOf Tryd.prog 88 = some false := by kernel_rfl
@[simp] theorem zo_88 : zOf Tryd.prog 88 = some (.nilf) := by kernel_rfl
@[simp] theorem by_88 : byOf Tryd.prog 88 = some 8 := by kernel_rfl
@[simp] theorem sz_89 : szOf Tryd.prog 89 = some 1 := by kernel_rfl
@[simp] theorem ag_89 : aggOf Tryd.prog 89 = some false := by kernel_rfl
@[simp] theorem zo_89 : zOf Tryd.prog 89 = some (.nilf) := by kernel_rfl
@[simp] theorem by_89 : byOf Tryd.prog 89 = some 8 := by kernel_rfl
@[simp] theorem sz_90 : szOf Tryd.prog 90 = some 1 := by kernel_rfl
@[simp] theorem ag_90 : aggOf Tryd.prog 90 = some false := by kernel_rfl
@[simp] theorem zo_90 : zOf Tryd.prog 90 = some (.int .u32 0) := by kernel_rfl
@[simp] theorem un_90 : Tryd.prog.underlying 90 = some (.int .u32) := by kernel_rfl
@[simp] theorem by_90 : byOf Tryd.prog 90 = some 4 := by kernel_rfl
@[simp] theorem sz_91 : szOf Tryd.prog 91 = some 1 := by kernel_rfl
@[simp] theorem ag_91 : aggOf Tryd.prog 91 = some false := by kernel_rfl
@[simp] theorem zo_91 : zOf Tryd.prog 91 = some (.nilf) := by kernel_rfl
@[simp] theorem by_91 : byOf Tryd.prog 91 = some 8 := by kernel_rfl
@[simp] theorem sz_92 : szOf Tryd.prog 92 = some 1 := by kernel_rfl
@[simp] theorem ag_92 : aggOf Tryd.prog 92 = some false := by kernel_rfl
@[simp] theorem zo_92 : zOf Tryd.prog 92 = some (.nilf) := by kernel_rfl
@[simp] theorem by_92 : byOf Tryd.prog 92 = some 8 := by kernel_rfl
@[simp] theorem sz_93 : szOf Tryd.prog 93 = some 1 := by kernel_rfl
@[simp] theorem ag_93 : aggOf Tryd.prog 93 = some false := by kernel_rfl
@[simp] theorem zo_93 : zOf Tryd.prog 93 = some (.nilf) := by kernel_rfl
@[simp] theorem by_93 : byOf Tryd.prog 93 = some 8 := by kernel_rfl
@[simp] theorem sz_94 : szOf Tryd.prog 94 = some 1 := by kernel_rfl
@[simp] theorem ag_94 : aggOf Tryd.prog 94 = some false := by kernel_rfl
@[simp] theorem zo_94 : zOf Tryd.prog 94 = some (.nilf) := by kernel_rfl
@[simp] theorem by_94 : byOf Tryd.prog 94 = some 8 := by kernel_rfl
@[simp] theorem sz_95 : szOf Tryd.prog 95 = some 1 := by kernel_rfl
@[simp] theorem ag_95 : aggOf Tryd.prog 95 = some false := by kernel_rfl
@[simp] theorem zo_95 : zOf Tryd.prog 95 = some (.int .u64 0) := by kernel_rfl
@[simp] theorem un_95 : Tryd.prog.underlying 95 = some (.int .u64) := by kernel_rfl
@[simp] theorem by_95 : byOf Tryd.prog 95 = some 8 := by kernel_rfl
@[simp] theorem sz_96 : szOf Tryd.prog 96 = some 1 := by kernel_rfl
@[simp] theorem ag_96 : aggOf Tryd.prog 96 = some false := by kernel_rfl
@[simp] theorem zo_96 : zOf Tryd.prog 96 = some (.nilf) := by kernel_rfl
@[simp] theorem by_96 : byOf Tryd.prog 96 = some 8 := by kernel_rfl
@[simp] theorem sz_97 : szOf Tryd.prog 97 = some 1 := by kernel_rfl
@[simp] theorem ag_97 : aggOf Tryd.prog 97 = some false := by kernel_rfl
@[simp] theorem zo_97 : zOf Tryd.prog 97 = some (.nilf) := by kernel_rfl
@[simp] theorem by_97 : byOf Tryd.prog 97 = some 8 := by kernel_rfl
@[simp] theorem sz_98 : szOf Tryd.prog 98 = some 1 := by kernel_rfl
@[simp] theorem ag_98 : aggOf Tryd.prog 98 = some false := by kernel_rfl
@[simp] theorem zo_98 : zOf Tryd.prog 98 = some (.nilf) := by kernel_rfl
@[simp] theorem by_98 : byOf Tryd.prog 98 = some 8 := by kernel_rfl
@[simp] theorem sz_99 : szOf Tryd.prog 99 = some 1 := by kernel_rfl
@[simp] theorem ag_99 : aggOf Tryd.prog 99 = some false := by kernel_rfl
@[simp] theorem zo_99 : zOf Tryd.prog 99 = some (.nilp) := by kernel_rfl
@[simp] theorem un_99 : Tryd.prog.underlying 99 = some (.pointer 3) := by kernel_rfl
@[simp] theorem by_99 : byOf Tryd.prog 99 = some 8 := by kernel_rfl
@[simp] theorem sz_100 : szOf Tryd.prog 100 = some 1 := by kernel_rfl
@[simp] theorem ag_100 : aggOf Tryd.prog 100 = some false := by kernel_rfl
@[simp] theorem zo_100 : zOf Tryd.prog 100 = some (.nilf) := by kernel_rfl
@[simp] theorem by_100 : byOf Tryd.prog 100 = some 8 := by kernel_rfl
@[simp] theorem sz_101 : szOf Tryd.prog 101 = some 24 := by kernel_rfl
@[simp] theorem ag_101 : aggOf Tryd.prog 101 = some true := by kernel_rfl
@[simp] theorem zo_101 : zOf Tryd.prog 101 = some (.agg [.int .u8 0, .int .u8 0, .int .u8 0, .int .u8 0, .int .u8 0, .int .u8 0, .int .u8 0, .int .u8 0, .int .u8 0, .int .u8 0, .int .u8 0, .int .u8 0, .int .u8 0, .int .u8 0, .int .u8 0, .int .u8 0, .int .u8 0, .int .u8 0, .int .u8 0, .int .u8 0, .int .u8 0, .int .u8 0, .int .u8 0, .int .u8 0]) := by kernel_rfl
@[simp] theorem ar_101 : arrOf Tryd.prog 101 = some (24, 5, 1, false) := by kernel_rfl
@[simp] theorem bd_101 : bldOf Tryd.prog 101 = some ([(0, 1), (1, 1), (2, 1), (3, 1), (4, 1), (5, 1), (6, 1), (7, 1), (8, 1), (9, 1), (10, 1), (11, 1), (12, 1), (13, 1), (14, 1), (15, 1), (16, 1), (17, 1), (18, 1), (19, 1), (20, 1), (21, 1), (22, 1), (23, 1)], [.int .u8 0, .int .u8 0, .int .u8 0, .int .u8 0, .int .u8 0, .int .u8 0, .int .u8 0, .int .u8 0, .int .u8 0, .int .u8 0, .int .u8 0, .int .u8 0, .int .u8 0, .int .u8 0, .int .u8 0, .int .u8 0, .int .u8 0, .int .u8 0, .int .u8 0, .int .u8 0, .int .u8 0, .int .u8 0, .int .u8 0, .int .u8 0]) := by kernel_rfl
@[simp] theorem un_101 : Tryd.prog.underlying 101 = some (.array 24 5) := by kernel_rfl
@[simp] theorem by_101 : byOf Tryd.prog 101 = some 24 := by kernel_rfl
@[simp] theorem sz_102 : szOf Tryd.prog 102 = some 1 := by kernel_rfl
@[simp] theorem ag_102 : aggOf Tryd.prog 102 = some false := by kernel_rfl
@[simp] theorem zo_102 : zOf Tryd.prog 102 = some (.nilf) := by kernel_rfl
@[simp] theorem by_102 : byOf Tryd.prog 102 = some 8 := by kernel_rfl
@[simp] theorem sz_104 : szOf Tryd.prog 104 = some 1 := by kernel_rfl
@[simp] theorem ag_104 : aggOf Tryd.prog 104 = some false := by kernel_rfl
@[simp] theorem zo_104 : zOf Tryd.prog 104 = some (.nilf) := by kernel_rfl
@[simp] theorem by_104 : byOf Tryd.prog 104 = some 8 := by kernel_rfl
@[simp] theorem sz_105 : szOf Tryd.prog 105 = some 1 := by kernel_rfl
@[simp] theorem ag_105 : aggOf Tryd.prog 105 = some false := by kernel_rfl
@[simp] theorem zo_105 : zOf Tryd.prog 105 = some (.nilp) := by kernel_rfl
@[simp] theorem un_105 : Tryd.prog.underlying 105 = some (.pointer 95) := by kernel_rfl
@[simp] theorem by_105 : byOf Tryd.prog 105 = some 8 := by kernel_rfl
@[simp] theorem sz_107 : szOf Tryd.prog 107 = some 1 := by kernel_rfl
@[simp] theorem ag_107 : aggOf Tryd.prog 107 = some false := by kernel_rfl
@[simp] theorem zo_107 : zOf Tryd.prog 107 = some (.nilf) := by kernel_rfl
@[simp] theorem by_107 : byOf Tryd.prog 107 = some 8 := by kernel_rfl
@[simp] theorem sz_108 : szOf Tryd.prog 108 = some 1 := by kernel_rfl
@[simp] theorem ag_108 : aggOf Tryd.prog 108 = some false := by kernel_rfl
@[simp] theorem zo_108 : zOf Tryd.prog 108 = some (.nilf) := by kernel_rfl
@[simp] theorem by_108 : byOf Tryd.prog 108 = some 8 := by kernel_rfl
@[simp] theorem sz_109 : szOf Tryd.prog 109 = some 20 := by kernel_rfl
@[simp] theorem ag_109 : aggOf Tryd.prog 109 = some true := by kernel_rfl
@[simp] theorem zo_109 : zOf Tryd.prog 109 = some (.agg [.int .u64 0, .int .u64 0, .int .u64 0, .int .u64 0, .int .u64 0, .int .u64 0, .int .u64 0, .int .u64 0, .int .u64 0, .int .u64 0, .int .u64 0, .int .u64 0, .int .u64 0, .int .u64 0, .int .u64 0, .int .u64 0, .int .u64 0, .int .u64 0, .int .u64 0, .int .u64 0]) := by kernel_rfl
@[simp] theorem ar_109 : arrOf Tryd.prog 109 = some (20, 77, 1, false) := by kernel_rfl
@[simp] theorem bd_109 : bldOf Tryd.prog 109 = some ([(0, 1), (1, 1), (2, 1), (3, 1), (4, 1), (5, 1), (6, 1), (7, 1), (8, 1), (9, 1), (10, 1), (11, 1), (12, 1), (13, 1), (14, 1), (15, 1), (16, 1), (17, 1), (18, 1), (19, 1)], [.int .u64 0, .int .u64 0, .int .u64 0, .int .u64 0, .int .u64 0, .int .u64 0, .int .u64 0, .int .u64 0, .int .u64 0, .int .u64 0, .int .u64 0, .int .u64 0, .int .u64 0, .int .u64 0, .int .u64 0, .int .u64 0, .int .u64 0, .int .u64 0, .int .u64 0, .int .u64 0]) := by kernel_rfl
@[simp] theorem un_109 : Tryd.prog.underlying 109 = some (.array 20 77) := by kernel_rfl
@[simp] theorem by_109 : byOf Tryd.prog 109 = some 160 := by kernel_rfl
@[simp] theorem sz_110 : szOf Tryd.prog 110 = some 65 := by kernel_rfl
@[simp] theorem ag_110 : aggOf Tryd.prog 110 = some true := by kernel_rfl
@[simp] theorem zo_110 : zOf Tryd.prog 110 = some (.agg [.int .u8 0, .int .u8 0, .int .u8 0, .int .u8 0, .int .u8 0, .int .u8 0, .int .u8 0, .int .u8 0, .int .u8 0, .int .u8 0, .int .u8 0, .int .u8 0, .int .u8 0, .int .u8 0, .int .u8 0, .int .u8 0, .int .u8 0, .int .u8 0, .int .u8 0, .int .u8 0, .int .u8 0, .int .u8 0, .int .u8 0, .int .u8 0, .int .u8 0, .int .u8 0, .int .u8 0, .int .u8 0, .int .u8 0, .int .u8 0, .int .u8 0, .int .u8 0, .int .u8 0, .int .u8 0, .int .u8 0, .int .u8 0, .int .u8 0, .int .u8 0, .int .u8 0, .int .u8 0, .int .u8 0, .int .u8 0, .int .u8 0, .int .u8 0, .int .u8 0, .int .u8 0, .int .u8 0, .int .u8 0, .int .u8 0, .int .u8 0, .int .u8 0, .int .u8 0, .int .u8 0, .int .u8 0, .int .u8 0, .int .u8 0, .int .u8 0, .int .u8 0, .int .u8 0, .int .u8 0, .int .u8 0, .int .u8 0, .int .u8 0, .int .u8 0, .int .u8 0]) := by kernel_rfl
@[simp] theorem ar_110 : arrOf Tryd.prog 110 = some (65, 5, 1, false) := by kernel_rfl
@[simp] theorem bd_110 : bldOf Tryd.prog 110 = some ([(0, 1), (1, 1), (2, 1), (3, 1), (4, 1), (5, 1), (6, 1), (7, 1), (8, 1), (9, 1), (10, 1), (11, 1), (12, 1), (13, 1), (14, 1), (15, 1), (16, 1), (17, 1), (18, 1), (19, 1), (20, 1), (21, 1), (22, 1), (23, 1), (24, 1), (25, 1), (26, 1), (27, 1), (28, 1), (29, 1), (30, 1), (31, 1), (32, 1), (33, 1), (34, 1), (35, 1), (36, 1), (37, 1), (38, 1), (39, 1), (40, 1), (41, 1), (42, 1), (43, 1), (44, 1), (45, 1), (46, 1), (47, 1), (48, 1), (49, 1), (50, 1), (51, 1), (52, 1), (53, 1), (54, 1), (55, 1), (56, 1), (57, 1), (58, 1), (59, 1), (60, 1), (61, 1), (62, 1), (63, 1), (64, 1)], [.int .u8 0, .int .u8 0, .int .u8 0, .int .u8 0, .int .u8 0, .int .u8 0, .int .u8 0, .int .u8 0, .int .u8 0, .int .u8 0, .int .u8 0, .int .u8 0, .int .u8 0, .int .u8 0, .int .u8 0, .int .u8 0, .int .u8 0, .int .u8 0, .int .u8 0, .int .u8 0, .int .u8 0, .int .u8 0, .int .u8 0, .int .u8 0, .int .u8 0, .int .u8 0, .int .u8 0, .int .u8 0, .int .u8 0, .int .u8 0, .int .u8 0, .int .u8 0, .int .u8 0, .int .u8 0, .int .u8 0, .int .u8 0, .int .u8 0, .int .u8 0, .int .u8 0, .int .u8 0, .int .u8 0, .int .u8 0, .int .u8 0, .int .u8 0, .int .u8 0, .int .u8 0, .int .u8 0, .int .u8 0, .int .u8 0, .int .u8 0, .int .u8 0, .int .u8 0, .int .u8 0, .int .u8 0, .int .u8 0, .int .u8 0, .int .u8 0, .int .u8 0, .int .u8 0, .int .u8 0, .int .u8 0, .int .u8 0, .int .u8 0, .int .u8 0, .int .u8 0]) := by kernel_rfl
@[simp] theorem un_110 : Tryd.prog.underlying 110 = some (.array 65 5) := by kernel_rfl
@[simp] theorem by_110 : byOf Tryd.prog 110 = some 65 := by kernel_rfl
@[simp] theorem sz_111 : szOf Tryd.prog 111 = some 1 := by kernel_rfl
@[simp] theorem ag_111 : aggOf Tryd.prog 111 = some false := by kernel_rfl
@[simp] theorem zo_111 : zOf Tryd.prog 111 = some (.nilf) := by kernel_rfl
@[simp] theorem by_111 : byOf Tryd.prog 111 = some 8 := by kernel_rfl
@[simp] theorem sz_112 : szOf Tryd.prog 112 = some 1 := by kernel_rfl
@[simp] theorem ag_112 : aggOf Tryd.prog 112 = some false := by kernel_rfl
@[simp] theorem zo_112 : zOf Tryd.prog 112 = some (.nilf) := by kernel_rfl
@[simp] theorem by_112 : byOf Tryd.prog 112 = some 8 := by kernel_rfl
@[simp] theorem sz_113 : szOf Tryd.prog 113 = some 1 := by kernel_rfl
@[simp] theorem ag_113 : aggOf Tryd.prog 113 = some false := by kernel_rfl
@[simp] theorem zo_113 : zOf Tryd.prog 113 = some (.nilf) := by kernel_rfl
@[simp] theorem by_113 : byOf Tryd.prog 113 = some 8 := by kernel_rfl
@[simp] theorem sz_114 : szOf Tryd.prog 114 = some 1 := by kernel_rfl
@[simp] theorem ag_114 : aggOf Tryd.prog 114 = some false := by kernel_rfl
@[simp] theorem zo_114 : zOf Tryd.prog 114 = some (.nilf) := by kernel_rfl
@[simp] theorem by_114 : byOf Tryd.prog 114 = some 8 := by kernel_rfl
@[simp] theorem sz_115 : szOf Tryd.prog 115 = some 32 := by kernel_rfl
@[simp] theorem ag_115 : aggOf Tryd.prog 115 = some true := by kernel_rfl
@[simp] theorem zo_115 : zOf Tryd.prog 115 = some (.agg [.int .u8 0, .int .u8 0, .int .u8 0, .int .u8 0, .int .u8 0, .int .u8 0, .int .u8 0, .int .u8 0, .int .u8 0, .int .u8 0, .int .u8 0, .int .u8 0, .int .u8 0, .int .u8 0, .int .u8 0, .int .u8 0, .int .u8 0, .int .u8 0, .int .u8 0, .int .u8 0, .int .u8 0, .int .u8 0, .int .u8 0, .int .u8 0, .int .u8 0, .int .u8 0, .int .u8 0, .int .u8 0, .int .u8 0, .int .u8 0, .int .u8 0, .int .u8 0]) := by kernel_rfl
@[simp] theorem ar_115 : arrOf Tryd.prog 115 = some (32, 5, 1, false) := by kernel_rfl
@[simp] theorem bd_115 : bldOf Tryd.prog 115 = some ([(0, 1), (1, 1), (2, 1), (3, 1), (4, 1), (5, 1), (6, 1), (7, 1), (8, 1), (9, 1), (10, 1), (11, 1), (12, 1), (13, 1), (14, 1), (15, 1), (16, 1), (17, 1), (18, 1), (19, 1), (20, 1), (21, 1), (22, 1), (23, 1), (24, 1), (25, 1), (26, 1), (27, 1), (28, 1), (29, 1), (30, 1), (31, 1)], [.int .u8 0, .int .u8 0, .int .u8 0, .int .u8 0, .int .u8 0, .int .u8 0, .int .u8 0, .int .u8 0, .int .u8 0, .int .u8 0, .int .u8 0, .int .u8 0, .int .u8 0, .int .u8 0, .int .u8 0, .int .u8 0, .int .u8 0, .int .u8 0, .int .u8 0, .int .u8 0, .int .u8 0, .int .u8 0, .int .u8 0, .int .u8 0, .int .u8 0, .int .u8 0, .int .u8 0, .int .u8 0, .int .u8 0, .int .u8 0, .int .u8 0, .int .u8 0]) := by kernel_rfl
@[simp] theorem un_115 : Tryd.prog.underlying 115 = some (.array 32 5) := by kernel_rfl
@[simp] theorem by_115 : byOf Tryd.prog 115 = some 32 := by kernel_rfl
@[simp] theorem sz_116 : szOf Tryd.prog 116 = some 64 := by kernel_rfl
@[simp] theorem ag_116 : aggOf Tryd.prog 116 = some true := by kernel_rfl
@[simp] theorem zo_116 : zOf Tryd.prog 116 = some (.agg [.int .u8 0, .int .u8 0, .int .u8 0, .int .u8 0, .int .u8 0, .int .u8 0, .int .u8 0, .int .u8 0, .int .u8 0, .int .u8 0, .int .u8 0, .int .u8 0, .int .u8 0, .int .u8 0, .int .u8 0, .int .u8 0, .int .u8 0, .int .u8 0, .int .u8 0, .int .u8 0, .int .u8 0, .int .u8 0, .int .u8 0, .int .u8 0, .int .u8 0, .int .u8 0, .int .u8 0, .int .u8 0, .int .u8 0, .int .u8 0, .int .u8 0, .int .u8 0, .int .u8 0, .int .u8 0, .int .u8 0, .int .u8 0, .int .u8 0, .int .u8 0, .int .u8 0, .int .u8 0, .int .u8 0, .int .u8 0, .int .u8 0, .int .u8 0, .int .u8 0, .int .u8 0, .int .u8 0, .int .u8 0, .int .u8 0, .int .u8 0, .int .u8 0, .int .u8 0, .int .u8 0, .int .u8 0, .int .u8 0, .int .u8 0, .int .u8 0, .int .u8 0, .int .u8 0, .int .u8 0, .int .u8 0, .int .u8 0, .int .u8 0, .int .u8 0]) := by kernel_rfl
@[simp] theorem ar_116 : arrOf Tryd.prog 116 = some (64, 5, 1, false) := by kernel_rfl
@[simp] theorem bd_116 : bldOf Tryd.prog 116 = some ([(0, 1), (1, 1), (2, 1), (3, 1), (4, 1), (5, 1), (6, 1), (7, 1), (8, 1), (9, 1), (10, 1), (11, 1), (12, 1), (13, 1), (14, 1), (15, 1), (16, 1), (17, 1), (18, 1), (19, 1), (20, 1), (21, 1), (22, 1), (23, 1), (24, 1), (25, 1), (26, 1), (27, 1), (28, 1), (29, 1), (30, 1), (31, 1), (32, 1), (33, 1), (34, 1), (35, 1), (36, 1), (37, 1), (38, 1), (39, 1), (40, 1), (41, 1), (42, 1), (43, 1), (44, 1), (45, 1), (46, 1), (47, 1), (48, 1), (49, 1), (50, 1), (51, 1), (52, 1), (53, 1), (54, 1), (55, 1), (56, 1), (57, 1), (58, 1), (59, 1), (60, 1), (61, 1), (62, 1), (63, 1)], [.int .u8 0, .int .u8 0, .int .u8 0, .int .u8 0, .int .u8 0, .int .u8 0, .int .u8 0, .int .u8 0, .int .u8 0, .int .u8 0, .int .u8 0, .int .u8 0, .int .u8 0, .int .u8 0, .int .u8 0, .int .u8 0, .int .u8 0, .int .u8 0, .int .u8 0, .int .u8 0, .int .u8 0, .int .u8 0, .int .u8 0, .int .u8 0, .int .u8 0, .int .u8 0, .int .u8 0, .int .u8 0, .int .u8 0, .int .u8 0, .int .u8 0, .int .u8 0, .int .u8 0, .int .u8 0, .int .u8 0, .int .u8 0, .int .u8 0, .int .u8 0, .int .u8 0, .int .u8 0, .int .u8 0, .int .u8 0, .int .u8 0, .int .u8 0, .int .u8 0, .int .u8 0, .int .u8 0, .int .u8 0, .int .u8 0, .int .u8 0, .int .u8 0, .int .u8 0, .int .u8 0, .int .u8 0, .int .u8 0, .int .u8 0, .int .u8 0, .int .u8 0, .int .u8 0, .int .u8 0, .int .u8 0, .int .u8 0, .int .u8 0, .int .u8 0]) := by kernel_rfl
@[simp] theorem un_116 : Tryd.prog.underlying 116 = some (.array 64 5) := by kernel_rfl
@[simp] theorem by_116 : byOf Tryd.prog 116 = some 64 := by kernel_rfl
@[simp] theorem sz_117 : szOf Tryd.prog 117 = some 1 := by kernel_rfl
@[simp] theorem ag_117 : aggOf Tryd.prog 117 = some false := by kernel_rfl
@[simp] theorem zo_117 : zOf Tryd.prog 117 = some (.nilf) := by kernel_rfl
@[simp] theorem by_117 : byOf Tryd.prog 117 = some 8 := by kernel_rfl
@[simp] theorem sz_118 : szOf Tryd.prog 118 = some 4 := by kernel_rfl
@[simp] theorem ag_118 : aggOf Tryd.prog 118 = some true := by kernel_rfl
@[simp] theorem zo_118 : zOf Tryd.prog 118 = some (.agg [.nilp, .nilp, .nilp, .str ⟨#[]⟩]) := by kernel_rfl
@[simp] theorem ft_118 : ftOf Tryd.prog 118 = some (4, [(17, 0, 1), (17, 1, 1), (17, 2, 1), (9, 3, 1)]) := by kernel_rfl
@[simp] theorem fd_118_0 : fldOf Tryd.prog 118 0 = some (0, 1, false) := by kernel_rfl
@[simp] theorem fd_118_1 : fldOf Tryd.prog 118 1 = some (1, 1, false) := by kernel_rfl
@[simp] theorem fd_118_2 : fldOf Tryd.prog 118 2 = some (2, 1, false) := by kernel_rfl
@[simp] theorem fd_118_3 : fldOf Tryd.prog 118 3 = some (3, 1, false) := by kernel_rfl
@[simp] theorem bd_118 : bldOf Tryd.prog 118 = some ([(0, 1), (1, 1), (2, 1), (3, 1)], [.nilp, .nilp, .nilp, .str ⟨#[]⟩]) := by kernel_rfl
@[simp] theorem by_118 : byOf Tryd.prog 118 = some 40 := by kernel_rfl
@[simp] theorem sz_119 : szOf Tryd.prog 119 = some 4 := by kernel_rfl
@[simp] theorem ag_119 : aggOf Tryd.prog 119 = some true := by kernel_rfl
@[simp] theorem zo_119 : zOf Tryd.prog 119 = some (.agg [.nilp, .nilp, .nilp, .str ⟨#[]⟩]) := by kernel_rfl
@[simp] theorem ft_119 : ftOf Tryd.prog 119 = some (4, [(17, 0, 1), (17, 1, 1), (17, 2, 1), (9, 3, 1)]) := by kernel_rfl
@[simp] theorem fd_119_0 : fldOf Tryd.prog 119 0 = some (0, 1, false) := by kernel_rfl
@[simp] theorem fd_119_1 : fldOf Tryd.prog 119 1 = some (1, 1, false) := by kernel_rfl
@[simp] theorem fd_119_2 : fldOf Tryd.prog 119 2 = some (2, 1, false) := by kernel_rfl
@[simp] theorem fd_119_3 : fldOf Tryd.prog 119 3 = some (3, 1, false) := by kernel_rfl
@[simp] theorem bd_119 : bldOf Tryd.prog 119 = some ([(0, 1), (1, 1), (2, 1), (3, 1)], [.nilp, .nilp, .nilp, .str ⟨#[]⟩]) := by kernel_rfl
@[simp] theorem by_119 : byOf Tryd.prog 119 = some 40 := by kernel_rfl
@[simp] theorem sz_120 : szOf Tryd.prog 120 = some 0 := by kernel_rfl
@[simp] theorem ag_120 : aggOf Tryd.prog 120 = some true := by kernel_rfl
@[simp] theorem zo_120 : zOf Tryd.prog 120 = some (.agg []) := by kernel_rfl
@[simp] theorem ar_120 : arrOf Tryd.prog 120 = some (0, 16, 1, false) := by kernel_rfl
@[simp] theorem bd_120 : bldOf Tryd.prog 120 = some ([], []) := by kernel_rfl
@[simp] theorem un_120 : Tryd.prog.underlying 120 = some (.array 0 16) := by kernel_rfl
@[simp] theorem by_120 : byOf Tryd.prog 120 = some 0 := by kernel_rfl
@[simp] theorem sz_121 : szOf Tryd.prog 121 = some 0 := by kernel_rfl
@[simp] theorem ag_121 : aggOf Tryd.prog 121 = some true := by kernel_rfl
@[simp] theorem zo_121 : zOf Tryd.prog 121 = some (.agg []) := by kernel_rfl
@[simp] theorem ft_121 : ftOf Tryd.prog 121 = some (0, [(120, 0, 0)]) := by kernel_rfl
@[simp] theorem fd_121_0 : fldOf Tryd.prog 121 0 = some (0, 0, true) := by kernel_rfl
@[simp] theorem bd_121 : bldOf Tryd.prog 121 = some ([(0, 0)], []) := by kernel_rfl
@[simp] theorem by_121 : byOf Tryd.prog 121 = some 0 := by kernel_rfl
@[simp] theorem sz_122 : szOf Tryd.prog 122 = some 0 := by kernel_rfl
@[simp] theorem ag_122 : aggOf Tryd.prog 122 = some true := by kernel_rfl
@[simp] theorem zo_122 : zOf Tryd.prog 122 = some (.agg []) := by kernel_rfl
@[simp] theorem ft_122 : ftOf Tryd.prog 122 = some (0, [(120, 0, 0)]) := by kernel_rfl
@[simp] theorem fd_122_0 : fldOf Tryd.prog 122 0 = some (0, 0, true) := by kernel_rfl
@[simp] theorem bd_122 : bldOf Tryd.prog 122 = some ([(0, 0)], []) := by kernel_rfl
@[simp] theorem by_122 : byOf Tryd.prog 122 = some 0 := by kernel_rfl
@[simp] theorem sz_123 : szOf Tryd.prog 123 = some 1 := by kernel_rfl
@[simp] theorem ag_123 : aggOf Tryd.prog 123 = some false := by kernel_rfl
@[simp] theorem zo_123 : zOf Tryd.prog 123 = some (.nilf) := by kernel_rfl
@[simp] theorem by_123 : byOf Tryd.prog 123 = some 8 := by kernel_rfl
@[simp] theorem sz_124 : szOf Tryd.prog 124 = some 1 := by kernel_rfl
@[simp] theorem ag_124 : aggOf Tryd.prog 124 = some false := by kernel_rfl
@[simp] theorem zo_124 : zOf Tryd.prog 124 = some (.int .u8 0) := by kernel_rfl
@[simp] theorem un_124 : Tryd.prog.underlying 124 = some (.int .u8) := by kernel_rfl
@[simp] theorem by_124 : byOf Tryd.prog 124 = some 1 := by kernel_rfl
@[simp] theorem sz_125 : szOf Tryd.prog 125 = some 1 := by kernel_rfl
@[simp] theorem ag_125 : aggOf Tryd.prog 125 = some false := by kernel_rfl
@[simp] theorem zo_125 : zOf Tryd.prog 125 = some (.int .u8 0) := by kernel_rfl
@[simp] theorem un_125 : Tryd.prog.underlying 125 = some (.int .u8) := by kernel_rfl
@[simp] theorem by_125 : byOf Tryd.prog 125 = some 1 := by kernel_rfl
@[simp] theorem sz_126 : szOf Tryd.prog 126 = some 1 := by kernel_rfl
@[simp] theorem ag_126 : aggOf Tryd.prog 126 = some false := by kernel_rfl
@[simp] theorem zo_126 : zOf Tryd.prog 126 = some (.nilf) := by kernel_rfl
@[simp] theorem by_126 : byOf Tryd.prog 126 = some 8 := by kernel_rfl
@[simp] theorem sz_127 : szOf Tryd.prog 127 = some 1 := by kernel_rfl
@[simp] theorem ag_127 : aggOf Tryd.prog 127 = some false := by kernel_rfl
@[simp] theorem zo_127 : zOf Tryd.prog 127 = some (.nilp) := by kernel_rfl
@[simp] theorem un_127 : Tryd.prog.underlying 127 = some (.pointer 5) := by kernel_rfl
@[simp] theorem by_127 : byOf Tryd.prog 127 = some 8 := by kernel_rfl
@[simp] theorem sz_128 : szOf Tryd.prog 128 = some 1 := by kernel_rfl
@[simp] theorem ag_128 : aggOf Tryd.prog 128 = some false := by kernel_rfl
@[simp] theorem zo_128 : zOf Tryd.prog 128 = some (.int .i32 0) := by kernel_rfl
@[simp] theorem un_128 : Tryd.prog.underlying 128 = some (.int .i32) := by kernel_rfl
@[simp] theorem by_128 : byOf Tryd.prog 128 = some 4 := by kernel_rfl
@[simp] theorem sz_129 : szOf Tryd.prog 129 = some 1 := by kernel_rfl
@[simp] theorem ag_129 : aggOf Tryd.prog 129 = some false := by kernel_rfl
@[simp] theorem zo_129 : zOf Tryd.prog 129 = some (.int .i32 0) := by kernel_rfl
@[simp] theorem un_129 : Tryd.prog.underlying 129 = some (.int .i32) := by kernel_rfl
@[simp] theorem by_129 : byOf Tryd.prog 129 = some 4 := by kernel_rfl
@[simp] theorem sz_130 : szOf Tryd.prog 130 = some 11 := by kernel_rfl
@[simp] theorem ag_130 : aggOf Tryd.prog 130 = some true := by kernel_rfl
@[simp] theorem zo_130 : zOf Tryd.prog 130 = some (.agg [.int .u64 0, .int .u64 0, .int .u32 0, .int .u8 0, .int .u8 0, .int .u8 0, .int .u8 0, .nilf, .nilp, .int .i32 0, .int .i32 0]) := by kernel_rfl
@[simp] theorem ft_130 : ftOf Tryd.prog 130 = some (11, [(12, 0, 1), (12, 1, 1), (90, 2, 1), (124, 3, 1), (5, 4, 1), (5, 5, 1), (125, 6, 1), (126, 7, 1), (127, 8, 1), (128, 9, 1), (129, 10, 1)]) := by kernel_rfl
@[simp] theorem fd_130_0 : fldOf Tryd.prog 130 0 = some (0, 1, false) := by kernel_rfl
@[simp] theorem fd_130_1 : fldOf Tryd.prog 130 1 = some (1, 1, false) := by kernel_rfl
@[simp] theorem fd_130_2 : fldOf Tryd.prog 130 2 = some (2, 1, false) := by kernel_rfl
@[simp] theorem fd_130_3 : fldOf Tryd.prog 130 3 = some (3, 1, false) := by kernel_rfl
@[simp] theorem fd_130_4 : fldOf Tryd.prog 130 4 = some (4, 1, false) := by kernel_rfl
@[simp] theorem fd_130_5 : fldOf Tryd.prog 130 5 = some (5, 1, false) := by kernel_rfl
@[simp] theorem fd_130_6 : fldOf Tryd.prog 130 6 = some (6, 1, false) := by kernel_rfl
@[simp] theorem fd_130_7 : fldOf Tryd.prog 130 7 = some (7, 1, false) := by kernel_rfl
@[simp] theorem fd_130_8 : fldOf Tryd.prog 130 8 = some (8, 1, false) := by kernel_rfl
@[simp] theorem fd_130_9 : fldOf Tryd.prog 130 9 = some (9, 1, false) := by kernel_rfl
@[simp] theorem fd_130_10 : fldOf Tryd.prog 130 10 = some (10, 1, false) := by kernel_rfl
@[simp] theorem bd_130 : bldOf Tryd.prog 130 = some ([(0, 1), (1, 1), (2, 1), (3, 1), (4, 1), (5, 1), (6, 1), (7, 1), (8, 1), (9, 1), (10, 1)], [.int .u64 0, .int .u64 0, .int .u32 0, .int .u8 0, .int .u8 0, .int .u8 0, .int .u8 0, .nilf, .nilp, .int .i32 0, .int .i32 0]) := by kernel_rfl
@[simp] theorem by_130 : byOf Tryd.prog 130 = some 48 := by kernel_rfl
@[simp] theorem sz_131 : szOf Tryd.prog 131 = some 11 := by kernel_rfl
@[simp] theorem ag_131 : aggOf Tryd.prog 131 = some true := by kernel_rfl
@[simp] theorem zo_131 : zOf Tryd.prog 131 = some (.agg [.int .u64 0, .int .u64 0, .int .u32 0, .int .u8 0, .int .u8 0, .int .u8 0, .int .u8 0, .nilf, .nilp, .int .i32 0, .int .i32 0]) := by kernel_rfl
@[simp] theorem ft_131 : ftOf Tryd.prog 131 = some (11, [(12, 0, 1), (12, 1, 1), (90, 2, 1), (124, 3, 1), (5, 4, 1), (5, 5, 1), (125, 6, 1), (126, 7, 1), (127, 8, 1), (128, 9, 1), (129, 10, 1)]) := by kernel_rfl
@[simp] theorem fd_131_0 : fldOf Tryd.prog 131 0 = some (0, 1, false) := by kernel_rfl
@[simp] theorem fd_131_1 : fldOf Tryd.prog 131 1 = some (1, 1, false) := by kernel_rfl
@[simp] theorem fd_131_2 : fldOf Tryd.prog 131 2 = some (2, 1, false) := by kernel_rfl
@[simp] theorem fd_131_3 : fldOf Tryd.prog 131 3 = some (3, 1, false) := by kernel_rfl
@[simp] theorem fd_131_4 : fldOf Tryd.prog 131 4 = some (4, 1, false) := by kernel_rfl
@[simp] theorem fd_131_5 : fldOf Tryd.prog 131 5 = some (5, 1, false) := by kernel_rfl
@[simp] theorem fd_131_6 : fldOf Tryd.prog 131 6 = some (6, 1, false) := by kernel_rfl
@[simp] theorem fd_131_7 : fldOf Tryd.prog 131 7 = some (7, 1, false) := by kernel_rfl
@[simp] theorem fd_131_8 : fldOf Tryd.prog 131 8 = some (8, 1, false) := by kernel_rfl
@[simp] theorem fd_131_9 : fldOf Tryd.prog 131 9 = some (9, 1, false) := by kernel_rfl
@[simp] theorem fd_131_10 : fldOf Tryd.prog 131 10 = some (10, 1, false) := by kernel_rfl
@[simp] theorem bd_131 : bldOf Tryd.prog 131 = some ([(0, 1), (1, 1), (2, 1), (3, 1), (4, 1), (5, 1), (6, 1), (7, 1), (8, 1), (9, 1), (10, 1)], [.int .u64 0, .int .u64 0, .int .u32 0, .int .u8 0, .int .u8 0, .int .u8 0, .int .u8 0, .nilf, .nilp, .int .i32 0, .int .i32 0]) := by kernel_rfl
@[simp] theorem by_131 : byOf Tryd.prog 131 = some 48 := by kernel_rfl
def allS : List Nat := [2, 3, 4, 5, 6, 7, 8, 9, 10, 11, 12, 13, 14, 21, 22, 23, 24, 25, 31, 35, 36, 45, 76, 77, 78, 81, 90, 95, 124, 125, 128, 129]
theorem plain_all : plainS Tryd.prog allS = true := by kernel_rfl
end Go.Proofs.YtjplcdeaedflpaaDoor.PL
