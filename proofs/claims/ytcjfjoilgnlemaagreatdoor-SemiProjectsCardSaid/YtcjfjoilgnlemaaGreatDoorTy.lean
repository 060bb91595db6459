/- What the program's types are, as it is asked in the steps. -/
import Derived.Test.YtcjfjoilgnlemaaGreatDoorPLd
import Derived.Test.YtcjfjoilgnlemaaGreatDoorProg
import Derived.KernelRfl
namespace Go.Proofs.YtcjfjoilgnlemaaGreatDoor.PL
open Go.Proofs
theorem mix : Tryz.prog.follows .mixedOrders = true := by kernel_rfl
@[simp] theorem sz_1 : szOf Tryz.prog 1 = some 1 := by kernel_rfl
@[simp] theorem ag_1 : aggOf Tryz.prog 1 = some false := by kernel_rfl
@[simp] theorem zo_1 : zOf Tryz.prog 1 = some (.nilf) := by kernel_rfl
@[simp] theorem by_1 : byOf Tryz.prog 1 = some 8 := by kernel_rfl
@[simp] theorem sz_2 : szOf Tryz.prog 2 = some 1 := by kernel_rfl
@[simp] theorem ag_2 : aggOf Tryz.prog 2 = some false := by kernel_rfl
@[simp] theorem zo_2 : zOf Tryz.prog 2 = some (.int .i64 0) := by kernel_rfl
@[simp] theorem un_2 : Tryz.prog.underlying 2 = some (.int .i64) := by kernel_rfl
@[simp] theorem by_2 : byOf Tryz.prog 2 = some 8 := by kernel_rfl
@[simp] theorem sz_3 : szOf Tryz.prog 3 = some 1 := by kernel_rfl
@[simp] theorem ag_3 : aggOf Tryz.prog 3 = some false := by kernel_rfl
@[simp] theorem zo_3 : zOf Tryz.prog 3 = some (.int .i64 0) := by kernel_rfl
@[simp] theorem un_3 : Tryz.prog.underlying 3 = some (.int .i64) := by kernel_rfl
@[simp] theorem by_3 : byOf Tryz.prog 3 = some 8 := by kernel_rfl
@[simp] theorem sz_4 : szOf Tryz.prog 4 = some 1 := by kernel_rfl
@[simp] theorem ag_4 : aggOf Tryz.prog 4 = some false := by kernel_rfl
@[simp] theorem zo_4 : zOf Tryz.prog 4 = some (.bool false) := by kernel_rfl
@[simp] theorem un_4 : Tryz.prog.underlying 4 = some (.bool) := by kernel_rfl
@[simp] theorem by_4 : byOf Tryz.prog 4 = some 1 := by kernel_rfl
@[simp] theorem sz_5 : szOf Tryz.prog 5 = some 1 := by kernel_rfl
@[simp] theorem ag_5 : aggOf Tryz.prog 5 = some false := by kernel_rfl
@[simp] theorem zo_5 : zOf Tryz.prog 5 = some (.int .u8 0) := by kernel_rfl
@[simp] theorem un_5 : Tryz.prog.underlying 5 = some (.int .u8) := by kernel_rfl
@[simp] theorem by_5 : byOf Tryz.prog 5 = some 1 := by kernel_rfl
@[simp] theorem sz_6 : szOf Tryz.prog 6 = some 1 := by kernel_rfl
@[simp] theorem ag_6 : aggOf Tryz.prog 6 = some false := by kernel_rfl
@[simp] theorem zo_6 : zOf Tryz.prog 6 = some (.int .u8 0) := by kernel_rfl
@[simp] theorem un_6 : Tryz.prog.underlying 6 = some (.int .u8) := by kernel_rfl
@[simp] theorem by_6 : byOf Tryz.prog 6 = some 1 := by kernel_rfl
@[simp] theorem sz_7 : szOf Tryz.prog 7 = some 4 := by kernel_rfl
@[simp] theorem ag_7 : aggOf Tryz.prog 7 = some true := by kernel_rfl
@[simp] theorem zo_7 : zOf Tryz.prog 7 = some (.agg [.int .i64 0, .int .i64 0, .bool false, .int .u8 0]) := by kernel_rfl
@[simp] theorem ft_7 : ftOf Tryz.prog 7 = some (4, [(2, 0, 1), (3, 1, 1), (4, 2, 1), (6, 3, 1)]) := by kernel_rfl
@[simp] theorem fd_7_0 : fldOf Tryz.prog 7 0 = some (0, 1, false) := by kernel_rfl
@[simp] theorem fd_7_1 : fldOf Tryz.prog 7 1 = some (1, 1, false) := by kernel_rfl
@[simp] theorem fd_7_2 : fldOf Tryz.prog 7 2 = some (2, 1, false) := by kernel_rfl
@[simp] theorem fd_7_3 : fldOf Tryz.prog 7 3 = some (3, 1, false) := by kernel_rfl
@[simp] theorem bd_7 : bldOf Tryz.prog 7 = some ([(0, 1), (1, 1), (2, 1), (3, 1)], [.int .i64 0, .int .i64 0, .bool false, .int .u8 0]) := by kernel_rfl
@[simp] theorem by_7 : byOf Tryz.prog 7 = some 24 := by kernel_rfl
@[simp] theorem sz_8 : szOf Tryz.prog 8 = some 4 := by kernel_rfl
@[simp] theorem ag_8 : aggOf Tryz.prog 8 = some true := by kernel_rfl
@[simp] theorem zo_8 : zOf Tryz.prog 8 = some (.agg [.int .i64 0, .int .i64 0, .bool false, .int .u8 0]) := by kernel_rfl
@[simp] theorem ft_8 : ftOf Tryz.prog 8 = some (4, [(2, 0, 1), (3, 1, 1), (4, 2, 1), (6, 3, 1)]) := by kernel_rfl
@[simp] theorem fd_8_0 : fldOf Tryz.prog 8 0 = some (0, 1, false) := by kernel_rfl
@[simp] theorem fd_8_1 : fldOf Tryz.prog 8 1 = some (1, 1, false) := by kernel_rfl
@[simp] theorem fd_8_2 : fldOf Tryz.prog 8 2 = some (2, 1, false) := by kernel_rfl
@[simp] theorem fd_8_3 : fldOf Tryz.prog 8 3 = some (3, 1, false) := by kernel_rfl
@[simp] theorem bd_8 : bldOf Tryz.prog 8 = some ([(0, 1), (1, 1), (2, 1), (3, 1)], [.int .i64 0, .int .i64 0, .bool false, .int .u8 0]) := by kernel_rfl
@[simp] theorem by_8 : byOf Tryz.prog 8 = some 24 := by kernel_rfl
@[simp] theorem sz_9 : szOf Tryz.prog 9 = some 1 := by kernel_rfl
@[simp] theorem ag_9 : aggOf Tryz.prog 9 = some false := by kernel_rfl
@[simp] theorem zo_9 : zOf Tryz.prog 9 = some (.str ⟨#[]⟩) := by kernel_rfl
@[simp] theorem un_9 : Tryz.prog.underlying 9 = some (.string) := by kernel_rfl
@[simp] theorem by_9 : byOf Tryz.prog 9 = some 16 := by kernel_rfl
@[simp] theorem sz_10 : szOf Tryz.prog 10 = some 1 := by kernel_rfl
@[simp] theorem ag_10 : aggOf Tryz.prog 10 = some false := by kernel_rfl
@[simp] theorem zo_10 : zOf Tryz.prog 10 = some (.str ⟨#[]⟩) := by kernel_rfl
@[simp] theorem un_10 : Tryz.prog.underlying 10 = some (.string) := by kernel_rfl
@[simp] theorem by_10 : byOf Tryz.prog 10 = some 16 := by kernel_rfl
@[simp] theorem sz_11 : szOf Tryz.prog 11 = some 1 := by kernel_rfl
@[simp] theorem ag_11 : aggOf Tryz.prog 11 = some false := by kernel_rfl
@[simp] theorem zo_11 : zOf Tryz.prog 11 = some (.str ⟨#[]⟩) := by kernel_rfl
@[simp] theorem un_11 : Tryz.prog.underlying 11 = some (.string) := by kernel_rfl
@[simp] theorem by_11 : byOf Tryz.prog 11 = some 16 := by kernel_rfl
@[simp] theorem sz_12 : szOf Tryz.prog 12 = some 1 := by kernel_rfl
@[simp] theorem ag_12 : aggOf Tryz.prog 12 = some false := by kernel_rfl
@[simp] theorem zo_12 : zOf Tryz.prog 12 = some (.int .u64 0) := by kernel_rfl
@[simp] theorem un_12 : Tryz.prog.underlying 12 = some (.int .u64) := by kernel_rfl
@[simp] theorem by_12 : byOf Tryz.prog 12 = some 8 := by kernel_rfl
@[simp] theorem sz_13 : szOf Tryz.prog 13 = some 2 := by kernel_rfl
@[simp] theorem ag_13 : aggOf Tryz.prog 13 = some true := by kernel_rfl
@[simp] theorem zo_13 : zOf Tryz.prog 13 = some (.agg [.str ⟨#[]⟩, .int .u64 0]) := by kernel_rfl
@[simp] theorem ft_13 : ftOf Tryz.prog 13 = some (2, [(9, 0, 1), (12, 1, 1)]) := by kernel_rfl
@[simp] theorem fd_13_0 : fldOf Tryz.prog 13 0 = some (0, 1, false) := by kernel_rfl
@[simp] theorem fd_13_1 : fldOf Tryz.prog 13 1 = some (1, 1, false) := by kernel_rfl
@[simp] theorem bd_13 : bldOf Tryz.prog 13 = some ([(0, 1), (1, 1)], [.str ⟨#[]⟩, .int .u64 0]) := by kernel_rfl
@[simp] theorem by_13 : byOf Tryz.prog 13 = some 24 := by kernel_rfl
@[simp] theorem sz_14 : szOf Tryz.prog 14 = some 2 := by kernel_rfl
@[simp] theorem ag_14 : aggOf Tryz.prog 14 = some true := by kernel_rfl
@[simp] theorem zo_14 : zOf Tryz.prog 14 = some (.agg [.str ⟨#[]⟩, .int .u64 0]) := by kernel_rfl
@[simp] theorem ft_14 : ftOf Tryz.prog 14 = some (2, [(9, 0, 1), (12, 1, 1)]) := by kernel_rfl
@[simp] theorem fd_14_0 : fldOf Tryz.prog 14 0 = some (0, 1, false) := by kernel_rfl
@[simp] theorem fd_14_1 : fldOf Tryz.prog 14 1 = some (1, 1, false) := by kernel_rfl
@[simp] theorem bd_14 : bldOf Tryz.prog 14 = some ([(0, 1), (1, 1)], [.str ⟨#[]⟩, .int .u64 0]) := by kernel_rfl
@[simp] theorem by_14 : byOf Tryz.prog 14 = some 24 := by kernel_rfl
@[simp] theorem sz_15 : szOf Tryz.prog 15 = some 1 := by kernel_rfl
@[simp] theorem ag_15 : aggOf Tryz.prog 15 = some false := by kernel_rfl
@[simp] theorem zo_15 : zOf Tryz.prog 15 = some (.nilp) := by kernel_rfl
@[simp] theorem un_15 : Tryz.prog.underlying 15 = some (.pointer 126) := by kernel_rfl
@[simp] theorem by_15 : byOf Tryz.prog 15 = some 8 := by kernel_rfl
@[simp] theorem sz_16 : szOf Tryz.prog 16 = some 1 := by kernel_rfl
@[simp] theorem ag_16 : aggOf Tryz.prog 16 = some false := by kernel_rfl
@[simp] theorem zo_16 : zOf Tryz.prog 16 = some (.nilp) := by kernel_rfl
@[simp] theorem un_16 : Tryz.prog.underlying 16 = some (.pointer 129) := by kernel_rfl
@[simp] theorem by_16 : byOf Tryz.prog 16 = some 8 := by kernel_rfl
@[simp] theorem sz_17 : szOf Tryz.prog 17 = some 1 := by kernel_rfl
@[simp] theorem ag_17 : aggOf Tryz.prog 17 = some false := by kernel_rfl
@[simp] theorem zo_17 : zOf Tryz.prog 17 = some (.nilp) := by kernel_rfl
@[simp] theorem un_17 : Tryz.prog.underlying 17 = some (.pointer 138) := by kernel_rfl
@[simp] theorem by_17 : byOf Tryz.prog 17 = some 8 := by kernel_rfl
@[simp] theorem sz_18 : szOf Tryz.prog 18 = some 1 := by kernel_rfl
@[simp] theorem ag_18 : aggOf Tryz.prog 18 = some true := by kernel_rfl
@[simp] theorem zo_18 : zOf Tryz.prog 18 = some (.agg [.nilp]) := by kernel_rfl
@[simp] theorem ft_18 : ftOf Tryz.prog 18 = some (1, [(17, 0, 1)]) := by kernel_rfl
@[simp] theorem fd_18_0 : fldOf Tryz.prog 18 0 = some (0, 1, false) := by kernel_rfl
@[simp] theorem bd_18 : bldOf Tryz.prog 18 = some ([(0, 1)], [.nilp]) := by kernel_rfl
@[simp] theorem by_18 : byOf Tryz.prog 18 = some 8 := by kernel_rfl
@[simp] theorem sz_19 : szOf Tryz.prog 19 = some 1 := by kernel_rfl
@[simp] theorem ag_19 : aggOf Tryz.prog 19 = some true := by kernel_rfl
@[simp] theorem zo_19 : zOf Tryz.prog 19 = some (.agg [.nilp]) := by kernel_rfl
@[simp] theorem ft_19 : ftOf Tryz.prog 19 = some (1, [(17, 0, 1)]) := by kernel_rfl
@[simp] theorem fd_19_0 : fldOf Tryz.prog 19 0 = some (0, 1, false) := by kernel_rfl
@[simp] theorem bd_19 : bldOf Tryz.prog 19 = some ([(0, 1)], [.nilp]) := by kernel_rfl
@[simp] theorem by_19 : byOf Tryz.prog 19 = some 8 := by kernel_rfl
@[simp] theorem sz_21 : szOf Tryz.prog 21 = some 1 := by kernel_rfl
@[simp] theorem ag_21 : aggOf Tryz.prog 21 = some false := by kernel_rfl
@[simp] theorem zo_21 : zOf Tryz.prog 21 = some (.int .i32 0) := by kernel_rfl
@[simp] theorem un_21 : Tryz.prog.underlying 21 = some (.int .i32) := by kernel_rfl
@[simp] theorem by_21 : byOf Tryz.prog 21 = some 4 := by kernel_rfl
@[simp] theorem sz_22 : szOf Tryz.prog 22 = some 1 := by kernel_rfl
@[simp] theorem ag_22 : aggOf Tryz.prog 22 = some false := by kernel_rfl
@[simp] theorem zo_22 : zOf Tryz.prog 22 = some (.sl .exact []) := by kernel_rfl
@[simp] theorem sl_22 : slOf Tryz.prog 22 = some (3, 1) := by kernel_rfl
@[simp] theorem li_22 : litOf Tryz.prog 22 = some (false, 1, [.int .i64 0]) := by kernel_rfl
@[simp] theorem un_22 : Tryz.prog.underlying 22 = some (.slice 3) := by kernel_rfl
@[simp] theorem by_22 : byOf Tryz.prog 22 = some 24 := by kernel_rfl
@[simp] theorem sz_23 : szOf Tryz.prog 23 = some 1 := by kernel_rfl
@[simp] theorem ag_23 : aggOf Tryz.prog 23 = some false := by kernel_rfl
@[simp] theorem zo_23 : zOf Tryz.prog 23 = some (.sl .exact []) := by kernel_rfl
@[simp] theorem sl_23 : slOf Tryz.prog 23 = some (26, 1) := by kernel_rfl
@[simp] theorem li_23 : litOf Tryz.prog 23 = some (false, 1, [.sl .exact []]) := by kernel_rfl
@[simp] theorem un_23 : Tryz.prog.underlying 23 = some (.slice 26) := by kernel_rfl
@[simp] theorem by_23 : byOf Tryz.prog 23 = some 24 := by kernel_rfl
@[simp] theorem sz_24 : szOf Tryz.prog 24 = some 2 := by kernel_rfl
@[simp] theorem ag_24 : aggOf Tryz.prog 24 = some true := by kernel_rfl
@[simp] theorem zo_24 : zOf Tryz.prog 24 = some (.agg [.sl .exact [], .sl .exact []]) := by kernel_rfl
@[simp] theorem ft_24 : ftOf Tryz.prog 24 = some (2, [(22, 0, 1), (23, 1, 1)]) := by kernel_rfl
@[simp] theorem fd_24_0 : fldOf Tryz.prog 24 0 = some (0, 1, false) := by kernel_rfl
@[simp] theorem fd_24_1 : fldOf Tryz.prog 24 1 = some (1, 1, false) := by kernel_rfl
@[simp] theorem bd_24 : bldOf Tryz.prog 24 = some ([(0, 1), (1, 1)], [.sl .exact [], .sl .exact []]) := by kernel_rfl
@[simp] theorem by_24 : byOf Tryz.prog 24 = some 48 := by kernel_rfl
@[simp] theorem sz_25 : szOf Tryz.prog 25 = some 2 := by kernel_rfl
@[simp] theorem ag_25 : aggOf Tryz.prog 25 = some true := by kernel_rfl
@[simp] theorem zo_25 : zOf Tryz.prog 25 = some (.agg [.sl .exact [], .sl .exact []]) := by kernel_rfl
@[simp] theorem ft_25 : ftOf Tryz.prog 25 = some (2, [(22, 0, 1), (23, 1, 1)]) := by kernel_rfl
@[simp] theorem fd_25_0 : fldOf Tryz.prog 25 0 = some (0, 1, false) := by kernel_rfl
@[simp] theorem fd_25_1 : fldOf Tryz.prog 25 1 = some (1, 1, false) := by kernel_rfl
@[simp] theorem bd_25 : bldOf Tryz.prog 25 = some ([(0, 1), (1, 1)], [.sl .exact [], .sl .exact []]) := by kernel_rfl
@[simp] theorem by_25 : byOf Tryz.prog 25 = some 48 := by kernel_rfl
@[simp] theorem sz_26 : szOf Tryz.prog 26 = some 1 := by kernel_rfl
@[simp] theorem ag_26 : aggOf Tryz.prog 26 = some false := by kernel_rfl
@[simp] theorem zo_26 : zOf Tryz.prog 26 = some (.sl .exact []) := by kernel_rfl
@[simp] theorem sl_26 : slOf Tryz.prog 26 = some (41, 3) := by kernel_rfl
@[simp] theorem li_26 : litOf Tryz.prog 26 = some (true, 3, [.int .i64 0, .int .i64 0, .str ⟨#[]⟩]) := by kernel_rfl
@[simp] theorem un_26 : Tryz.prog.underlying 26 = some (.slice 41) := by kernel_rfl
@[simp] theorem by_26 : byOf Tryz.prog 26 = some 24 := by kernel_rfl
@[simp] theorem sz_27 : szOf Tryz.prog 27 = some 1 := by kernel_rfl
@[simp] theorem ag_27 : aggOf Tryz.prog 27 = some false := by kernel_rfl
@[simp] theorem zo_27 : zOf Tryz.prog 27 = some (.nilf) := by kernel_rfl
@[simp] theorem by_27 : byOf Tryz.prog 27 = some 8 := by kernel_rfl
@[simp] theorem sz_28 : szOf Tryz.prog 28 = some 1 := by kernel_rfl
@[simp] theorem ag_28 : aggOf Tryz.prog 28 = some false := by kernel_rfl
@[simp] theorem zo_28 : zOf Tryz.prog 28 = some (.nilf) := by kernel_rfl
@[simp] theorem by_28 : byOf Tryz.prog 28 = some 8 := by kernel_rfl
@[simp] theorem sz_29 : szOf Tryz.prog 29 = some 1 := by kernel_rfl
@[simp] theorem ag_29 : aggOf Tryz.prog 29 = some false := by kernel_rfl
@[simp] theorem zo_29 : zOf Tryz.prog 29 = some (.nilf) := by kernel_rfl
@[simp] theorem by_29 : byOf Tryz.prog 29 = some 8 := by kernel_rfl
@[simp] theorem sz_30 : szOf Tryz.prog 30 = some 1 := by kernel_rfl
@[simp] theorem ag_30 : aggOf Tryz.prog 30 = some false := by kernel_rfl
@[simp] theorem zo_30 : zOf Tryz.prog 30 = some (.nilf) := by kernel_rfl
@[simp] theorem by_30 : byOf Tryz.prog 30 = some 8 := by kernel_rfl
@[simp] theorem sz_31 : szOf Tryz.prog 31 = some 1 := by kernel_rfl
@[simp] theorem ag_31 : aggOf Tryz.prog 31 = some false := by kernel_rfl
@[simp] theorem zo_31 : zOf Tryz.prog 31 = some (.nilf) := by kernel_rfl
@[simp] theorem by_31 : byOf Tryz.prog 31 = some 8 := by kernel_rfl
@[simp] theorem sz_32 : szOf Tryz.prog 32 = some 1 := by kernel_rfl
@[simp] theorem ag_32 : aggOf Tryz.prog 32 = some false := by kernel_rfl
@[simp] theorem zo_32 : zOf Tryz.prog 32 = some (.nilf) := by kernel_rfl
@[simp] theorem by_32 : byOf Tryz.prog 32 = some 8 := by kernel_rfl
@[simp] theorem sz_33 : szOf Tryz.prog 33 = some 1 := by kernel_rfl
@[simp] theorem ag_33 : aggOf Tryz.prog 33 = some false := by kernel_rfl
@[simp] theorem zo_33 : zOf Tryz.prog 33 = some (.nilf) := by kernel_rfl
@[simp] theorem by_33 : byOf Tryz.prog 33 = some 8 := by kernel_rfl
@[simp] theorem sz_34 : szOf Tryz.prog 34 = some 1 := by kernel_rfl
@[simp] theorem ag_34 : aggOf Tryz.prog 34 = some false := by kernel_rfl
@[simp] theorem zo_34 : zOf Tryz.prog 34 = some (.nilf) := by kernel_rfl
@[simp] theorem by_34 : byOf Tryz.prog 34 = some 8 := by kernel_rfl
@[simp] theorem sz_35 : szOf Tryz.prog 35 = some 1 := by kernel_rfl
@[simp] theorem ag_35 : aggOf Tryz.prog 35 = some false := by kernel_rfl
@[simp] theorem zo_35 : zOf Tryz.prog 35 = some (.nilf) := by kernel_rfl
@[simp] theorem by_35 : byOf Tryz.prog 35 = some 8 := by kernel_rfl
@[simp] theorem sz_36 : szOf Tryz.prog 36 = some 1 := by kernel_rfl
@[simp] theorem ag_36 : aggOf Tryz.prog 36 = some false := by kernel_rfl
@[simp] theorem zo_36 : zOf Tryz.prog 36 = some (.nilf) := by kernel_rfl
@[simp] theorem by_36 : byOf Tryz.prog 36 = some 8 := by kernel_rfl
@[simp] theorem sz_37 : szOf Tryz.prog 37 = some 1 := by kernel_rfl
@[simp] theorem ag_37 : aggOf Tryz.prog 37 = some false := by kernel_rfl
@[simp] theorem zo_37 : zOf Tryz.prog 37 = some (.sl .exact []) := by kernel_rfl
@[simp] theorem sl_37 : slOf Tryz.prog 37 = some (25, 2) := by kernel_rfl
@[simp] theorem li_37 : litOf Tryz.prog 37 = some (true, 2, [.sl .exact [], .sl .exact []]) := by kernel_rfl
@[simp] theorem un_37 : Tryz.prog.underlying 37 = some (.slice 25) := by kernel_rfl
@[simp] theorem by_37 : byOf Tryz.prog 37 = some 24 := by kernel_rfl
@[simp] theorem sz_38 : szOf Tryz.prog 38 = some 1 := by kernel_rfl
@[simp] theorem ag_38 : aggOf Tryz.prog 38 = some false := by kernel_rfl
@[simp] theorem zo_38 : zOf Tryz.prog 38 = some (.nilf) := by kernel_rfl
@[simp] theorem by_38 : byOf Tryz.prog 38 = some 8 := by kernel_rfl
@[simp] theorem sz_39 : szOf Tryz.prog 39 = some 1 := by kernel_rfl
@[simp] theorem ag_39 : aggOf Tryz.prog 39 = some false := by kernel_rfl
@[simp] theorem zo_39 : zOf Tryz.prog 39 = some (.nilf) := by kernel_rfl
@[simp] theorem by_39 : byOf Tryz.prog 39 = some 8 := by kernel_rfl
@[simp] theorem sz_40 : szOf Tryz.prog 40 = some 3 := by kernel_rfl
@[simp] theorem ag_40 : aggOf Tryz.prog 40 = some true := by kernel_rfl
@[simp] theorem zo_40 : zOf Tryz.prog 40 = some (.agg [.int .i64 0, .int .i64 0, .str ⟨#[]⟩]) := by kernel_rfl
@[simp] theorem ft_40 : ftOf Tryz.prog 40 = some (3, [(3, 0, 1), (3, 1, 1), (9, 2, 1)]) := by kernel_rfl
@[simp] theorem fd_40_0 : fldOf Tryz.prog 40 0 = some (0, 1, false) := by kernel_rfl
@[simp] theorem fd_40_1 : fldOf Tryz.prog 40 1 = some (1, 1, false) := by kernel_rfl
@[simp] theorem fd_40_2 : fldOf Tryz.prog 40 2 = some (2, 1, false) := by kernel_rfl
@[simp] theorem bd_40 : bldOf Tryz.prog 40 = some ([(0, 1), (1, 1), (2, 1)], [.int .i64 0, .int .i64 0, .str ⟨#[]⟩]) := by kernel_rfl
@[simp] theorem by_40 : byOf Tryz.prog 40 = some 32 := by kernel_rfl
@[simp] theorem sz_41 : szOf Tryz.prog 41 = some 3 := by kernel_rfl
@[simp] theorem ag_41 : aggOf Tryz.prog 41 = some true := by kernel_rfl
@[simp] theorem zo_41 : zOf Tryz.prog 41 = some (.agg [.int .i64 0, .int .i64 0, .str ⟨#[]⟩]) := by kernel_rfl
@[simp] theorem ft_41 : ftOf Tryz.prog 41 = some (3, [(3, 0, 1), (3, 1, 1), (9, 2, 1)]) := by kernel_rfl
@[simp] theorem fd_41_0 : fldOf Tryz.prog 41 0 = some (0, 1, false) := by kernel_rfl
@[simp] theorem fd_41_1 : fldOf Tryz.prog 41 1 = some (1, 1, false) := by kernel_rfl
@[simp] theorem fd_41_2 : fldOf Tryz.prog 41 2 = some (2, 1, false) := by kernel_rfl
@[simp] theorem bd_41 : bldOf Tryz.prog 41 = some ([(0, 1), (1, 1), (2, 1)], [.int .i64 0, .int .i64 0, .str ⟨#[]⟩]) := by kernel_rfl
@[simp] theorem eqt_41 {a0 b0 : Int} {a1 b1 : Int} {a2 b2 : ByteArray} : EqT Tryz.prog 41 [.int .i64 a0, .int .i64 a1, .str a2] [.int .i64 b0, .int .i64 b1, .str b2] = True := eq_true (EqT.flat [.int, .int, .str] (by kernel_rfl) rfl rfl (by simp [kindsFit]))
@[simp] theorem by_41 : byOf Tryz.prog 41 = some 32 := by kernel_rfl
@[simp] theorem sz_42 : szOf Tryz.prog 42 = some 1 := by kernel_rfl
@[simp] theorem ag_42 : aggOf Tryz.prog 42 = some false := by kernel_rfl
@[simp] theorem zo_42 : zOf Tryz.prog 42 = some (.nilf) := by kernel_rfl
@[simp] theorem by_42 : byOf Tryz.prog 42 = some 8 := by kernel_rfl
@[simp] theorem sz_43 : szOf Tryz.prog 43 = some 1 := by kernel_rfl
@[simp] theorem ag_43 : aggOf Tryz.prog 43 = some false := by kernel_rfl
@[simp] theorem zo_43 : zOf Tryz.prog 43 = some (.nilf) := by kernel_rfl
@[simp] theorem by_43 : byOf Tryz.prog 43 = some 8 := by kernel_rfl
@[simp] theorem sz_44 : szOf Tryz.prog 44 = some 1 := by kernel_rfl
@[simp] theorem ag_44 : aggOf Tryz.prog 44 = some false := by kernel_rfl
@[simp] theorem zo_44 : zOf Tryz.prog 44 = some (.nilf) := by kernel_rfl
@[simp] theorem by_44 : byOf Tryz.prog 44 = some 8 := by kernel_rfl
@[simp] theorem sz_45 : szOf Tryz.prog 45 = some 1 := by kernel_rfl
@[simp] theorem ag_45 : aggOf Tryz.prog 45 = some false := by kernel_rfl
@[simp] theorem zo_45 : zOf Tryz.prog 45 = some (.nilf) := by kernel_rfl
@[simp] theorem by_45 : byOf Tryz.prog 45 = some 8 := by kernel_rfl
@[simp] theorem sz_46 : szOf Tryz.prog 46 = some 1 := by kernel_rfl
@[simp] theorem ag_46 : aggOf Tryz.prog 46 = some false := by kernel_rfl
@[simp] theorem zo_46 : zOf Tryz.prog 46 = some (.nilf) := by kernel_rfl
@[simp] theorem by_46 : byOf Tryz.prog 46 = some 8 := by kernel_rfl
@[simp] theorem sz_47 : szOf Tryz.prog 47 = some 1 := by kernel_rfl
@[simp] theorem ag_47 : aggOf Tryz.prog 47 = some false := by kernel_rfl
@[simp] theorem zo_47 : zOf Tryz.prog 47 = some (.nilf) := by kernel_rfl
@[simp] theorem by_47 : byOf Tryz.prog 47 = some 8 := by kernel_rfl
@[simp] theorem sz_48 : szOf Tryz.prog 48 = some 1 := by kernel_rfl
@[simp] theorem ag_48 : aggOf Tryz.prog 48 = some false := by kernel_rfl
@[simp] theorem zo_48 : zOf Tryz.prog 48 = some (.nilf) := by kernel_rfl
@[simp] theorem by_48 : byOf Tryz.prog 48 = some 8 := by kernel_rfl
@[simp] theorem sz_49 : szOf Tryz.prog 49 = some 1 := by kernel_rfl
@[simp] theorem ag_49 : aggOf Tryz.prog 49 = some false := by kernel_rfl
@[simp] theorem zo_49 : zOf Tryz.prog 49 = some (.nilf) := by kernel_rfl
@[simp] theorem by_49 : byOf Tryz.prog 49 = some 8 := by kernel_rfl
@[simp] theorem sz_50 : szOf Tryz.prog 50 = some 1 := by kernel_rfl
@[simp] theorem ag_50 : aggOf Tryz.prog 50 = some false := by kernel_rfl
@[simp] theorem zo_50 : zOf Tryz.prog 50 = some (.nilf) := by kernel_rfl
@[simp] theorem by_50 : byOf Tryz.prog 50 = some 8 := by kernel_rfl
@[simp] theorem sz_51 : szOf Tryz.prog 51 = some 1 := by kernel_rfl
@[simp] theorem ag_51 : aggOf Tryz.prog 51 = some false := by kernel_rfl
@[simp] theorem zo_51 : zOf Tryz.prog 51 = some (.nilf) := by kernel_rfl
@[simp] theorem by_51 : byOf Tryz.prog 51 = some 8 := by kernel_rfl
@[simp] theorem sz_52 : szOf Tryz.prog 52 = some 1 := by kernel_rfl
@[simp] theorem ag_52 : aggOf Tryz.prog 52 = some false := by kernel_rfl
@[simp] theorem zo_52 : zOf Tryz.prog 52 = some (.nilf) := by kernel_rfl
@[simp] theorem by_52 : byOf Tryz.prog 52 = some 8 := by kernel_rfl
@[simp] theorem sz_53 : szOf Tryz.prog 53 = some 1 := by kernel_rfl
@[simp] theorem ag_53 : aggOf Tryz.prog 53 = some false := by kernel_rfl
@[simp] theorem zo_53 : zOf Tryz.prog 53 = some (.nilf) := by kernel_rfl
@[simp] theorem by_53 : byOf Tryz.prog 53 = some 8 := by kernel_rfl
@[simp] theorem sz_54 : szOf Tryz.prog 54 = some 1 := by kernel_rfl
@[simp] theorem ag_54 : aggOf Tryz.prog 54 = some false := by kernel_rfl
@[simp] theorem zo_54 : zOf Tryz.prog 54 = some (.nilf) := by kernel_rfl
@[simp] theorem by_54 : byOf Tryz.prog 54 = some 8 := by kernel_rfl
@[simp] theorem sz_55 : szOf Tryz.prog 55 = some 1 := by kernel_rfl
@[simp] theorem ag_55 : aggOf Tryz.prog 55 = some false := by kernel_rfl
@[simp] theorem zo_55 : zOf Tryz.prog 55 = some (.nilf) := by kernel_rfl
@[simp] theorem by_55 : byOf Tryz.prog 55 = some 8 := by kernel_rfl
@[simp] theorem sz_56 : szOf Tryz.prog 56 = some 1 := by kernel_rfl
@[simp] theorem ag_56 : aggOf Tryz.prog 56 = some false := by kernel_rfl
@[simp] theorem zo_56 : zOf Tryz.prog 56 = some (.nilf) := by kernel_rfl
@[simp] theorem by_56 : byOf Tryz.prog 56 = some 8 := by kernel_rfl
@[simp] theorem sz_57 : szOf Tryz.prog 57 = some 1 := by kernel_rfl
@[simp] theorem ag_57 : aggOf Tryz.prog 57 = some false := by kernel_rfl
@[simp] theorem zo_57 : zOf Tryz.prog 57 = some (.nilf) := by kernel_rfl
@[simp] theorem by_57 : byOf Tryz.prog 57 = some 8 := by kernel_rfl
@[simp] theorem sz_58 : szOf Tryz.prog 58 = some 1 := by kernel_rfl
@[simp] theorem ag_58 : aggOf Tryz.prog 58 = some false := by kernel_rfl
@[simp] theorem zo_58 : zOf Tryz.prog 58 = some (.nilf) := by kernel_rfl
@[simp] theorem by_58 : byOf Tryz.prog 58 = some 8 := by kernel_rfl
@[simp] theorem sz_59 : szOf Tryz.prog 59 = some 1 := by kernel_rfl
@[simp] theorem ag_59 : aggOf Tryz.prog 59 = some false := by kernel_rfl
@[simp] theorem zo_59 : zOf Tryz.prog 59 = some (.nilm) := by kernel_rfl
@[simp] theorem un_59 : Tryz.prog.underlying 59 = some (.map 9 22) := by kernel_rfl
@[simp] theorem mp_59 : mapOf Tryz.prog 59 = some (9, .sl .exact []) := by kernel_rfl
@[simp] theorem by_59 : byOf Tryz.prog 59 = some 8 := by kernel_rfl
@[simp] theorem sz_60 : szOf Tryz.prog 60 = some 4 := by kernel_rfl
@[simp] theorem ag_60 : aggOf Tryz.prog 60 = some true := by kernel_rfl
@[simp] theorem zo_60 : zOf Tryz.prog 60 = some (.agg [.sl .exact [], .sl .exact [], .sl .exact [], .nilm]) := by kernel_rfl
@[simp] theorem ft_60 : ftOf Tryz.prog 60 = some (4, [(25, 0, 2), (22, 2, 1), (59, 3, 1)]) := by kernel_rfl
@[simp] theorem fd_60_0 : fldOf Tryz.prog 60 0 = some (0, 2, true) := by kernel_rfl
@[simp] theorem fd_60_1 : fldOf Tryz.prog 60 1 = some (2, 1, false) := by kernel_rfl
@[simp] theorem fd_60_2 : fldOf Tryz.prog 60 2 = some (3, 1, false) := by kernel_rfl
@[simp] theorem bd_60 : bldOf Tryz.prog 60 = some ([(0, 2), (2, 1), (3, 1)], [.sl .exact [], .sl .exact [], .sl .exact [], .nilm]) := by kernel_rfl
@[simp] theorem by_60 : byOf Tryz.prog 60 = some 80 := by kernel_rfl
@[simp] theorem sz_61 : szOf Tryz.prog 61 = some 4 := by kernel_rfl
@[simp] theorem ag_61 : aggOf Tryz.prog 61 = some true := by kernel_rfl
@[simp] theorem zo_61 : zOf Tryz.prog 61 = some (.agg [.sl .exact [], .sl .exact [], .sl .exact [], .nilm]) := by kernel_rfl
@[simp] theorem ft_61 : ftOf Tryz.prog 61 = some (4, [(25, 0, 2), (22, 2, 1), (59, 3, 1)]) := by kernel_rfl
@[simp] theorem fd_61_0 : fldOf Tryz.prog 61 0 = some (0, 2, true) := by kernel_rfl
@[simp] theorem fd_61_1 : fldOf Tryz.prog 61 1 = some (2, 1, false) := by kernel_rfl
@[simp] theorem fd_61_2 : fldOf Tryz.prog 61 2 = some (3, 1, false) := by kernel_rfl
@[simp] theorem bd_61 : bldOf Tryz.prog 61 = some ([(0, 2), (2, 1), (3, 1)], [.sl .exact [], .sl .exact [], .sl .exact [], .nilm]) := by kernel_rfl
@[simp] theorem by_61 : byOf Tryz.prog 61 = some 80 := by kernel_rfl
@[simp] theorem sz_62 : szOf Tryz.prog 62 = some 1 := by kernel_rfl
@[simp] theorem ag_62 : aggOf Tryz.prog 62 = some false := by kernel_rfl
@[simp] theorem zo_62 : zOf Tryz.prog 62 = some (.nilf) := by kernel_rfl
@[simp] theorem by_62 : byOf Tryz.prog 62 = some 8 := by kernel_rfl
@[simp] theorem sz_63 : szOf Tryz.prog 63 = some 1 := by kernel_rfl
@[simp] theorem ag_63 : aggOf Tryz.prog 63 = some false := by kernel_rfl
@[simp] theorem zo_63 : zOf Tryz.prog 63 = some (.nilf) := by kernel_rfl
@[simp] theorem by_63 : byOf Tryz.prog 63 = some 8 := by kernel_rfl
@[simp] theorem sz_64 : szOf Tryz.prog 64 = some 1 := by kernel_rfl
@[simp] theorem ag_64 : aggOf Tryz.prog 64 = some false := by kernel_rfl
@[simp] theorem zo_64 : zOf Tryz.prog 64 = some (.sl .exact []) := by kernel_rfl
@[simp] theorem sl_64 : slOf Tryz.prog 64 = some (22, 1) := by kernel_rfl
@[simp] theorem li_64 : litOf Tryz.prog 64 = some (false, 1, [.sl .exact []]) := by kernel_rfl
@[simp] theorem un_64 : Tryz.prog.underlying 64 = some (.slice 22) := by kernel_rfl
@[simp] theorem by_64 : byOf Tryz.prog 64 = some 24 := by kernel_rfl
@[simp] theorem sz_65 : szOf Tryz.prog 65 = some 1 := by kernel_rfl
@[simp] theorem ag_65 : aggOf Tryz.prog 65 = some false := by kernel_rfl
@[simp] theorem zo_65 : zOf Tryz.prog 65 = some (.nilf) := by kernel_rfl
@[simp] theorem by_65 : byOf Tryz.prog 65 = some 8 := by kernel_rfl
@[simp] theorem sz_66 : szOf Tryz.prog 66 = some 1 := by kernel_rfl
@[simp] theorem ag_66 : aggOf Tryz.prog 66 = some false := by kernel_rfl
@[simp] theorem zo_66 : zOf Tryz.prog 66 = some (.nilf) := by kernel_rfl
@[simp] theorem by_66 : byOf Tryz.prog 66 = some 8 := by kernel_rfl
@[simp] theorem sz_67 : szOf Tryz.prog 67 = some 1 := by kernel_rfl
@[simp] theorem ag_67 : aggOf Tryz.prog 67 = some false := by kernel_rfl
@[simp] theorem zo_67 : zOf Tryz.prog 67 = some (.nilf) := by kernel_rfl
@[simp] theorem by_67 : byOf Tryz.prog 67 = some 8 := by kernel_rfl
@[simp] theorem sz_68 : szOf Tryz.prog 68 = some 1 := by kernel_rfl
@[simp] theorem ag_68 : aggOf Tryz.prog 68 = some false := by kernel_rfl
@[simp] theorem zo_68 : zOf Tryz.prog 68 = some (.nilf) := by kernel_rfl
@[simp] theorem by_68 : byOf Tryz.prog 68 = some 8 := by kernel_rfl
@[simp] theorem sz_69 : szOf Tryz.prog 69 = some 1 := by kernel_rfl
@[simp] theorem ag_69 : aggOf Tryz.prog 69 = some false := by kernel_rfl
@[simp] theorem zo_69 : zOf Tryz.prog 69 = some (.nilf) := by kernel_rfl
@[simp] theorem by_69 : byOf Tryz.prog 69 = some 8 := by kernel_rfl
@[simp] theorem sz_70 : szOf Tryz.prog 70 = some 1 := by kernel_rfl
@[simp] theorem ag_70 : aggOf Tryz.prog 70 = some false := by kernel_rfl
@[simp] theorem zo_70 : zOf Tryz.prog 70 = some (.nilf) := by kernel_rfl
@[simp] theorem by_70 : byOf Tryz.prog 70 = some 8 := by kernel_rfl
@[simp] theorem sz_71 : szOf Tryz.prog 71 = some 1 := by kernel_rfl
@[simp] theorem ag_71 : aggOf Tryz.prog 71 = some false := by kernel_rfl
@[simp] theorem zo_71 : zOf Tryz.prog 71 = some (.nilf) := by kernel_rfl
@[simp] theorem by_71 : byOf Tryz.prog 71 = some 8 := by kernel_rfl
@[simp] theorem sz_73 : szOf Tryz.prog 73 = some 1 := by kernel_rfl
@[simp] theorem ag_73 : aggOf Tryz.prog 73 = some false := by kernel_rfl
@[simp] theorem zo_73 : zOf Tryz.prog 73 = some (.nilf) := by kernel_rfl
@[simp] theorem by_73 : byOf Tryz.prog 73 = some 8 := by kernel_rfl
@[simp] theorem sz_74 : szOf Tryz.prog 74 = some 1 := by kernel_rfl
@[simp] theorem ag_74 : aggOf Tryz.prog 74 = some false := by kernel_rfl
@[simp] theorem zo_74 : zOf Tryz.prog 74 = some (.nilf) := by kernel_rfl
@[simp] theorem by_74 : byOf Tryz.prog 74 = some 8 := by kernel_rfl
@[simp] theorem sz_75 : szOf Tryz.prog 75 = some 1 := by kernel_rfl
@[simp] theorem ag_75 : aggOf Tryz.prog 75 = some false := by kernel_rfl
@[simp] theorem zo_75 : zOf Tryz.prog 75 = some (.nilf) := by kernel_rfl
@[simp] theorem by_75 : byOf Tryz.prog 75 = some 8 := by kernel_rfl
@[simp] theorem sz_76 : szOf Tryz.prog 76 = some 1 := by kernel_rfl
@[simp] theorem ag_76 : aggOf Tryz.prog 76 = some false := by kernel_rfl
@[simp] theorem zo_76 : zOf Tryz.prog 76 = some (.nilf) := by kernel_rfl
@[simp] theorem by_76 : byOf Tryz.prog 76 = some 8 := by kernel_rfl
@[simp] theorem sz_77 : szOf Tryz.prog 77 = some 1 := by kernel_rfl
@[simp] theorem ag_77 : aggOf Tryz.prog 77 = some false := by kernel_rfl
@[simp] theorem zo_77 : zOf Tryz.prog 77 = some (.nilf) := by kernel_rfl
@[simp] theorem by_77 : byOf Tryz.prog 77 = some 8 := by kernel_rfl
@[simp] theorem sz_78 : szOf Tryz.prog 78 = some 1 := by kernel_rfl
@[simp] theorem ag_78 : aggOf Tryz.prog 78 = some false := by kernel_rfl
@[simp] theorem zo_78 : zOf Tryz.prog 78 = some (.nilf) := by kernel_rfl
@[simp] theorem by_78 : byOf Tryz.prog 78 = some 8 := by kernel_rfl
@[simp] theorem sz_79 : szOf Tryz.prog 79 = some 1 := by kernel_rfl
@[simp] theorem ag_79 : aggOf Tryz.prog 79 = some false := by kernel_rfl
@[simp] theorem zo_79 : zOf Tryz.prog 79 = some (.nilf) := by kernel_rfl
@[simp] theorem by_79 : byOf Tryz.prog 79 = some 8 := by kernel_rfl
@[simp] theorem sz_80 : szOf Tryz.prog 80 = some 1 := by kernel_rfl
@[simp] theorem ag_80 : aggOf Tryz.prog 80 = some false := by kernel_rfl
@[simp] theorem zo_80 : zOf Tryz.prog 80 = some (.nilf) := by kernel_rfl
@[simp] theorem by_80 : byOf Tryz.prog 80 = some 8 := by kernel_rfl
@[simp] theorem sz_81 : szOf Tryz.prog 81 = some 1 := by kernel_rfl
@[simp] theorem ag_81 : aggOf Tryz.prog 81 = some false := by kernel_rfl
@[simp] theorem zo_81 : zOf Tryz.prog 81 = some (.nilm) := by kernel_rfl
@[simp] theorem un_81 : Tryz.prog.underlying 81 = some (.map 3 3) := by kernel_rfl
@[simp] theorem mp_81 : mapOf Tryz.prog 81 = some (3, .int .i64 0) := by kernel_rfl
@[simp] theorem by_81 : byOf Tryz.prog 81 = some 8 := by kernel_rfl
@[simp] theorem sz_82 : szOf Tryz.prog 82 = some 1 := by kernel_rfl
@[simp] theorem ag_82 : aggOf Tryz.prog 82 = some false := by kernel_rfl
@[simp] theorem zo_82 : zOf Tryz.prog 82 = some (.nilf) := by kernel_rfl
@[simp] theorem by_82 : byOf Tryz.prog 82 = some 8 := by kernel_rfl
@[simp] theorem sz_83 : szOf Tryz.prog 83 = some 1 := by kernel_rfl
@[simp] theorem ag_83 : aggOf Tryz.prog 83 = some false := by kernel_rfl
@[simp] theorem zo_83 : zOf Tryz.prog 83 = some (.nilf) := by kernel_rfl
@[simp] theorem by_83 : byOf Tryz.prog 83 = some 8 := by kernel_rfl
@[simp] theorem sz_84 : szOf Tryz.prog 84 = some 1 := by kernel_rfl
@[simp] theorem ag_84 : aggOf Tryz.prog 84 = some false := by kernel_rfl
@[simp] theorem zo_84 : zOf Tryz.prog 84 = some (.nilf) := by kernel_rfl
@[simp] theorem by_84 : byOf Tryz.prog 84 = some 8 := by kernel_rfl
@[simp] theorem sz_85 : szOf Tryz.prog 85 = some 1 := by kernel_rfl
@[simp] theorem ag_85 : aggOf Tryz.prog 85 = some false := by kernel_rfl
@[simp] theorem zo_85 : zOf Tryz.prog 85 = some (.nilf) := by kernel_rfl
@[simp] theorem by_85 : byOf Tryz.prog 85 = some 8 := by kernel_rfl
@[simp] theorem sz_86 : szOf Tryz.prog 86 = some 1 := by kernel_rfl
@[simp] theorem ag_86 : aggOf Tryz.prog 86 = some false := by kernel_rfl
@[simp] theorem zo_86 : zOf Tryz.prog 86 = some (.nilf) := by kernel_rfl
@[simp] theorem by_86 : byOf Tryz.prog 86 = some 8 := by kernel_rfl
@[simp] theorem sz_87 : szOf Tryz.prog 87 = some 1 := by kernel_rfl
@[simp] theorem ag_87 : aggOf Tryz.prog 87 = some false := by kernel_rfl
@[simp] theorem zo_87 : zOf Tryz.prog 87 = some (.nilf) := by kernel_rfl
@[simp] theorem by_87 : byOf Tryz.prog 87 = some 8 := by kernel_rfl
@[simp] theorem sz_88 : szOf Tryz.prog 88 = some 1 := by kernel_rfl
@[simp] theorem ag_88 : aggOf Tryz.prog 88 = some false := by kernel_rfl
@[simp] theorem zo_88 : zOf Tryz.prog 88 = some (.nilf) := by kernel_rfl
@[simp] theorem by_88 : byOf Tryz.prog 88 = some 8 := by kernel_rfl
@[simp] theorem sz_89 : szOf Tryz.prog 89 = some 1 := by kernel_rfl
@[simp] theorem ag_89 : aggOf Tryz.prog 89 = some false := by kernel_rfl
@[simp] theorem zo_89 : zOf Tryz.prog 89 = some (.int .u64 0) := by kernel_rfl
@[simp] theorem un_89 : Tryz.prog.underlying 89 = some (.int .u64) := by kernel_rfl
@[simp] theorem by_89 : byOf Tryz.prog 89 = some 8 := by kernel_rfl
@[simp] theorem sz_90 : szOf Tryz.prog 90 = some 1 := by kernel_rfl
@[simp] theorem ag_90 : aggOf Tryz.prog 90 = some false := by kernel_rfl
@[simp] theorem zo_90 : zOf Tryz.prog 90 = some (.int .u64 0) := by kernel_rfl
@[simp] theorem un_90 : Tryz.prog.underlying 90 = some (.int .u64) := by kernel_rfl
@[simp] theorem by_90 : byOf Tryz.prog 90 = some 8 := by kernel_rfl
@[simp] theorem sz_91 : szOf Tryz.prog 91 = some 1 := by kernel_rfl
@[simp] theorem ag_91 : aggOf Tryz.prog 91 = some false := by kernel_rfl
@[simp] theorem zo_91 : zOf Tryz.prog 91 = some (.sl .exact []) := by kernel_rfl
@[simp] theorem sl_91 : slOf Tryz.prog 91 = some (5, 1) := by kernel_rfl
@[simp] theorem li_91 : litOf Tryz.prog 91 = some (false, 1, [.int .u8 0]) := by kernel_rfl
@[simp] theorem un_91 : Tryz.prog.underlying 91 = some (.slice 5) := by kernel_rfl
@[simp] theorem by_91 : byOf Tryz.prog 91 = some 24 := by kernel_rfl
@[simp] theorem sz_92 : szOf Tryz.prog 92 = some 1 := by kernel_rfl
@[simp] theorem ag_92 : aggOf Tryz.prog 92 = some false := by kernel_rfl
@[simp] theorem zo_92 : zOf Tryz.prog 92 = some (.nilf) := by kernel_rfl
@[simp] theorem by_92 : byOf Tryz.prog 92 = some 8 := by kernel_rfl
@[simp] theorem sz_93 : szOf Tryz.prog 93 = some 1 := by kernel_rfl
@[simp] theorem ag_93 : aggOf Tryz.prog 93 = some false := by kernel_rfl
@[simp] theorem zo_93 : zOf Tryz.prog 93 = some (.nilf) := by kernel_rfl
@[simp] theorem by_93 : byOf Tryz.prog 93 = some 8 := by kernel_rfl
@[simp] theorem sz_94 : szOf Tryz.prog 94 = some 1 := by kernel_rfl
@[simp] theorem ag_94 : aggOf Tryz.prog 94 = some false := by kernel_rfl
@[simp] theorem zo_94 : zOf Tryz.prog 94 = some (.int .i64 0) := by kernel_rfl
@[simp] theorem un_94 : Tryz.prog.underlying 94 = some (.int .i64) := by kernel_rfl
@[simp] theorem by_94 : byOf Tryz.prog 94 = some 8 := by kernel_rfl
@[simp] theorem sz_96 : szOf Tryz.prog 96 = some 1 := by kernel_rfl
@[simp] theorem ag_96 : aggOf Tryz.prog 96 = some false := by kernel_rfl
@[simp] theorem zo_96 : zOf Tryz.prog 96 = some (.nilf) := by kernel_rfl
@[simp] theorem by_96 : byOf Tryz.prog 96 = some 8 := by kernel_rfl
@[simp] theorem sz_97 : szOf Tryz.prog 97 = some 1 := by kernel_rfl
@[simp] theorem ag_97 : aggOf Tryz.prog 97 = some false := by kernel_rfl
@[simp] theorem zo_97 : zOf Tryz.prog 97 = some (.nilf) := by kernel_rfl
@[simp] theorem by_97 : byOf Tryz.prog 97 = some 8 := by kernel_rfl
@[simp] theorem sz_98 : szOf Tryz.prog 98 = some 1 := by kernel_rfl
@[simp] theorem ag_98 : aggOf Tryz.prog 98 = some false := by kernel_rfl
@[simp] theorem zo_98 : zOf Tryz.prog 98 = some (.nilf) := by kernel_rfl
@[simp] theorem by_98 : byOf Tryz.prog 98 = some 8 := by kernel_rfl
@[simp] theorem sz_99 : szOf Tryz.prog 99 = some 1 := by kernel_rfl
@[simp] theorem ag_99 : aggOf Tryz.prog 99 = some false := by kernel_rfl
@[simp] theorem zo_99 : zOf Tryz.prog 99 = some (.nilf) := by kernel_rfl
@[simp] theorem by_99 : byOf Tryz.prog 99 = some 8 := by kernel_rfl
@[simp] theorem sz_100 : szOf Tryz.prog 100 = some 1 := by kernel_rfl
@[simp] theorem ag_100 : aggOf Tryz.prog 100 = some false := by kernel_rfl
@[simp] theorem zo_100 : zOf Tryz.prog 100 = some (.nilf) := by kernel_rfl
@[simp] theorem by_100 : byOf Tryz.prog 100 = some 8 := by kernel_rfl
@[simp] theorem sz_101 : szOf Tryz.prog 101 = some 1 := by kernel_rfl
@[simp] theorem ag_101 : aggOf Tryz.prog 101 = some false := by kernel_rfl
@[simp] theorem zo_101 : zOf Tryz.prog 101 = some (.nilf) := by kernel_rfl
@[simp] theorem by_101 : byOf Tryz.prog 101 = some 8 := by kernel_rfl
@[simp] theorem sz_102 : szOf Tryz.prog 102 = some 1 := by kernel_rfl
@[simp] theorem ag_102 : aggOf Tryz.prog 102 = some false := by kernel_rfl
@[simp] theorem zo_102 : zOf Tryz.prog 102 = some (.int .u32 0) := by kernel_rfl
@[simp] theorem un_102 : Tryz.prog.underlying 102 = some (.int .u32) := by kernel_rfl
@[simp] theorem by_102 : byOf Tryz.prog 102 = some 4 := by kernel_rfl
@[simp] theorem sz_103 : szOf Tryz.prog 103 = some 1 := by kernel_rfl
@[simp] theorem ag_103 : aggOf Tryz.prog 103 = some false := by kernel_rfl
@[simp] theorem zo_103 : zOf Tryz.prog 103 = some (.nilf) := by kernel_rfl
@[simp] theorem by_103 : byOf Tryz.prog 103 = some 8 := by kernel_rfl
@[simp] theorem sz_104 : szOf Tryz.prog 104 = some 1 := by kernel_rfl
@[simp] theorem ag_104 : aggOf Tryz.prog 104 = some false := by kernel_rfl
@[simp] theorem zo_104 : zOf Tryz.prog 104 = some (.nilf) := by kernel_rfl
@[simp] theorem by_104 : byOf Tryz.prog 104 = some 8 := by kernel_rfl
@[simp] theorem sz_105 : szOf Tryz.prog 105 = some 1 := by kernel_rfl
@[simp] theorem ag_105 : aggOf Tryz.prog 105 = some false := by kernel_rfl
@[simp] theorem zo_105 : zOf Tryz.prog 105 = some (.nilf) := by kernel_rfl
@[simp] theorem by_105 : byOf Tryz.prog 105 = some 8 := by kernel_rfl
@[simp] theorem sz_106 : szOf Tryz.prog 106 = some 1 := by kernel_rfl
@[simp] theorem ag_106 : aggOf Tryz.prog 106 = some false := by kernel_rfl
@[simp] theorem zo_106 : zOf Tryz.prog 106 = some (.int .u64 0) := by kernel_rfl
@[simp] theorem un_106 : Tryz.prog.underlying 106 = some (.int .u64) := by kernel_rfl
@[simp] theorem by_106 : byOf Tryz.prog 106 = some 8 := by kernel_rfl
@[simp] theorem sz_107 : szOf Tryz.prog 107 = some 1 := by kernel_rfl
@[simp] theorem ag_107 : aggOf Tryz.prog 107 = some false := by kernel_rfl
@[simp] theorem zo_107 : zOf Tryz.prog 107 = some (.nilf) := by kernel_rfl
@[simp] theorem by_107 : byOf Tryz.prog 107 = some 8 := by kernel_rfl
@[simp] theorem sz_108 : szOf Tryz.prog 108 = some 1 := by kernel_rfl
@[simp] theorem ag_108 : aggOf Tryz.prog 108 = some false := by kernel_rfl
@[simp] theorem zo_108 : zOf Tryz.prog 108 = some (.nilf) := by kernel_rfl
@[simp] theorem by_108 : byOf Tryz.prog 108 = some 8 := by kernel_rfl
@[simp] theorem sz_109 : szOf Tryz.prog 109 = some 1 := by kernel_rfl
@[simp] theorem ag_109 : aggOf Tryz.prog 109 = some false := by kernel_rfl
@[simp] theorem zo_109 : zOf Tryz.prog 109 = some (.nilf) := by kernel_rfl
@[simp] theorem by_109 : byOf Tryz.prog 109 = some 8 := by kernel_rfl
@[simp] theorem sz_110 : szOf Tryz.prog 110 = some 1 := by kernel_rfl
@[simp] theorem ag_110 : aggOf Tryz.prog 110 = some false := by kernel_rfl
@[simp] theorem zo_110 : zOf Tryz.prog 110 = some (.nilp) := by kernel_rfl
@[simp] theorem un_110 : Tryz.prog.underlying 110 = some (.pointer 3) := by kernel_rfl
@[simp] theorem by_110 : byOf Tryz.prog 110 = some 8 := by kernel_rfl
@[simp] theorem sz_111 : szOf Tryz.prog 111 = some 1 := by kernel_rfl
@[simp] theorem ag_111 : aggOf Tryz.prog 111 = some false := by kernel_rfl
@[simp] theorem zo_111 : zOf Tryz.prog 111 = some (.nilf) := by kernel_rfl
@[simp] theorem by_111 : byOf Tryz.prog 111 = some 8 := by kernel_rfl
@[simp] theorem sz_112 : szOf Tryz.prog 112 = some 24 := by kernel_rfl
@[simp] theorem ag_112 : aggOf Tryz.prog 112 = some true := by kernel_rfl
@[simp] theorem zo_112 : zOf Tryz.prog 112 = some (.agg [.int .u8 0, .int .u8 0, .int .u8 0, .int .u8 0, .int .u8 0, .int .u8 0, .int .u8 0, .int .u8 0, .int .u8 0, .int .u8 0, .int .u8 0, .int .u8 0, .int .u8 0, .int .u8 0, .int .u8 0, .int .u8 0, .int .u8 0, .int .u8 0, .int .u8 0, .int .u8 0, .int .u8 0, .int .u8 0, .int .u8 0, .int .u8 0]) := by kernel_rfl
@[simp] theorem ar_112 : arrOf Tryz.prog 112 = some (24, 5, 1, false) := by kernel_rfl
@[simp] theorem bd_112 : bldOf Tryz.prog 112 = some ([(0, 1), (1, 1), (2, 1), (3, 1), (4, 1), (5, 1), (6, 1), (7, 1), (8, 1), (9, 1), (10, 1), (11, 1), (12, 1), (13, 1), (14, 1), (15, 1), (16, 1), (17, 1), (18, 1), (19, 1), (20, 1), (21, 1), (22, 1), (23, 1)], [.int .u8 0, .int .u8 0, .int .u8 0, .int .u8 0, .int .u8 0, .int .u8 0, .int .u8 0, .int .u8 0, .int .u8 0, .int .u8 0, .int .u8 0, .int .u8 0, .int .u8 0, .int .u8 0, .int .u8 0, .int .u8 0, .int .u8 0, .int .u8 0, .int .u8 0, .int .u8 0, .int .u8 0, .int .u8 0, .int .u8 0, .int .u8 0]) := by kernel_rfl
@[simp] theorem un_112 : Tryz.prog.underlying 112 = some (.array 24 5) := by kernel_rfl
@[simp] theorem by_112 : byOf Tryz.prog 112 = some 24 := by kernel_rfl
@[simp] theorem sz_113 : szOf Tryz.prog 113 = some 1 := by kernel_rfl
@[simp] theorem ag_113 : aggOf Tryz.prog 113 = some false := by kernel_rfl
@[simp] theorem zo_113 : zOf Tryz.prog 113 = some (.nilf) := by kernel_rfl
@[simp] theorem by_113 : byOf Tryz.prog 113 = some 8 := by kernel_rfl
@[simp] theorem sz_115 : szOf Tryz.prog 115 = some 1 := by kernel_rfl
@[simp] theorem ag_115 : aggOf Tryz.prog 115 = some false := by kernel_rfl
@[simp] theorem zo_115 : zOf Tryz.prog 115 = some (.nilf) := by kernel_rfl
@[simp] theorem by_115 : byOf Tryz.prog 115 = some 8 := by kernel_rfl
@[simp] theorem sz_116 : szOf Tryz.prog 116 = some 1 := by kernel_rfl
@[simp] theorem ag_116 : aggOf Tryz.prog 116 = some false := by kernel_rfl
@[simp] theorem zo_116 : zOf Tryz.prog 116 = some (.nilp) := by kernel_rfl
@[simp] theorem un_116 : Tryz.prog.underlying 116 = some (.pointer 106) := by kernel_rfl
@[simp] theorem by_116 : byOf Tryz.prog 116 = some 8 := by kernel_rfl
@[simp] theorem sz_118 : szOf Tryz.prog 118 = some 1 := by kernel_rfl
@[simp] theorem ag_118 : aggOf Tryz.prog 118 = some false := by kernel_rfl
@[simp] theorem zo_118 : zOf Tryz.prog 118 = some (.nilf) := by kernel_rfl
@[simp] theorem by_118 : byOf Tryz.prog 118 = some 8 := by kernel_rfl
@[simp] theorem sz_119 : szOf Tryz.prog 119 = some 1 := by kernel_rfl
@[simp] theorem ag_119 : aggOf Tryz.prog 119 = some false := by kernel_rfl
@[simp] theorem zo_119 : zOf Tryz.prog 119 = some (.nilf) := by kernel_rfl
@[simp] theorem by_119 : byOf Tryz.prog 119 = some 8 := by kernel_rfl
@[simp] theorem sz_120 : szOf Tryz.prog 120 = some 20 := by kernel_rfl
@[simp] theorem ag_120 : aggOf Tryz.prog 120 = some true := by kernel_rfl
@[simp] theorem zo_120 : zOf Tryz.prog 120 = some (.agg [.int .u64 0, .int .u64 0, .int .u64 0, .int .u64 0, .int .u64 0, .int .u64 0, .int .u64 0, .int .u64 0, .int .u64 0, .int .u64 0, .int .u64 0, .int .u64 0, .int .u64 0, .int .u64 0, .int .u64 0, .int .u64 0, .int .u64 0, .int .u64 0, .int .u64 0, .int .u64 0]) := by kernel_rfl
@[simp] theorem ar_120 : arrOf Tryz.prog 120 = some (20, 90, 1, false) := by kernel_rfl
@[simp] theorem bd_120 : bldOf Tryz.prog 120 = some ([(0, 1), (1, 1), (2, 1), (3, 1), (4, 1), (5, 1), (6, 1), (7, 1), (8, 1), (9, 1), (10, 1), (11, 1), (12, 1), (13, 1), (14, 1), (15, 1), (16, 1), (17, 1), (18, 1), (19, 1)], [.int .u64 0, .int .u64 0, .int .u64 0, .int .u64 0, .int .u64 0, .int .u64 0, .int .u64 0, .int .u64 0, .int .u64 0, .int .u64 0, .int .u64 0, .int .u64 0, .int .u64 0, .int .u64 0, .int .u64 0, .int .u64 0, .int .u64 0, .int .u64 0, .int .u64 0, .int .u64 0]) := by kernel_rfl
@[simp] theorem un_120 : Tryz.prog.underlying 120 = some (.array 20 90) := by kernel_rfl
@[simp] theorem by_120 : byOf Tryz.prog 120 = some 160 := by kernel_rfl
@[simp] theorem sz_121 : szOf Tryz.prog 121 = some 65 := by kernel_rfl
@[simp] theorem ag_121 : aggOf Tryz.prog 121 = some true := by kernel_rfl
@[simp] theorem zo_121 : zOf Tryz.prog 121 = some (.agg [.int .u8 0, .int .u8 0, .int .u8 0, .int .u8 0, .int .u8 0, .int .u8 0, .int .u8 0, .int .u8 0, .int .u8 0, .int .u8 0, .int .u8 0, .int .u8 0, .int .u8 0, .int .u8 0, .int .u8 0, .int .u8 0, .int .u8 0, .int .u8 0, .int .u8 0, .int .u8 0, .int .u8 0, .int .u8 0, .int .u8 0, .int .u8 0, .int .u8 0, .int .u8 0, .int .u8 0, .int .u8 0, .int .u8 0, .int .u8 0, .int .u8 0, .int .u8 0, .int .u8 0, .int .u8 0, .int .u8 0, .int .u8 0, .int .u8 0, .int .u8 0, .int .u8 0, .int .u8 0, .int .u8 0, .int .u8 0, .int .u8 0, .int .u8 0, .int .u8 0, .int .u8 0, .int .u8 0, .int .u8 0, .int .u8 0, .int .u8 0, .int .u8 0, .int .u8 0, .int .u8 0, .int .u8 0, .int .u8 0, .int .u8 0, .int .u8 0, .int .u8 0, .int .u8 0, .int .u8 0, .int .u8 0, .int .u8 0, .int .u8 0, .int .u8 0, .int .u8 0]) := by kernel_rfl
@[simp] theorem ar_121 : arrOf Tryz.prog 121 = some (65, 5, 1, false) := by kernel_rfl
@[simp] theorem bd_121 : bldOf Tryz.prog 121 = some ([(0, 1), (1, 1), (2, 1), (3, 1), (4, 1), (5, 1), (6, 1), (7, 1), (8, 1), (9, 1), (10, 1), (11, 1), (12, 1), (13, 1), (14, 1), (15, 1), (16, 1), (17, 1), (18, 1), (19, 1), (20, 1), (21, 1), (22, 1), (23, 1), (24, 1), (25, 1), (26, 1), (27, 1), (28, 1), (29, 1), (30, 1), (31, 1), (32, 1), (33, 1), (34, 1), (35, 1), (36, 1), (37, 1), (38, 1), (39, 1), (40, 1), (41, 1), (42, 1), (43, 1), (44, 1), (45, 1), (46, 1), (47, 1), (48, 1), (49, 1), (50, 1), (51, 1), (52, 1), (53, 1), (54, 1), (55, 1), (56, 1), (57, 1), (58, 1), (59, 1), (60, 1), (61, 1), (62, 1), (63, 1), (64, 1)], [.int .u8 0, .int .u8 0, .int .u8 0, .int .u8 0, .int .u8 0, .int .u8 0, .int .u8 0, .int .u8 0, .int .u8 0, .int .u8 0, .int .u8 0, .int .u8 0, .int .u8 0, .int .u8 0, .int .u8 0, .int .u8 0, .int .u8 0, .int .u8 0, .int .u8 0, .int .u8 0, .int .u8 0, .int .u8 0, .int .u8 0, .int .u8 0, .int .u8 0, .int .u8 0, .int .u8 0, .int .u8 0, .int .u8 0, .int .u8 0, .int .u8 0, .int .u8 0, .int .u8 0, .int .u8 0, .int .u8 0, .int .u8 0, .int .u8 0, .int .u8 0, .int .u8 0, .int .u8 0, .int .u8 0, .int .u8 0, .int .u8 0, .int .u8 0, .int .u8 0, .int .u8 0, .int .u8 0, .int .u8 0, .int .u8 0, .int .u8 0, .int .u8 0, .int .u8 0, .int .u8 0, .int .u8 0, .int .u8 0, .int .u8 0, .int .u8 0, .int .u8 0, .int .u8 0, .int .u8 0, .int .u8 0, .int .u8 0, .int .u8 0, .int .u8 0, .int .u8 0]) := by kernel_rfl
@[simp] theorem un_121 : Tryz.prog.underlying 121 = some (.array 65 5) := by kernel_rfl
@[simp] theorem by_121 : byOf Tryz.prog 121 = some 65 := by kernel_rfl
@[simp] theorem sz_122 : szOf Tryz.prog 122 = some 32 := by kernel_rfl
@[simp] theorem ag_122 : aggOf Tryz.prog 122 = some true := by kernel_rfl
@[simp] theorem zo_122 : zOf Tryz.prog 122 = some (.agg [.int .u8 0, .int .u8 0, .int .u8 0, .int .u8 0, .int .u8 0, .int .u8 0, .int .u8 0, .int .u8 0, .int .u8 0, .int .u8 0, .int .u8 0, .int .u8 0, .int .u8 0, .int .u8 0, .int .u8 0, .int .u8 0, .int .u8 0, .int .u8 0, .int .u8 0, .int .u8 0, .int .u8 0, .int .u8 0, .int .u8 0, .int .u8 0, .int .u8 0, .int .u8 0, .int .u8 0, .int .u8 0, .int .u8 0, .int .u8 0, .int .u8 0, .int .u8 0]) := by kernel_rfl
@[simp] theorem ar_122 : arrOf Tryz.prog 122 = some (32, 5, 1, false) := by kernel_rfl
@[simp] theorem bd_122 : bldOf Tryz.prog 122 = some ([(0, 1), (1, 1), (2, 1), (3, 1), (4, 1), (5, 1), (6, 1), (7, 1), (8, 1), (9, 1), (10, 1), (11, 1), (12, 1), (13, 1), (14, 1), (15, 1), (16, 1), (17, 1), (18, 1), (19, 1), (20, 1), (21, 1), (22, 1), (23, 1), (24, 1), (25, 1), (26, 1), (27, 1), (28, 1), (29, 1), (30, 1), (31, 1)], [.int .u8 0, .int .u8 0, .int .u8 0, .int .u8 0, .int .u8 0, .int .u8 0, .int .u8 0, .int .u8 0, .int .u8 0, .int .u8 0, .int .u8 0, .int .u8 0, .int .u8 0, .int .u8 0, .int .u8 0, .int .u8 0, .int .u8 0, .int .u8 0, .int .u8 0, .int .u8 0, .int .u8 0, .int .u8 0, .int .u8 0, .int .u8 0, .int .u8 0, .int .u8 0, .int .u8 0, .int .u8 0, .int .u8 0, .int .u8 0, .int .u8 0, .int .u8 0]) := by kernel_rfl
@[simp] theorem un_122 : Tryz.prog.underlying 122 = some (.array 32 5) := by kernel_rfl
@[simp] theorem by_122 : byOf Tryz.prog 122 = some 32 := by kernel_rfl
@[simp] theorem sz_123 : szOf Tryz.prog 123 = some 64 := by kernel_rfl
@[simp] theorem ag_123 : aggOf Tryz.prog 123 = some true := by kernel_rfl
@[simp] theorem zo_123 : zOf Tryz.prog 123 = some (.agg [.int .u8 0, .int .u8 0, .int .u8 0, .int .u8 0, .int .u8 0, .int .u8 0, .int .u8 0, .int .u8 0, .int .u8 0, .int .u8 0, .int .u8 0, .int .u8 0, .int .u8 0, .int .u8 0, .int .u8 0, .int .u8 0, .int .u8 0, .int .u8 0, .int .u8 0, .int .u8 0, .int .u8 0, .int .u8 0, .int .u8 0, .int .u8 0, .int .u8 0, .int .u8 0, .int .u8 0, .int .u8 0, .int .u8 0, .int .u8 0, .int .u8 0, .int .u8 0, .int .u8 0, .int .u8 0, .int .u8 0, .int .u8 0, .int .u8 0, .int .u8 0, .int .u8 0, .int .u8 0, .int .u8 0, .int .u8 0, .int .u8 0, .int .u8 0, .int .u8 0, .int .u8 0, .int .u8 0, .int .u8 0, .int .u8 0, .int .u8 0, .int .u8 0, .int .u8 0, .int .u8 0, .int .u8 0, .int .u8 0, .int .u8 0, .int .u8 0, .int .u8 0, .int .u8 0, .int .u8 0, .int .u8 0, .int .u8 0, .int .u8 0, .int .u8 0]) := by kernel_rfl
@[simp] theorem ar_123 : arrOf Tryz.prog 123 = some (64, 5, 1, false) := by kernel_rfl
@[simp] theorem bd_123 : bldOf Tryz.prog 123 = some ([(0, 1), (1, 1), (2, 1), (3, 1), (4, 1), (5, 1), (6, 1), (7, 1), (8, 1), (9, 1), (10, 1), (11, 1), (12, 1), (13, 1), (14, 1), (15, 1), (16, 1), (17, 1), (18, 1), (19, 1), (20, 1), (21, 1), (22, 1), (23, 1), (24, 1), (25, 1), (26, 1), (27, 1), (28, 1), (29, 1), (30, 1), (31, 1), (32, 1), (33, 1), (34, 1), (35, 1), (36, 1), (37, 1), (38, 1), (39, 1), (40, 1), (41, 1), (42, 1), (43, 1), (44, 1), (45, 1), (46, 1), (47, 1), (48, 1), (49, 1), (50, 1), (51, 1), (52, 1), (53, 1), (54, 1), (55, 1), (56, 1), (57, 1), (58, 1), (59, 1), (60, 1), (61, 1), (62, 1), (63, 1)], [.int .u8 0, .int .u8 0, .int .u8 0, .int .u8 0, .int .u8 0, .int .u8 0, .int .u8 0, .int .u8 0, .int .u8 0, .int .u8 0, .int .u8 0, .int .u8 0, .int .u8 0, .int .u8 0, .int .u8 0, .int .u8 0, .int .u8 0, .int .u8 0, .int .u8 0, .int .u8 0, .int .u8 0, .int .u8 0, .int .u8 0, .int .u8 0, .int .u8 0, .int .u8 0, .int .u8 0, .int .u8 0, .int .u8 0, .int .u8 0, .int .u8 0, .int .u8 0, .int .u8 0, .int .u8 0, .int .u8 0, .int .u8 0, .int .u8 0, .int .u8 0, .int .u8 0, .int .u8 0, .int .u8 0, .int .u8 0, .int .u8 0, .int .u8 0, .int .u8 0, .int .u8 0, .int .u8 0, .int .u8 0, .int .u8 0, .int .u8 0, .int .u8 0, .int .u8 0, .int .u8 0, .int .u8 0, .int .u8 0, .int .u8 0, .int .u8 0, .int .u8 0, .int .u8 0, .int .u8 0, .int .u8 0, .int .u8 0, .int .u8 0, .int .u8 0]) := by kernel_rfl
@[simp] theorem un_123 : Tryz.prog.underlying 123 = some (.array 64 5) := by kernel_rfl
@[simp] theorem by_123 : byOf Tryz.prog 123 = some 64 := by kernel_rfl
@[simp] theorem sz_124 : szOf Tryz.prog 124 = some 1 := by kernel_rfl
@[simp] theorem ag_124 : aggOf Tryz.prog 124 = some false := by kernel_rfl
@[simp] theorem zo_124 : zOf Tryz.prog 124 = some (.nilf) := by kernel_rfl
@[simp] theorem by_124 : byOf Tryz.prog 124 = some 8 := by kernel_rfl
@[simp] theorem sz_125 : szOf Tryz.prog 125 = some 4 := by kernel_rfl
@[simp] theorem ag_125 : aggOf Tryz.prog 125 = some true := by kernel_rfl
@[simp] theorem zo_125 : zOf Tryz.prog 125 = some (.agg [.nilp, .nilp, .nilp, .str ⟨#[]⟩]) := by kernel_rfl
@[simp] theorem ft_125 : ftOf Tryz.prog 125 = some (4, [(17, 0, 1), (17, 1, 1), (17, 2, 1), (9, 3, 1)]) := by kernel_rfl
@[simp] theorem fd_125_0 : fldOf Tryz.prog 125 0 = some (0, 1, false) := by kernel_rfl
@[simp] theorem fd_125_1 : fldOf Tryz.prog 125 1 = some (1, 1, false) := by kernel_rfl
@[simp] theorem fd_125_2 : fldOf Tryz.prog 125 2 = some (2, 1, false) := by kernel_rfl
@[simp] theorem fd_125_3 : fldOf Tryz.prog 125 3 = some (3, 1, false) := by kernel_rfl
@[simp] theorem bd_125 : bldOf Tryz.prog 125 = some ([(0, 1), (1, 1), (2, 1), (3, 1)], [.nilp, .nilp, .nilp, .str ⟨#[]⟩]) := by kernel_rfl
@[simp] theorem by_125 : byOf Tryz.prog 125 = some 40 := by kernel_rfl
@[simp] theorem sz_126 : szOf Tryz.prog 126 = some 4 := by kernel_rfl
@[simp] theorem ag_126 : aggOf Tryz.prog 126 = some true := by kernel_rfl
@[simp] theorem zo_126 : zOf Tryz.prog 126 = some (.agg [.nilp, .nilp, .nilp, .str ⟨#[]⟩]) := by kernel_rfl
@[simp] theorem ft_126 : ftOf Tryz.prog 126 = some (4, [(17, 0, 1), (17, 1, 1), (17, 2, 1), (9, 3, 1)]) := by kernel_rfl
@[simp] theorem fd_126_0 : fldOf Tryz.prog 126 0 = some (0, 1, false) := by kernel_rfl
@[simp] theorem fd_126_1 : fldOf Tryz.prog 126 1 = some (1, 1, false) := by kernel_rfl
@[simp] theorem fd_126_2 : fldOf Tryz.prog 126 2 = some (2, 1, false) := by kernel_rfl
@[simp] theorem fd_126_3 : fldOf Tryz.prog 126 3 = some (3, 1, false) := by kernel_rfl
@[simp] theorem bd_126 : bldOf Tryz.prog 126 = some ([(0, 1), (1, 1), (2, 1), (3, 1)], [.nilp, .nilp, .nilp, .str ⟨#[]⟩]) := by kernel_rfl
@[simp] theorem by_126 : byOf Tryz.prog 126 = some 40 := by kernel_rfl
@[simp] theorem sz_127 : szOf Tryz.prog 127 = some 0 := by kernel_rfl
@[simp] theorem ag_127 : aggOf Tryz.prog 127 = some true := by kernel_rfl
@[simp] theorem zo_127 : zOf Tryz.prog 127 = some (.agg []) := by kernel_rfl
@[simp] theorem ar_127 : arrOf Tryz.prog 127 = some (0, 16, 1, false) := by kernel_rfl
@[simp] theorem bd_127 : bldOf Tryz.prog 127 = some ([], []) := by kernel_rfl
@[simp] theorem un_127 : Tryz.prog.underlying 127 = some (.array 0 16) := by kernel_rfl
@[simp] theorem by_127 : byOf Tryz.prog 127 = some 0 := by kernel_rfl
@[simp] theorem sz_128 : szOf Tryz.prog 128 = some 0 := by kernel_rfl
@[simp] theorem ag_128 : aggOf Tryz.prog 128 = some true := by kernel_rfl
@[simp] theorem zo_128 : zOf Tryz.prog 128 = some (.agg []) := by kernel_rfl
@[simp] theorem ft_128 : ftOf Tryz.prog 128 = some (0, [(127, 0, 0)]) := by kernel_rfl
@[simp] theorem fd_128_0 : fldOf Tryz.prog 128 0 = some (0, 0, true) := by kernel_rfl
@[simp] theorem bd_128 : bldOf Tryz.prog 128 = some ([(0, 0)], []) := by kernel_rfl
@[simp] theorem by_128 : byOf Tryz.prog 128 = some 0 := by kernel_rfl
@[simp] theorem sz_129 : szOf Tryz.prog 129 = some 0 := by kernel_rfl
@[simp] theorem ag_129 : aggOf Tryz.prog 129 = some true := by kernel_rfl
@[simp] theorem zo_129 : zOf Tryz.prog 129 = some (.agg []) := by kernel_rfl
@[simp] theorem ft_129 : ftOf Tryz.prog 129 = some (0, [(127, 0, 0)]) := by kernel_rfl
@[simp] theorem fd_129_0 : fldOf Tryz.prog 129 0 = some (0, 0, true) := by kernel_rfl
@[simp] theorem bd_129 : bldOf Tryz.prog 129 = some ([(0, 0)], []) := by kernel_rfl
@[simp] theorem by_129 : byOf Tryz.prog 129 = some 0 := by kernel_rfl
@[simp] theorem sz_130 : szOf Tryz.prog 130 = some 1 := by kernel_rfl
@[simp] theorem ag_130 : aggOf Tryz.prog 130 = some false := by kernel_rfl
@[simp] theorem zo_130 : zOf Tryz.prog 130 = some (.nilf) := by kernel_rfl
@[simp] theorem by_130 : byOf Tryz.prog 130 = some 8 := by kernel_rfl
@[simp] theorem sz_131 : szOf Tryz.prog 131 = some 1 := by kernel_rfl
@[simp] theorem ag_131 : aggOf Tryz.prog 131 = some false := by kernel_rfl
@[simp] theorem zo_131 : zOf Tryz.prog 131 = some (.int .u8 0) := by kernel_rfl
@[simp] theorem un_131 : Tryz.prog.underlying 131 = some (.int .u8) := by kernel_rfl
@[simp] theorem by_131 : byOf Tryz.prog 131 = some 1 := by kernel_rfl
@[simp] theorem sz_132 : szOf Tryz.prog 132 = some 1 := by kernel_rfl
@[simp] theorem ag_132 : aggOf Tryz.prog 132 = some false := by kernel_rfl
@[simp] theorem zo_132 : zOf Tryz.prog 132 = some (.int .u8 0) := by kernel_rfl
@[simp] theorem un_132 : Tryz.prog.underlying 132 = some (.int .u8) := by kernel_rfl
@[simp] theorem by_132 : byOf Tryz.prog 132 = some 1 := by kernel_rfl
@[simp] theorem sz_133 : szOf Tryz.prog 133 = some 1 := by kernel_rfl
@[simp] theorem ag_133 : aggOf Tryz.prog 133 = some false := by kernel_rfl
@[simp] theorem zo_133 : zOf Tryz.prog 133 = some (.nilf) := by kernel_rfl
@[simp] theorem by_133 : byOf Tryz.prog 133 = some 8 := by kernel_rfl
@[simp] theorem sz_134 : szOf Tryz.prog 134 = some 1 := by kernel_rfl
@[simp] theorem ag_134 : aggOf Tryz.prog 134 = some false := by kernel_rfl
@[simp] theorem zo_134 : zOf Tryz.prog 134 = some (.nilp) := by kernel_rfl
@[simp] theorem un_134 : Tryz.prog.underlying 134 = some (.pointer 5) := by kernel_rfl
@[simp] theorem by_134 : byOf Tryz.prog 134 = some 8 := by kernel_rfl
@[simp] theorem sz_135 : szOf Tryz.prog 135 = some 1 := by kernel_rfl
@[simp] theorem ag_135 : aggOf Tryz.prog 135 = some false := by kernel_rfl
@[simp] theorem zo_135 : zOf Tryz.prog 135 = some (.int .i32 0) := by kernel_rfl
@[simp] theorem un_135 : Tryz.prog.underlying 135 = some (.int .i32) := by kernel_rfl
@[simp] theorem by_135 : byOf Tryz.prog 135 = some 4 := by kernel_rfl
@[simp] theorem sz_136 : szOf Tryz.prog 136 = some 1 := by kernel_rfl
@[simp] theorem ag_136 : aggOf Tryz.prog 136 = some false := by kernel_rfl
@[simp] theorem zo_136 : zOf Tryz.prog 136 = some (.int .i32 0) := by kernel_rfl
@[simp] theorem un_136 : Tryz.prog.underlying 136 = some (.int .i32) := by kernel_rfl
@[simp] theorem by_136 : byOf Tryz.prog 136 = some 4 := by kernel_rfl
@[simp] theorem sz_137 : szOf Tryz.prog 137 = some 11 := by kernel_rfl
@[simp] theorem ag_137 : aggOf Tryz.prog 137 = some true := by kernel_rfl
@[simp] theorem zo_137 : zOf Tryz.prog 137 = some (.agg [.int .u64 0, .int .u64 0, .int .u32 0, .int .u8 0, .int .u8 0, .int .u8 0, .int .u8 0, .nilf, .nilp, .int .i32 0, .int .i32 0]) := by kernel_rfl
@[simp] theorem ft_137 : ftOf Tryz.prog 137 = some (11, [(12, 0, 1), (12, 1, 1), (102, 2, 1), (131, 3, 1), (5, 4, 1), (5, 5, 1), (132, 6, 1), (133, 7, 1), (134, 8, 1), (135, 9, 1), (136, 10, 1)]) := by kernel_rfl
@[simp] theorem fd_137_0 : fldOf Tryz.prog 137 0 = some (0, 1, false) := by kernel_rfl
@[simp] theorem fd_137_1 : fldOf Tryz.prog 137 1 = some (1, 1, false) := by kernel_rfl
@[simp] theorem fd_137_2 : fldOf Tryz.prog 137 2 = some (2, 1, false) := by kernel_rfl
@[simp] theorem fd_137_3 : fldOf Tryz.prog 137 3 = some (3, 1, false) := by kernel_rfl
@[simp] theorem fd_137_4 : fldOf Tryz.prog 137 4 = some (4, 1, false) := by kernel_rfl
@[simp] theorem fd_137_5 : fldOf Tryz.prog 137 5 = some (5, 1, false) := by kernel_rfl
@[simp] theorem fd_137_6 : fldOf Tryz.prog 137 6 = some (6, 1, false) := by kernel_rfl
@[simp] theorem fd_137_7 : fldOf Tryz.prog 137 7 = some (7, 1, false) := by kernel_rfl
@[simp] theorem fd_137_8 : fldOf Tryz.prog 137 8 = some (8, 1, false) := by kernel_rfl
@[simp] theorem fd_137_9 : fldOf Tryz.prog 137 9 = some (9, 1, false) := by kernel_rfl
@[simp] theorem fd_137_10 : fldOf Tryz.prog 137 10 = some (10, 1, false) := by kernel_rfl
@[simp] theorem bd_137 : bldOf Tryz.prog 137 = some ([(0, 1), (1, 1), (2, 1), (3, 1), (4, 1), (5, 1), (6, 1), (7, 1), (8, 1), (9, 1), (10, 1)], [.int .u64 0, .int .u64 0, .int .u32 0, .int .u8 0, .int .u8 0, .int .u8 0, .int .u8 0, .nilf, .nilp, .int .i32 0, .int .i32 0]) := by kernel_rfl
@[simp] theorem by_137 : byOf Tryz.prog 137 = some 48 := by kernel_rfl
@[simp] theorem sz_138 : szOf Tryz.prog 138 = some 11 := by kernel_rfl
@[simp] theorem ag_138 : aggOf Tryz.prog 138 = some true := by kernel_rfl
@[simp] theorem zo_138 : zOf Tryz.prog 138 = some (.agg [.int .u64 0, .int .u64 0, .int .u32 0, .int .u8 0, .int .u8 0, .int .u8 0, .int .u8 0, .nilf, .nilp, .int .i32 0, .int .i32 0]) := by kernel_rfl
@[simp] theorem ft_138 : ftOf Tryz.prog 138 = some (11, [(12, 0, 1), (12, 1, 1), (102, 2, 1), (131, 3, 1), (5, 4, 1), (5, 5, 1), (132, 6, 1), (133, 7, 1), (134, 8, 1), (135, 9, 1), (136, 10, 1)]) := by kernel_rfl
@[simp] theorem fd_138_0 : fldOf Tryz.prog 138 0 = some (0, 1, false) := by kernel_rfl
@[simp] theorem fd_138_1 : fldOf Tryz.prog 138 1 = some (1, 1, false) := by kernel_rfl
@[simp] theorem fd_138_2 : fldOf Tryz.prog 138 2 = some (2, 1, false) := by kernel_rfl
@[simp] theorem fd_138_3 : fldOf Tryz.prog 138 3 = some (3, 1, false) := by kernel_rfl
@[simp] theorem fd_138_4 : fldOf Tryz.prog 138 4 = some (4, 1, false) := by kernel_rfl
@[simp] theorem fd_138_5 : fldOf Tryz.prog 138 5 = some (5, 1, false) := by kernel_rfl
@[simp] theorem fd_138_6 : fldOf Tryz.prog 138 6 = some (6, 1, false) := by kernel_rfl
@[simp] theorem fd_138_7 : fldOf Tryz.prog 138 7 = some (7, 1, false) := by kernel_rfl
@[simp] theorem fd_138_8 : fldOf Tryz.prog 138 8 = some (8, 1, false) := by kernel_rfl
@[simp] theorem fd_138_9 : fldOf Tryz.prog 138 9 = some (9, 1, false) := by kernel_rfl
@[simp] theorem fd_138_10 : fldOf Tryz.prog 138 10 = some (10, 1, false) := by kernel_rfl
@[simp] theorem bd_138 : bldOf Tryz.prog 138 = some ([(0, 1), (1, 1), (2, 1), (3, 1), (4, 1), (5, 1), (6, 1), (7, 1), (8, 1), (9, 1), (10, 1)], [.int .u64 0, .int .u64 0, .int .u32 0, .int .u8 0, .int .u8 0, .int .u8 0, .int .u8 0, .nilf, .nilp, .int .i32 0, .int .i32 0]) := by kernel_rfl
@[simp] theorem by_138 : byOf Tryz.prog 138 = some 48 := by kernel_rfl
def allS : List Nat := [2, 3, 4, 5, 6, 7, 8, 9, 10, 11, 12, 13, 14, 21, 22, 23, 24, 25, 26, 37, 40, 41, 64, 89, 90, 91, 94, 102, 106, 131, 132, 135, 136]
theorem plain_all : plainS Tryz.prog allS = true := by kernel_rfl
end Go.Proofs.YtcjfjoilgnlemaaGreatDoor.PL
