/- What the program's types are, as it is asked in the steps. -/
import Derived.Test.YtjplcdeaedflpaaGreatDoorPLd
import Derived.Test.YtjplcdeaedflpaaGreatDoorProg
import Derived.KernelRfl
namespace Go.Proofs.YtjplcdeaedflpaaGreatDoor.PL
open Go.Proofs
theorem mix : Tryz.prog.follows .mixedOrders = true := by kernel_rfl
@[simp] theorem sz_1 : szOf Tryz.prog 1 = some 1 := by kernel_rfl
@[simp] theorem ag_1 : aggOf Tryz.prog 1 = some false := by kernel_rfl
@[simp] theorem zo_1 : zOf Tryz.prog 1 = some (.nilf) := by kernel_rfl
@[simp] theorem by_1 : byOf Tryz.prog 1 = some 8 := by kernel_rfl
@[simp] theorem sz_2 : szOf Tryz.prog 2 = some 1 := by kernel_rfl
@[simp] theorem ag_2 : aggOf Tryz.prog 2 = some false := by kernel_rfl
@[simp] theorem zo_2 : zOf Tryz.prog 2 = some (.int .i64 0) := by kernel_rfl
@[simp] theorem un_2 : Tryz.prog.underlying 2 = some (.int .i64) := by kernel_rfl
@[simp] theorem by_2 : byOf Tryz.prog 2 = some 8 := by kernel_rfl
@[simp] theorem sz_3 : szOf Tryz.prog 3 = some 1 := by kernel_rfl
@[simp] theorem ag_3 : aggOf Tryz.prog 3 = some false := by kernel_rfl
@[simp] theorem zo_3 : zOf Tryz.prog 3 = some (.int .i64 0) := by kernel_rfl
@[simp] theorem un_3 : Tryz.prog.underlying 3 = some (.int .i64) := by kernel_rfl
@[simp] theorem by_3 : byOf Tryz.prog 3 = some 8 := by kernel_rfl
@[simp] theorem sz_4 : szOf Tryz.prog 4 = some 1 := by kernel_rfl
@[simp] theorem ag_4 : aggOf Tryz.prog 4 = some false := by kernel_rfl
@[simp] theorem zo_4 : zOf Tryz.prog 4 = some (.bool false) := by kernel_rfl
@[simp] theorem un_4 : Tryz.prog.underlying 4 = some (.bool) := by kernel_rfl
@[simp] theorem by_4 : byOf Tryz.prog 4 = some 1 := by kernel_rfl
@[simp] theorem sz_5 : szOf Tryz.prog 5 = some 1 := by kernel_rfl
@[simp] theorem ag_5 : aggOf Tryz.prog 5 = some false := by kernel_rfl
@[simp] theorem zo_5 : zOf Tryz.prog 5 = some (.int .u8 0) := by kernel_rfl
@[simp] theorem un_5 : Tryz.prog.underlying 5 = some (.int .u8) := by kernel_rfl
@[simp] theorem by_5 : byOf Tryz.prog 5 = some 1 := by kernel_rfl
@[simp] theorem sz_6 : szOf Tryz.prog 6 = some 1 := by kernel_rfl
@[simp] theorem ag_6 : aggOf Tryz.prog 6 = some false := by kernel_rfl
@[simp] theorem zo_6 : zOf Tryz.prog 6 = some (.int .u8 0) := by kernel_rfl
@[simp] theorem un_6 : Tryz.prog.underlying 6 = some (.int .u8) := by kernel_rfl
@[simp] theorem by_6 : byOf Tryz.prog 6 = some 1 := by kernel_rfl
@[simp] theorem sz_7 : szOf Tryz.prog 7 = some 4 := by kernel_rfl
@[simp] theorem ag_7 : aggOf Tryz.prog 7 = some true := by kernel_rfl
@[simp] theorem zo_7 : zOf Tryz.prog 7 = some (.agg [.int .i64 0, .int .i64 0, .bool false, .int .u8 0]) := by kernel_rfl
@[simp] theorem ft_7 : ftOf Tryz.prog 7 = some (4, [(2, 0, 1), (3, 1, 1), (4, 2, 1), (6, 3, 1)]) := by kernel_rfl
@[simp] theorem fd_7_0 : fldOf Tryz.prog 7 0 = some (0, 1, false) := by kernel_rfl
@[simp] theorem fd_7_1 : fldOf Tryz.prog 7 1 = some (1, 1, false) := by kernel_rfl
@[simp] theorem fd_7_2 : fldOf Tryz.prog 7 2 = some (2, 1, false) := by kernel_rfl
@[simp] theorem fd_7_3 : fldOf Tryz.prog 7 3 = some (3, 1, false) := by kernel_rfl
@[simp] theorem bd_7 : bldOf Tryz.prog 7 = some ([(0, 1), (1, 1), (2, 1), (3, 1)], [.int .i64 0, .int .i64 0, .bool false, .int .u8 0]) := by kernel_rfl
@[simp] theorem by_7 : byOf Tryz.prog 7 = some 24 := by kernel_rfl
@[simp] theorem sz_8 : szOf Tryz.prog 8 = some 4 := by kernel_rfl
@[simp] theorem ag_8 : aggOf Tryz.prog 8 = some true := by kernel_rfl
@[simp] theorem zo_8 : zOf Tryz.prog 8 = some (.agg [.int .i64 0, .int .i64 0, .bool false, .int .u8 0]) := by kernel_rfl
@[simp] theorem ft_8 : ftOf Tryz.prog 8 = some (4, [(2, 0, 1), (3, 1, 1), (4, 2, 1), (6, 3, 1)]) := by kernel_rfl
@[simp] theorem fd_8_0 : fldOf Tryz.prog 8 0 = some (0, 1, false) := by kernel_rfl
@[simp] theorem fd_8_1 : fldOf Tryz.prog 8 1 = some (1, 1, false) := by kernel_rfl
@[simp] theorem fd_8_2 : fldOf Tryz.prog 8 2 = some (2, 1, false) := by kernel_rfl
@[simp] theorem fd_8_3 : fldOf Tryz.prog 8 3 = some (3, 1, false) := by kernel_rfl
@[simp] theorem bd_8 : bldOf Tryz.prog 8 = some ([(0, 1), (1, 1), (2, 1), (3, 1)], [.int .i64 0, .int .i64 0, .bool false, .int .u8 0]) := by kernel_rfl
@[simp] theorem by_8 : byOf Tryz.prog 8 = some 24 := by kernel_rfl
@[simp] theorem sz_9 : szOf Tryz.prog 9 = some 1 := by kernel_rfl
@[simp] theorem ag_9 : aggOf Tryz.prog 9 = some false := by kernel_rfl
@[simp] theorem zo_9 : zOf Tryz.prog 9 = some (.str ⟨#[]⟩) := by kernel_rfl
@[simp] theorem un_9 : Tryz.prog.underlying 9 = some (.string) := by kernel_rfl
@[simp] theorem by_9 : byOf Tryz.prog 9 = some 16 := by kernel_rfl
@[simp] theorem sz_10 : szOf Tryz.prog 10 = some 1 := by kernel_rfl
@[simp] theorem ag_10 : aggOf Tryz.prog 10 = some false := by kernel_rfl
@[simp] theorem zo_10 : zOf Tryz.prog 10 = some (.str ⟨#[]⟩) := by kernel_rfl
@[simp] theorem un_10 : Tryz.prog.underlying 10 = some (.string) := by kernel_rfl
@[simp] theorem by_10 : byOf Tryz.prog 10 = some 16 := by kernel_rfl
@[simp] theorem sz_11 : szOf Tryz.prog 11 = some 1 := by kernel_rfl
@[simp] theorem ag_11 : aggOf Tryz.prog 11 = some false := by kernel_rfl
@[simp] theorem zo_11 : zOf Tryz.prog 11 = some (.str ⟨#[]⟩) := by kernel_rfl
@[simp] theorem un_11 : Tryz.prog.underlying 11 = some (.string) := by kernel_rfl
@[simp] theorem by_11 : byOf Tryz.prog 11 = some 16 := by kernel_rfl
@[simp] theorem sz_12 : szOf Tryz.prog 12 = some 1 := by kernel_rfl
@[simp] theorem ag_12 : aggOf Tryz.prog 12 = some false := by kernel_rfl
@[simp] theorem zo_12 : zOf Tryz.prog 12 = some (.int .u64 0) := by kernel_rfl
@[simp] theorem un_12 : Tryz.prog.underlying 12 = some (.int .u64) := by kernel_rfl
@[simp] theorem by_12 : byOf Tryz.prog 12 = some 8 := by kernel_rfl
@[simp] theorem sz_13 : szOf Tryz.prog 13 = some 2 := by kernel_rfl
@[simp] theorem ag_13 : aggOf Tryz.prog 13 = some true := by kernel_rfl
@[simp] theorem zo_13 : zOf Tryz.prog 13 = some (.agg [.str ⟨#[]⟩, .int .u64 0]) := by kernel_rfl
@[simp] theorem ft_13 : ftOf Tryz.prog 13 = some (2, [(9, 0, 1), (12, 1, 1)]) := by kernel_rfl
@[simp] theorem fd_13_0 : fldOf Tryz.prog 13 0 = some (0, 1, false) := by kernel_rfl
@[simp] theorem fd_13_1 : fldOf Tryz.prog 13 1 = some (1, 1, false) := by kernel_rfl
@[simp] theorem bd_13 : bldOf Tryz.prog 13 = some ([(0, 1), (1, 1)], [.str ⟨#[]⟩, .int .u64 0]) := by kernel_rfl
@[simp] theorem by_13 : byOf Tryz.prog 13 = some 24 := by kernel_rfl
@[simp] theorem sz_14 : szOf Tryz.prog 14 = some 2 := by kernel_rfl
@[simp] theorem ag_14 : aggOf Tryz.prog 14 = some true := by kernel_rfl
@[simp] theorem zo_14 : zOf Tryz.prog 14 = some (.agg [.str ⟨#[]⟩, .int .u64 0]) := by kernel_rfl
@[simp] theorem ft_14 : ftOf Tryz.prog 14 = some (2, [(9, 0, 1), (12, 1, 1)]) := by kernel_rfl
@[simp] theorem fd_14_0 : fldOf Tryz.prog 14 0 = some (0, 1, false) := by kernel_rfl
@[simp] theorem fd_14_1 : fldOf Tryz.prog 14 1 = some (1, 1, false) := by kernel_rfl
@[simp] theorem bd_14 : bldOf Tryz.prog 14 = some ([(0, 1), (1, 1)], [.str ⟨#[]⟩, .int .u64 0]) := by kernel_rfl
@[simp] theorem by_14 : byOf Tryz.prog 14 = some 24 := by kernel_rfl
@[simp] theorem sz_15 : szOf Tryz.prog 15 = some 1 := by kernel_rfl
@[simp] theorem ag_15 : aggOf Tryz.prog 15 = some false := by kernel_rfl
@[simp] theorem zo_15 : zOf Tryz.prog 15 = some (.nilp) := by kernel_rfl
@[simp] theorem un_15 : Tryz.prog.underlying 15 = some (.pointer 175) := by kernel_rfl
@[simp] theorem by_15 : byOf Tryz.prog 15 = some 8 := by kernel_rfl
@[simp] theorem sz_16 : szOf Tryz.prog 16 = some 1 := by kernel_rfl
@[simp] theorem ag_16 : aggOf Tryz.prog 16 = some false := by kernel_rfl
@[simp] theorem zo_16 : zOf Tryz.prog 16 = some (.nilp) := by kernel_rfl
@[simp] theorem un_16 : Tryz.prog.underlying 16 = some (.pointer 178) := by kernel_rfl
@[simp] theorem by_16 : byOf Tryz.prog 16 = some 8 := by kernel_rfl
@[simp] theorem sz_17 : szOf Tryz.prog 17 = some 1 := by kernel_rfl
@[simp] theorem ag_17 : aggOf Tryz.prog 17 = some false := by kernel_rfl
@[simp] theorem zo_17 : zOf Tryz.prog 17 = some (.nilp) := by kernel_rfl
@[simp] theorem un_17 : Tryz.prog.underlying 17 = some (.pointer 187) := by kernel_rfl
@[simp] theorem by_17 : byOf Tryz.prog 17 = some 8 := by kernel_rfl
@[simp] theorem sz_18 : szOf Tryz.prog 18 = some 1 := by kernel_rfl
@[simp] theorem ag_18 : aggOf Tryz.prog 18 = some true := by kernel_rfl
@[simp] theorem zo_18 : zOf Tryz.prog 18 = some (.agg [.nilp]) := by kernel_rfl
@[simp] theorem ft_18 : ftOf Tryz.prog 18 = some (1, [(17, 0, 1)]) := by kernel_rfl
@[simp] theorem fd_18_0 : fldOf Tryz.prog 18 0 = some (0, 1, false) := by kernel_rfl
@[simp] theorem bd_18 : bldOf Tryz.prog 18 = some ([(0, 1)], [.nilp]) := by kernel_rfl
@[simp] theorem by_18 : byOf Tryz.prog 18 = some 8 := by kernel_rfl
@[simp] theorem sz_19 : szOf Tryz.prog 19 = some 1 := by kernel_rfl
@[simp] theorem ag_19 : aggOf Tryz.prog 19 = some true := by kernel_rfl
@[simp] theorem zo_19 : zOf Tryz.prog 19 = some (.agg [.nilp]) := by kernel_rfl
@[simp] theorem ft_19 : ftOf Tryz.prog 19 = some (1, [(17, 0, 1)]) := by kernel_rfl
@[simp] theorem fd_19_0 : fldOf Tryz.prog 19 0 = some (0, 1, false) := by kernel_rfl
@[simp] theorem bd_19 : bldOf Tryz.prog 19 = some ([(0, 1)], [.nilp]) := by kernel_rfl
@[simp] theorem by_19 : byOf Tryz.prog 19 = some 8 := by kernel_rfl
@[simp] theorem sz_21 : szOf Tryz.prog 21 = some 1 := by kernel_rfl
@[simp] theorem ag_21 : aggOf Tryz.prog 21 = some false := by kernel_rfl
@[simp] theorem zo_21 : zOf Tryz.prog 21 = some (.int .i32 0) := by kernel_rfl
@[simp] theorem un_21 : Tryz.prog.underlying 21 = some (.int .i32) := by kernel_rfl
@[simp] theorem by_21 : byOf Tryz.prog 21 = some 4 := by kernel_rfl
@[simp] theorem sz_22 : szOf Tryz.prog 22 = some 1 := by kernel_rfl
@[simp] theorem ag_22 : aggOf Tryz.prog 22 = some false := by kernel_rfl
@[simp] theorem zo_22 : zOf Tryz.prog 22 = some (.sl .exact []) := by kernel_rfl
@[simp] theorem sl_22 : slOf Tryz.prog 22 = some (3, 1) := by kernel_rfl
@[simp] theorem li_22 : litOf Tryz.prog 22 = some (false, 1, [.int .i64 0]) := by kernel_rfl
@[simp] theorem un_22 : Tryz.prog.underlying 22 = some (.slice 3) := by kernel_rfl
@[simp] theorem by_22 : byOf Tryz.prog 22 = some 24 := by kernel_rfl
@[simp] theorem sz_23 : szOf Tryz.prog 23 = some 1 := by kernel_rfl
@[simp] theorem ag_23 : aggOf Tryz.prog 23 = some false := by kernel_rfl
@[simp] theorem zo_23 : zOf Tryz.prog 23 = some (.sl .exact []) := by kernel_rfl
@[simp] theorem sl_23 : slOf Tryz.prog 23 = some (59, 1) := by kernel_rfl
@[simp] theorem li_23 : litOf Tryz.prog 23 = some (false, 1, [.sl .exact []]) := by kernel_rfl
@[simp] theorem un_23 : Tryz.prog.underlying 23 = some (.slice 59) := by kernel_rfl
@[simp] theorem by_23 : byOf Tryz.prog 23 = some 24 := by kernel_rfl
@[simp] theorem sz_24 : szOf Tryz.prog 24 = some 2 := by kernel_rfl
@[simp] theorem ag_24 : aggOf Tryz.prog 24 = some true := by kernel_rfl
@[simp] theorem zo_24 : zOf Tryz.prog 24 = some (.agg [.sl .exact [], .sl .exact []]) := by kernel_rfl
@[simp] theorem ft_24 : ftOf Tryz.prog 24 = some (2, [(22, 0, 1), (23, 1, 1)]) := by kernel_rfl
@[simp] theorem fd_24_0 : fldOf Tryz.prog 24 0 = some (0, 1, false) := by kernel_rfl
@[simp] theorem fd_24_1 : fldOf Tryz.prog 24 1 = some (1, 1, false) := by kernel_rfl
@[simp] theorem bd_24 : bldOf Tryz.prog 24 = some ([(0, 1), (1, 1)], [.sl .exact [], .sl .exact []]) := by kernel_rfl
@[simp] theorem by_24 : byOf Tryz.prog 24 = some 48 := by kernel_rfl
@[simp] theorem sz_25 : szOf Tryz.prog 25 = some 2 := by kernel_rfl
@[simp] theorem ag_25 : aggOf Tryz.prog 25 = some true := by kernel_rfl
@[simp] theorem zo_25 : zOf Tryz.prog 25 = some (.agg [.sl .exact [], .sl .exact []]) := by kernel_rfl
@[simp] theorem ft_25 : ftOf Tryz.prog 25 = some (2, [(22, 0, 1), (23, 1, 1)]) := by kernel_rfl
@[simp] theorem fd_25_0 : fldOf Tryz.prog 25 0 = some (0, 1, false) := by kernel_rfl
@[simp] theorem fd_25_1 : fldOf Tryz.prog 25 1 = some (1, 1, false) := by kernel_rfl
@[simp] theorem bd_25 : bldOf Tryz.prog 25 = some ([(0, 1), (1, 1)], [.sl .exact [], .sl .exact []]) := by kernel_rfl
@[simp] theorem by_25 : byOf Tryz.prog 25 = some 48 := by kernel_rfl
@[simp] theorem sz_26 : szOf Tryz.prog 26 = some 1 := by kernel_rfl
@[simp] theorem ag_26 : aggOf Tryz.prog 26 = some false := by kernel_rfl
@[simp] theorem zo_26 : zOf Tryz.prog 26 = some (.nilf) := by kernel_rfl
@[simp] theorem by_26 : byOf Tryz.prog 26 = some 8 := by kernel_rfl
@[simp] theorem sz_27 : szOf Tryz.prog 27 = some 1 := by kernel_rfl
@[simp] theorem ag_27 : aggOf Tryz.prog 27 = some false := by kernel_rfl
@[simp] theorem zo_27 : zOf Tryz.prog 27 = some (.nilf) := by kernel_rfl
@[simp] theorem by_27 : byOf Tryz.prog 27 = some 8 := by kernel_rfl
@[simp] theorem sz_28 : szOf Tryz.prog 28 = some 1 := by kernel_rfl
@[simp] theorem ag_28 : aggOf Tryz.prog 28 = some false := by kernel_rfl
@[simp] theorem zo_28 : zOf Tryz.prog 28 = some (.nilf) := by kernel_rfl
@[simp] theorem by_28 : byOf Tryz.prog 28 = some 8 := by kernel_rfl
@[simp] theorem sz_29 : szOf Tryz.prog 29 = some 1 := by kernel_rfl
@[simp] theorem ag_29 : aggOf Tryz.prog 29 = some false := by kernel_rfl
@[simp] theorem zo_29 : zOf Tryz.prog 29 = some (.nilf) := by kernel_rfl
@[simp] theorem by_29 : byOf Tryz.prog 29 = some 8 := by kernel_rfl
@[simp] theorem sz_30 : szOf Tryz.prog 30 = some 1 := by kernel_rfl
@[simp] theorem ag_30 : aggOf Tryz.prog 30 = some false := by kernel_rfl
@[simp] theorem zo_30 : zOf Tryz.prog 30 = some (.nilf) := by kernel_rfl
@[simp] theorem by_30 : byOf Tryz.prog 30 = some 8 := by kernel_rfl
@[simp] theorem sz_31 : szOf Tryz.prog 31 = some 1 := by kernel_rfl
@[simp] theorem ag_31 : aggOf Tryz.prog 31 = some false := by kernel_rfl
@[simp] theorem zo_31 : zOf Tryz.prog 31 = some (.sl .exact []) := by kernel_rfl
@[simp] theorem sl_31 : slOf Tryz.prog 31 = some (25, 2) := by kernel_rfl
@[simp] theorem li_31 : litOf Tryz.prog 31 = some (true, 2, [.sl .exact [], .sl .exact []]) := by kernel_rfl
@[simp] theorem un_31 : Tryz.prog.underlying 31 = some (.slice 25) := by kernel_rfl
@[simp] theorem by_31 : byOf Tryz.prog 31 = some 24 := by kernel_rfl
@[simp] theorem sz_32 : szOf Tryz.prog 32 = some 1 := by kernel_rfl
@[simp] theorem ag_32 : aggOf Tryz.prog 32 = some false := by kernel_rfl
@[simp] theorem zo_32 : zOf Tryz.prog 32 = some (.nilf) := by kernel_rfl
@[simp] theorem by_32 : byOf Tryz.prog 32 = some 8 := by kernel_rfl
@[simp] theorem sz_33 : szOf Tryz.prog 33 = some 1 := by kernel_rfl
@[simp] theorem ag_33 : aggOf Tryz.prog 33 = some false := by kernel_rfl
@[simp] theorem zo_33 : zOf Tryz.prog 33 = some (.nilf) := by kernel_rfl
@[simp] theorem by_33 : byOf Tryz.prog 33 = some 8 := by kernel_rfl
@[simp] theorem sz_34 : szOf Tryz.prog 34 = some 1 := by kernel_rfl
@[simp] theorem ag_34 : aggOf Tryz.prog 34 = some false := by kernel_rfl
@[simp] theorem zo_34 : zOf Tryz.prog 34 = some (.sl .exact []) := by kernel_rfl
@[simp] theorem sl_34 : slOf Tryz.prog 34 = some (80, 2) := by kernel_rfl
@[simp] theorem li_34 : litOf Tryz.prog 34 = some (true, 2, [.int .i64 0, .int .i64 0]) := by kernel_rfl
@[simp] theorem un_34 : Tryz.prog.underlying 34 = some (.slice 80) := by kernel_rfl
@[simp] theorem by_34 : byOf Tryz.prog 34 = some 24 := by kernel_rfl
@[simp] theorem sz_35 : szOf Tryz.prog 35 = some 1 := by kernel_rfl
@[simp] theorem ag_35 : aggOf Tryz.prog 35 = some false := by kernel_rfl
@[simp] theorem zo_35 : zOf Tryz.prog 35 = some (.nilf) := by kernel_rfl
@[simp] theorem by_35 : byOf Tryz.prog 35 = some 8 := by kernel_rfl
@[simp] theorem sz_36 : szOf Tryz.prog 36 = some 1 := by kernel_rfl
@[simp] theorem ag_36 : aggOf Tryz.prog 36 = some false := by kernel_rfl
@[simp] theorem zo_36 : zOf Tryz.prog 36 = some (.nilf) := by kernel_rfl
@[simp] theorem by_36 : byOf Tryz.prog 36 = some 8 := by kernel_rfl
@[simp] theorem sz_37 : szOf Tryz.prog 37 = some 1 := by kernel_rfl
@[simp] theorem ag_37 : aggOf Tryz.prog 37 = some false := by kernel_rfl
@[simp] theorem zo_37 : zOf Tryz.prog 37 = some (.nilf) := by kernel_rfl
@[simp] theorem by_37 : byOf Tryz.prog 37 = some 8 := by kernel_rfl
@[simp] theorem sz_38 : szOf Tryz.prog 38 = some 1 := by kernel_rfl
@[simp] theorem ag_38 : aggOf Tryz.prog 38 = some false := by kernel_rfl
@[simp] theorem zo_38 : zOf Tryz.prog 38 = some (.nilf) := by kernel_rfl
@[simp] theorem by_38 : byOf Tryz.prog 38 = some 8 := by kernel_rfl
@[simp] theorem sz_39 : szOf Tryz.prog 39 = some 1 := by kernel_rfl
@[simp] theorem ag_39 : aggOf Tryz.prog 39 = some false := by kernel_rfl
@[simp] theorem zo_39 : zOf Tryz.prog 39 = some (.nilf) := by kernel_rfl
@[simp] theorem by_39 : byOf Tryz.prog 39 = some 8 := by kernel_rfl
@[simp] theorem sz_40 : szOf Tryz.prog 40 = some 1 := by kernel_rfl
@[simp] theorem ag_40 : aggOf Tryz.prog 40 = some false := by kernel_rfl
@[simp] theorem zo_40 : zOf Tryz.prog 40 = some (.nilf) := by kernel_rfl
@[simp] theorem by_40 : byOf Tryz.prog 40 = some 8 := by kernel_rfl
@[simp] theorem sz_41 : szOf Tryz.prog 41 = some 1 := by kernel_rfl
@[simp] theorem ag_41 : aggOf Tryz.prog 41 = some false := by kernel_rfl
@[simp] theorem zo_41 : zOf Tryz.prog 41 = some (.nilf) := by kernel_rfl
@[simp] theorem by_41 : byOf Tryz.prog 41 = some 8 := by kernel_rfl
@[simp] theorem sz_42 : szOf Tryz.prog 42 = some 1 := by kernel_rfl
@[simp] theorem ag_42 : aggOf Tryz.prog 42 = some false := by kernel_rfl
@[simp] theorem zo_42 : zOf Tryz.prog 42 = some (.nilf) := by kernel_rfl
@[simp] theorem by_42 : byOf Tryz.prog 42 = some 8 := by kernel_rfl
@[simp] theorem sz_43 : szOf Tryz.prog 43 = some 1 := by kernel_rfl
@[simp] theorem ag_43 : aggOf Tryz.prog 43 = some false := by kernel_rfl
@[simp] theorem zo_43 : zOf Tryz.prog 43 = some (.nilf) := by kernel_rfl
@[simp] theorem by_43 : byOf Tryz.prog 43 = some 8 := by kernel_rfl
@[simp] theorem sz_44 : szOf Tryz.prog 44 = some 1 := by kernel_rfl
@[simp] theorem ag_44 : aggOf Tryz.prog 44 = some false := by kernel_rfl
@[simp] theorem zo_44 : zOf Tryz.prog 44 = some (.nilf) := by kernel_rfl
@[simp] theorem by_44 : byOf Tryz.prog 44 = some 8 := by kernel_rfl
@[simp] theorem sz_45 : szOf Tryz.prog 45 = some 1 := by kernel_rfl
@[simp] theorem ag_45 : aggOf Tryz.prog 45 = some false := by kernel_rfl
@[simp] theorem zo_45 : zOf Tryz.prog 45 = some (.sl .exact []) := by kernel_rfl
@[simp] theorem sl_45 : slOf Tryz.prog 45 = some (22, 1) := by kernel_rfl
@[simp] theorem li_45 : litOf Tryz.prog 45 = some (false, 1, [.sl .exact []]) := by kernel_rfl
@[simp] theorem un_45 : Tryz.prog.underlying 45 = some (.slice 22) := by kernel_rfl
@[simp] theorem by_45 : byOf Tryz.prog 45 = some 24 := by kernel_rfl
@[simp] theorem sz_46 : szOf Tryz.prog 46 = some 1 := by kernel_rfl
@[simp] theorem ag_46 : aggOf Tryz.prog 46 = some false := by kernel_rfl
@[simp] theorem zo_46 : zOf Tryz.prog 46 = some (.nilf) := by kernel_rfl
@[simp] theorem by_46 : byOf Tryz.prog 46 = some 8 := by kernel_rfl
@[simp] theorem sz_47 : szOf Tryz.prog 47 = some 1 := by kernel_rfl
@[simp] theorem ag_47 : aggOf Tryz.prog 47 = some false := by kernel_rfl
@[simp] theorem zo_47 : zOf Tryz.prog 47 = some (.nilf) := by kernel_rfl
@[simp] theorem by_47 : byOf Tryz.prog 47 = some 8 := by kernel_rfl
@[simp] theorem sz_48 : szOf Tryz.prog 48 = some 1 := by kernel_rfl
@[simp] theorem ag_48 : aggOf Tryz.prog 48 = some false := by kernel_rfl
@[simp] theorem zo_48 : zOf Tryz.prog 48 = some (.nilf) := by kernel_rfl
@[simp] theorem by_48 : byOf Tryz.prog 48 = some 8 := by kernel_rfl
@[simp] theorem sz_49 : szOf Tryz.prog 49 = some 1 := by kernel_rfl
@[simp] theorem ag_49 : aggOf Tryz.prog 49 = some false := by kernel_rfl
@[simp] theorem zo_49 : zOf Tryz.prog 49 = some (.nilf) := by kernel_rfl
@[simp] theorem by_49 : byOf Tryz.prog 49 = some 8 := by kernel_rfl
@[simp] theorem sz_50 : szOf Tryz.prog 50 = some 1 := by kernel_rfl
@[simp] theorem ag_50 : aggOf Tryz.prog 50 = some false := by kernel_rfl
@[simp] theorem zo_50 : zOf Tryz.prog 50 = some (.nilf) := by kernel_rfl
@[simp] theorem by_50 : byOf Tryz.prog 50 = some 8 := by kernel_rfl
@[simp] theorem sz_51 : szOf Tryz.prog 51 = some 1 := by kernel_rfl
@[simp] theorem ag_51 : aggOf Tryz.prog 51 = some false := by kernel_rfl
@[simp] theorem zo_51 : zOf Tryz.prog 51 = some (.nilf) := by kernel_rfl
@[simp] theorem by_51 : byOf Tryz.prog 51 = some 8 := by kernel_rfl
@[simp] theorem sz_53 : szOf Tryz.prog 53 = some 1 := by kernel_rfl
@[simp] theorem ag_53 : aggOf Tryz.prog 53 = some false := by kernel_rfl
@[simp] theorem zo_53 : zOf Tryz.prog 53 = some (.nilf) := by kernel_rfl
@[simp] theorem by_53 : byOf Tryz.prog 53 = some 8 := by kernel_rfl
@[simp] theorem sz_54 : szOf Tryz.prog 54 = some 1 := by kernel_rfl
@[simp] theorem ag_54 : aggOf Tryz.prog 54 = some false := by kernel_rfl
@[simp] theorem zo_54 : zOf Tryz.prog 54 = some (.nilf) := by kernel_rfl
@[simp] theorem by_54 : byOf Tryz.prog 54 = some 8 := by kernel_rfl
@[simp] theorem sz_55 : szOf Tryz.prog 55 = some 1 := by kernel_rfl
@[simp] theorem ag_55 : aggOf Tryz.prog 55 = some false := by kernel_rfl
@[simp] theorem zo_55 : zOf Tryz.prog 55 = some (.nilf) := by kernel_rfl
@[simp] theorem by_55 : byOf Tryz.prog 55 = some 8 := by kernel_rfl
@[simp] theorem sz_56 : szOf Tryz.prog 56 = some 1 := by kernel_rfl
@[simp] theorem ag_56 : aggOf Tryz.prog 56 = some false := by kernel_rfl
@[simp] theorem zo_56 : zOf Tryz.prog 56 = some (.nilf) := by kernel_rfl
@[simp] theorem by_56 : byOf Tryz.prog 56 = some 8 := by kernel_rfl
@[simp] theorem sz_57 : szOf Tryz.prog 57 = some 3 := by kernel_rfl
@[simp] theorem ag_57 : aggOf Tryz.prog 57 = some true := by kernel_rfl
@[simp] theorem zo_57 : zOf Tryz.prog 57 = some (.agg [.int .i64 0, .int .i64 0, .str ⟨#[]⟩]) := by kernel_rfl
@[simp] theorem ft_57 : ftOf Tryz.prog 57 = some (3, [(3, 0, 1), (3, 1, 1), (9, 2, 1)]) := by kernel_rfl
@[simp] theorem fd_57_0 : fldOf Tryz.prog 57 0 = some (0, 1, false) := by kernel_rfl
@[simp] theorem fd_57_1 : fldOf Tryz.prog 57 1 = some (1, 1, false) := by kernel_rfl
@[simp] theorem fd_57_2 : fldOf Tryz.prog 57 2 = some (2, 1, false) := by kernel_rfl
@[simp] theorem bd_57 : bldOf Tryz.prog 57 = some ([(0, 1), (1, 1), (2, 1)], [.int .i64 0, .int .i64 0, .str ⟨#[]⟩]) := by kernel_rfl
@[simp] theorem by_57 : byOf Tryz.prog 57 = some 32 := by kernel_rfl
@[simp] theorem sz_58 : szOf Tryz.prog 58 = some 3 := by kernel_rfl
@[simp] theorem ag_58 : aggOf Tryz.prog 58 = some true := by kernel_rfl
@[simp] theorem zo_58 : zOf Tryz.prog 58 = some (.agg [.int .i64 0, .int .i64 0, .str ⟨#[]⟩]) := by kernel_rfl
@[simp] theorem ft_58 : ftOf Tryz.prog 58 = some (3, [(3, 0, 1), (3, 1, 1), (9, 2, 1)]) := by kernel_rfl
@[simp] theorem fd_58_0 : fldOf Tryz.prog 58 0 = some (0, 1, false) := by kernel_rfl
@[simp] theorem fd_58_1 : fldOf Tryz.prog 58 1 = some (1, 1, false) := by kernel_rfl
@[simp] theorem fd_58_2 : fldOf Tryz.prog 58 2 = some (2, 1, false) := by kernel_rfl
@[simp] theorem bd_58 : bldOf Tryz.prog 58 = some ([(0, 1), (1, 1), (2, 1)], [.int .i64 0, .int .i64 0, .str ⟨#[]⟩]) := by kernel_rfl
@[simp] theorem eqt_58 {a0 b0 : Int} {a1 b1 : Int} {a2 b2 : ByteArray} : EqT Tryz.prog 58 [.int .i64 a0, .int .i64 a1, .str a2] [.int .i64 b0, .int .i64 b1, .str b2] = True := eq_true (EqT.flat [.int, .int, .str] (by kernel_rfl) rfl rfl (by simp [kindsFit]))
@[simp] theorem by_58 : byOf Tryz.prog 58 = some 32 := by kernel_rfl
@[simp] theorem sz_59 : szOf Tryz.prog 59 = some 1 := by kernel_rfl
@[simp] theorem ag_59 : aggOf Tryz.prog 59 = some false := by kernel_rfl
@[simp] theorem zo_59 : zOf Tryz.prog 59 = some (.sl .exact []) := by kernel_rfl
@[simp] theorem sl_59 : slOf Tryz.prog 59 = some (58, 3) := by kernel_rfl
@[simp] theorem li_59 : litOf Tryz.prog 59 = some (true, 3, [.int .i64 0, .int .i64 0, .str ⟨#[]⟩]) := by kernel_rfl
@[simp] theorem un_59 : Tryz.prog.underlying 59 = some (.slice 58) := by kernel_rfl
@[simp] theorem by_59 : byOf Tryz.prog 59 = some 24 := by kernel_rfl
@[simp] theorem sz_60 : szOf Tryz.prog 60 = some 1 := by kernel_rfl
@[simp] theorem ag_60 : aggOf Tryz.prog 60 = some false := by kernel_rfl
@[simp] theorem zo_60 : zOf Tryz.prog 60 = some (.nilf) := by kernel_rfl
@[simp] theorem by_60 : byOf Tryz.prog 60 = some 8 := by kernel_rfl
@[simp] theorem sz_61 : szOf Tryz.prog 61 = some 1 := by kernel_rfl
@[simp] theorem ag_61 : aggOf Tryz.prog 61 = some false := by kernel_rfl
@[simp] theorem zo_61 : zOf Tryz.prog 61 = some (.nilf) := by kernel_rfl
@[simp] theorem by_61 : byOf Tryz.prog 61 = some 8 := by kernel_rfl
@[simp] theorem sz_62 : szOf Tryz.prog 62 = some 1 := by kernel_rfl
@[simp] theorem ag_62 : aggOf Tryz.prog 62 = some false := by kernel_rfl
@[simp] theorem zo_62 : zOf Tryz.prog 62 = some (.nilf) := by kernel_rfl
@[simp] theorem by_62 : byOf Tryz.prog 62 = some 8 := by kernel_rfl
@[simp] theorem sz_63 : szOf Tryz.prog 63 = some 1 := by kernel_rfl
@[simp] theorem ag_63 : aggOf Tryz.prog 63 = some false := by kernel_rfl
@[simp] theorem zo_63 : zOf Tryz.prog 63 = some (.nilf) := by kernel_rfl
@[simp] theorem by_63 : byOf Tryz.prog 63 = some 8 := by kernel_rfl
@[simp] theorem sz_64 : szOf Tryz.prog 64 = some 1 := by kernel_rfl
@[simp] theorem ag_64 : aggOf Tryz.prog 64 = some false := by kernel_rfl
@[simp] theorem zo_64 : zOf Tryz.prog 64 = some (.nilf) := by kernel_rfl
@[simp] theorem by_64 : byOf Tryz.prog 64 = some 8 := by kernel_rfl
@[simp] theorem sz_65 : szOf Tryz.prog 65 = some 1 := by kernel_rfl
@[simp] theorem ag_65 : aggOf Tryz.prog 65 = some false := by kernel_rfl
@[simp] theorem zo_65 : zOf Tryz.prog 65 = some (.nilf) := by kernel_rfl
@[simp] theorem by_65 : byOf Tryz.prog 65 = some 8 := by kernel_rfl
@[simp] theorem sz_66 : szOf Tryz.prog 66 = some 1 := by kernel_rfl
@[simp] theorem ag_66 : aggOf Tryz.prog 66 = some false := by kernel_rfl
@[simp] theorem zo_66 : zOf Tryz.prog 66 = some (.nilf) := by kernel_rfl
@[simp] theorem by_66 : byOf Tryz.prog 66 = some 8 := by kernel_rfl
@[simp] theorem sz_67 : szOf Tryz.prog 67 = some 1 := by kernel_rfl
@[simp] theorem ag_67 : aggOf Tryz.prog 67 = some false := by kernel_rfl
@[simp] theorem zo_67 : zOf Tryz.prog 67 = some (.nilm) := by kernel_rfl
@[simp] theorem un_67 : Tryz.prog.underlying 67 = some (.map 9 22) := by kernel_rfl
@[simp] theorem mp_67 : mapOf Tryz.prog 67 = some (9, .sl .exact []) := by kernel_rfl
@[simp] theorem by_67 : byOf Tryz.prog 67 = some 8 := by kernel_rfl
@[simp] theorem sz_68 : szOf Tryz.prog 68 = some 4 := by kernel_rfl
@[simp] theorem ag_68 : aggOf Tryz.prog 68 = some true := by kernel_rfl
@[simp] theorem zo_68 : zOf Tryz.prog 68 = some (.agg [.sl .exact [], .sl .exact [], .sl .exact [], .nilm]) := by kernel_rfl
@[simp] theorem ft_68 : ftOf Tryz.prog 68 = some (4, [(25, 0, 2), (22, 2, 1), (67, 3, 1)]) := by kernel_rfl
@[simp] theorem fd_68_0 : fldOf Tryz.prog 68 0 = some (0, 2, true) := by kernel_rfl
@[simp] theorem fd_68_1 : fldOf Tryz.prog 68 1 = some (2, 1, false) := by kernel_rfl
@[simp] theorem fd_68_2 : fldOf Tryz.prog 68 2 = some (3, 1, false) := by kernel_rfl
@[simp] theorem bd_68 : bldOf Tryz.prog 68 = some ([(0, 2), (2, 1), (3, 1)], [.sl .exact [], .sl .exact [], .sl .exact [], .nilm]) := by kernel_rfl
@[simp] theorem by_68 : byOf Tryz.prog 68 = some 80 := by kernel_rfl
@[simp] theorem sz_69 : szOf Tryz.prog 69 = some 4 := by kernel_rfl
@[simp] theorem ag_69 : aggOf Tryz.prog 69 = some true := by kernel_rfl
@[simp] theorem zo_69 : zOf Tryz.prog 69 = some (.agg [.sl .exact [], .sl .exact [], .sl .exact [], .nilm]) := by kernel_rfl
@[simp] theorem ft_69 : ftOf Tryz.prog 69 = some (4, [(25, 0, 2), (22, 2, 1), (67, 3, 1)]) := by kernel_rfl
@[simp] theorem fd_69_0 : fldOf Tryz.prog 69 0 = some (0, 2, true) := by kernel_rfl
@[simp] theorem fd_69_1 : fldOf Tryz.prog 69 1 = some (2, 1, false) := by kernel_rfl
@[simp] theorem fd_69_2 : fldOf Tryz.prog 69 2 = some (3, 1, false) := by kernel_rfl
@[simp] theorem bd_69 : bldOf Tryz.prog 69 = some ([(0, 2), (2, 1), (3, 1)], [.sl .exact [], .sl .exact [], .sl .exact [], .nilm]) := by kernel_rfl
@[simp] theorem by_69 : byOf Tryz.prog 69 = some 80 := by kernel_rfl
@[simp] theorem sz_70 : szOf Tryz.prog 70 = some 1 := by kernel_rfl
@[simp] theorem ag_70 : aggOf Tryz.prog 70 = some false := by kernel_rfl
@[simp] theorem zo_70 : zOf Tryz.prog 70 = some (.nilf) := by kernel_rfl
@[simp] theorem by_70 : byOf Tryz.prog 70 = some 8 := by kernel_rfl
@[simp] theorem sz_71 : szOf Tryz.prog 71 = some 1 := by kernel_rfl
@[simp] theorem ag_71 : aggOf Tryz.prog 71 = some false := by kernel_rfl
@[simp] theorem zo_71 : zOf Tryz.prog 71 = some (.nilf) := by kernel_rfl
@[simp] theorem by_71 : byOf Tryz.prog 71 = some 8 := by kernel_rfl
@[simp] theorem sz_72 : szOf Tryz.prog 72 = some 1 := by kernel_rfl
@[simp] theorem ag_72 : aggOf Tryz.prog 72 = some false := by kernel_rfl
@[simp] theorem zo_72 : zOf Tryz.prog 72 = some (.nilf) := by kernel_rfl
@[simp] theorem by_72 : byOf Tryz.prog 72 = some 8 := by kernel_rfl
@[simp] theorem sz_73 : szOf Tryz.prog 73 = some 1 := by kernel_rfl
@[simp] theorem ag_73 : aggOf Tryz.prog 73 = some false := by kernel_rfl
@[simp] theorem zo_73 : zOf Tryz.prog 73 = some (.nilf) := by kernel_rfl
@[simp] theorem by_73 : byOf Tryz.prog 73 = some 8 := by kernel_rfl
@[simp] theorem sz_74 : szOf Tryz.prog 74 = some 1 := by kernel_rfl
@[simp] theorem ag_74 : aggOf Tryz.prog 74 = some false := by kernel_rfl
@[simp] theorem zo_74 : zOf Tryz.prog 74 = some (.nilf) := by kernel_rfl
@[simp] theorem by_74 : byOf Tryz.prog 74 = some 8 := by kernel_rfl
@[simp] theorem sz_75 : szOf Tryz.prog 75 = some 1 := by kernel_rfl
@[simp] theorem ag_75 : aggOf Tryz.prog 75 = some false := by kernel_rfl
@[simp] theorem zo_75 : zOf Tryz.prog 75 = some (.nilf) := by kernel_rfl
@[simp] theorem by_75 : byOf Tryz.prog 75 = some 8 := by kernel_rfl
@[simp] theorem sz_76 : szOf Tryz.prog 76 = some 1 := by kernel_rfl
@[simp] theorem ag_76 : aggOf Tryz.prog 76 = some false := by kernel_rfl
@[simp] theorem zo_76 : zOf Tryz.prog 76 = some (.nilf) := by kernel_rfl
@[simp] theorem by_76 : byOf Tryz.prog 76 = some 8 := by kernel_rfl
@[simp] theorem sz_77 : szOf Tryz.prog 77 = some 1 := by kernel_rfl
@[simp] theorem ag_77 : aggOf Tryz.prog 77 = some false := by kernel_rfl
@[simp] theorem zo_77 : zOf Tryz.prog 77 = some (.nilf) := by kernel_rfl
@[simp] theorem by_77 : byOf Tryz.prog 77 = some 8 := by kernel_rfl
@[simp] theorem sz_78 : szOf Tryz.prog 78 = some 1 := by kernel_rfl
@[simp] theorem ag_78 : aggOf Tryz.prog 78 = some false := by kernel_rfl
@[simp] theorem zo_78 : zOf Tryz.prog 78 = some (.nilf) := by kernel_rfl
@[simp] theorem by_78 : byOf Tryz.prog 78 = some 8 := by kernel_rfl
@[simp] theorem sz_79 : szOf Tryz.prog 79 = some 2 := by kernel_rfl
@[simp] theorem ag_79 : aggOf Tryz.prog 79 = some true := by kernel_rfl
@[simp] theorem zo_79 : zOf Tryz.prog 79 = some (.agg [.int .i64 0, .int .i64 0]) := by kernel_rfl
@[simp] theorem ft_79 : ftOf Tryz.prog 79 = some (2, [(3, 0, 1), (3, 1, 1)]) := by kernel_rfl
@[simp] theorem fd_79_0 : fldOf Tryz.prog 79 0 = some (0, 1, false) := by kernel_rfl
@[simp] theorem fd_79_1 : fldOf Tryz.prog 79 1 = some (1, 1, false) := by kernel_rfl
@[simp] theorem bd_79 : bldOf Tryz.prog 79 = some ([(0, 1), (1, 1)], [.int .i64 0, .int .i64 0]) := by kernel_rfl
@[simp] theorem by_79 : byOf Tryz.prog 79 = some 16 := by kernel_rfl
@[simp] theorem sz_80 : szOf Tryz.prog 80 = some 2 := by kernel_rfl
@[simp] theorem ag_80 : aggOf Tryz.prog 80 = some true := by kernel_rfl
@[simp] theorem zo_80 : zOf Tryz.prog 80 = some (.agg [.int .i64 0, .int .i64 0]) := by kernel_rfl
@[simp] theorem ft_80 : ftOf Tryz.prog 80 = some (2, [(3, 0, 1), (3, 1, 1)]) := by kernel_rfl
@[simp] theorem fd_80_0 : fldOf Tryz.prog 80 0 = some (0, 1, false) := by kernel_rfl
@[simp] theorem fd_80_1 : fldOf Tryz.prog 80 1 = some (1, 1, false) := by kernel_rfl
@[simp] theorem bd_80 : bldOf Tryz.prog 80 = some ([(0, 1), (1, 1)], [.int .i64 0, .int .i64 0]) := by kernel_rfl
@[simp] theorem eqt_80 {a0 b0 : Int} {a1 b1 : Int} : EqT Tryz.prog 80 [.int .i64 a0, .int .i64 a1] [.int .i64 b0, .int .i64 b1] = True := eq_true (EqT.flat [.int, .int] (by kernel_rfl) rfl rfl (by simp [kindsFit]))
@[simp] theorem by_80 : byOf Tryz.prog 80 = some 16 := by kernel_rfl
@[simp] theorem sz_81 : szOf Tryz.prog 81 = some 1 := by kernel_rfl
@[simp] theorem ag_81 : aggOf Tryz.prog 81 = some false := by kernel_rfl
@[simp] theorem zo_81 : zOf Tryz.prog 81 = some (.nilf) := by kernel_rfl
@[simp] theorem by_81 : byOf Tryz.prog 81 = some 8 := by kernel_rfl
@[simp] theorem sz_82 : szOf Tryz.prog 82 = some 1 := by kernel_rfl
@[simp] theorem ag_82 : aggOf Tryz.prog 82 = some false := by kernel_rfl
@[simp] theorem zo_82 : zOf Tryz.prog 82 = some (.nilf) := by kernel_rfl
@[simp] theorem by_82 : byOf Tryz.prog 82 = some 8 := by kernel_rfl
@[simp] theorem sz_83 : szOf Tryz.prog 83 = some 1 := by kernel_rfl
@[simp] theorem ag_83 : aggOf Tryz.prog 83 = some false := by kernel_rfl
@[simp] theorem zo_83 : zOf Tryz.prog 83 = some (.nilf) := by kernel_rfl
@[simp] theorem by_83 : byOf Tryz.prog 83 = some 8 := by kernel_rfl
@[simp] theorem sz_84 : szOf Tryz.prog 84 = some 1 := by kernel_rfl
@[simp] theorem ag_84 : aggOf Tryz.prog 84 = some false := by kernel_rfl
@[simp] theorem zo_84 : zOf Tryz.prog 84 = some (.nilf) := by kernel_rfl
@[simp] theorem by_84 : byOf Tryz.prog 84 = some 8 := by kernel_rfl
@[simp] theorem sz_85 : szOf Tryz.prog 85 = some 1 := by kernel_rfl
@[simp] theorem ag_85 : aggOf Tryz.prog 85 = some false := by kernel_rfl
@[simp] theorem zo_85 : zOf Tryz.prog 85 = some (.nilf) := by kernel_rfl
@[simp] theorem by_85 : byOf Tryz.prog 85 = some 8 := by kernel_rfl
@[simp] theorem sz_86 : szOf Tryz.prog 86 = some 1 := by kernel_rfl
@[simp] theorem ag_86 : aggOf Tryz.prog 86 = some false := by kernel_rfl
@[simp] theorem zo_86 : zOf Tryz.prog 86 = some (.nilf) := by kernel_rfl
@[simp] theorem by_86 : byOf Tryz.prog 86 = some 8 := by kernel_rfl
@[simp] theorem sz_87 : szOf Tryz.prog 87 = some 1 := by kernel_rfl
@[simp] theorem ag_87 : aggOf Tryz.prog 87 = some false := by kernel_rfl
@[simp] theorem zo_87 : zOf Tryz.prog 87 = some (.nilf) := by kernel_rfl
@[simp] theorem by_87 : byOf Tryz.prog 87 = some 8 := by kernel_rfl
@[simp] theorem sz_88 : szOf Tryz.prog 88 = some 1 := by kernel_rfl
@[simp] theorem ag_88 : aggOf Tryz.prog 88 = some false := by kernel_rfl
@[simp] theorem zo_88 : zOf Tryz.prog 88 = some (.sl .exact []) := by kernel_rfl
@[simp] theorem sl_88 : slOf Tryz.prog 88 = some (91, 2) := by kernel_rfl
@[simp] theorem li_88 : litOf Tryz.prog 88 = some (true, 2, [.int .i64 0, .int .i64 0]) := by kernel_rfl
@[simp] theorem un_88 : Tryz.prog.underlying 88 = some (.slice 91) := by kernel_rfl
@[simp] theorem by_88 : byOf Tryz.prog 88 = some 24 := by kernel_rfl
@[simp] theorem sz_89 : szOf Tryz.prog 89 = some 1 := by kernel_rfl
@[simp] theorem ag_89 : aggOf Tryz.prog 89 = some false := by kernel_rfl
@[simp] theorem zo_89 : zOf Tryz.prog 89 = some (.nilf) := by kernel_rfl
@[simp] theorem by_89 : byOf Tryz.prog 89 = some 8 := by kernel_rfl
@[simp] theorem sz_90 : szOf Tryz.prog 90 = some 2 := by kernel_rfl
@[simp] theorem ag_90 : aggOf Tryz.prog 90 = some true := by kernel_rfl
@[simp] theorem zo_90 : zOf Tryz.prog 90 = some (.agg [.int .i64 0, .int .i64 0]) := by kernel_rfl
@[simp] theorem ft_90 : ftOf Tryz.prog 90 = some (2, [(3, 0, 1), (3, 1, 1)]) := by kernel_rfl
@[simp] theorem fd_90_0 : fldOf Tryz.prog 90 0 = some (0, 1, false) := by kernel_rfl
@[simp] theorem fd_90_1 : fldOf Tryz.prog 90 1 = some (1, 1, false) := by kernel_rfl
@[simp] theorem bd_90 : bldOf Tryz.prog 90 = some ([(0, 1), (1, 1)], [.int .i64 0, .int .i64 0]) := by kernel_rfl
@[simp] theorem by_90 : byOf Tryz.prog 90 = some 16 := by kernel_rfl
@[simp] theorem sz_91 : szOf Tryz.prog 91 = some 2 := by kernel_rfl
@[simp] theorem ag_91 : aggOf Tryz.prog 91 = some true := by kernel_rfl
@[simp] theorem zo_91 : zOf Tryz.prog 91 = some (.agg [.int .i64 0, .int .i64 0]) := by kernel_rfl
@[simp] theorem ft_91 : ftOf Tryz.prog 91 = some (2, [(3, 0, 1), (3, 1, 1)]) := by kernel_rfl
@[simp] theorem fd_91_0 : fldOf Tryz.prog 91 0 = some (0, 1, false) := by kernel_rfl
@[simp] theorem fd_91_1 : fldOf Tryz.prog 91 1 = some (1, 1, false) := by kernel_rfl
@[simp] theorem bd_91 : bldOf Tryz.prog 91 = some ([(0, 1), (1, 1)], [.int .i64 0, .int .i64 0]) := by kernel_rfl
@[simp] theorem eqt_91 {a0 b0 : Int} {a1 b1 : Int} : EqT Tryz.prog 91 [.int .i64 a0, .int .i64 a1] [.int .i64 b0, .int .i64 b1] = True := eq_true (EqT.flat [.int, .int] (by kernel_rfl) rfl rfl (by simp [kindsFit]))
@[simp] theorem by_91 : byOf Tryz.prog 91 = some 16 := by kernel_rfl
@[simp] theorem sz_92 : szOf Tryz.prog 92 = some 1 := by kernel_rfl
@[simp] theorem ag_92 : aggOf Tryz.prog 92 = some false := by kernel_rfl
@[simp] theorem zo_92 : zOf Tryz.prog 92 = some (.nilf) := by kernel_rfl
@[simp] theorem by_92 : byOf Tryz.prog 92 = some 8 := by kernel_rfl
@[simp] theorem sz_93 : szOf Tryz.prog 93 = some 1 := by kernel_rfl
@[simp] theorem ag_93 : aggOf Tryz.prog 93 = some false := by kernel_rfl
@[simp] theorem zo_93 : zOf Tryz.prog 93 = some (.nilf) := by kernel_rfl
@[simp] theorem by_93 : byOf Tryz.prog 93 = some 8 := by kernel_rfl
@[simp] theorem sz_94 : szOf Tryz.prog 94 = some 1 := by kernel_rfl
@[simp] theorem ag_94 : aggOf Tryz.prog 94 = some false := by kernel_rfl
@[simp] theorem zo_94 : zOf Tryz.prog 94 = some (.nilf) := by kernel_rfl
@[simp] theorem by_94 : byOf Tryz.prog 94 = some 8 := by kernel_rfl
@[simp] theorem sz_95 : szOf Tryz.prog 95 = some 1 := by kernel_rfl
@[simp] theorem ag_95 : aggOf Tryz.prog 95 = some false := by kernel_rfl
@[simp] theorem zo_95 : zOf Tryz.prog 95 = some (.nilf) := by kernel_rfl
@[simp] theorem by_95 : byOf Tryz.prog 95 = some 8 := by kernel_rfl
@[simp] theorem sz_96 : szOf Tryz.prog 96 = some 1 := by kernel_rfl
@[simp] theorem ag_96 : aggOf Tryz.prog 96 = some false := by kernel_rfl
@[simp] theorem zo_96 : zOf Tryz.prog 96 = some (.nilf) := by kernel_rfl
@[simp] theorem by_96 : byOf Tryz.prog 96 = some 8 := by kernel_rfl
@[simp] theorem sz_97 : szOf Tryz.prog 97 = some 1 := by kernel_rfl
@[simp] theorem ag_97 : aggOf Tryz.prog 97 = some false := by kernel_rfl
@[simp] theorem zo_97 : zOf Tryz.prog 97 = some (.nilf) := by kernel_rfl
@[simp] theorem by_97 : byOf Tryz.prog 97 = some 8 := by kernel_rfl
@[simp] theorem sz_98 : szOf Tryz.prog 98 = some 1 := by kernel_rfl
@[simp] theorem ag_98 : aggOf Tryz.prog 98 = some false := by kernel_rfl
@[simp] theorem zo_98 : zOf Tryz.prog 98 = some (.nilf) := by kernel_rfl
@[simp] theorem by_98 : byOf Tryz.prog 98 = some 8 := by kernel_rfl
@[simp] theorem sz_99 : szOf Tryz.prog 99 = some 1 := by kernel_rfl
@[simp] theorem ag_99 : aggOf Tryz.prog 99 = some false := by kernel_rfl
@[simp] theorem zo_99 : zOf Tryz.prog 99 = some (.nilf) := by kernel_rfl
@[simp] theorem by_99 : byOf Tryz.prog 99 = some 8 := by kernel_rfl
@[simp] theorem sz_100 : szOf Tryz.prog 100 = some 1 := by kernel_rfl
@[simp] theorem ag_100 : aggOf Tryz.prog 100 = some false := by kernel_rfl
@[simp] theorem zo_100 : zOf Tryz.prog 100 = some (.nilf) := by kernel_rfl
@[simp] theorem by_100 : byOf Tryz.prog 100 = some 8 := by kernel_rfl
@[simp] theorem sz_101 : szOf Tryz.prog 101 = some 1 := by kernel_rfl
@[simp] theorem ag_101 : aggOf Tryz.prog 101 = some false := by kernel_rfl
@[simp] theorem zo_101 : zOf Tryz.prog 101 = some (.nilf) := by kernel_rfl
@[simp] theorem by_101 : byOf Tryz.prog 101 = some 8 := by kernel_rfl
@[simp] theorem sz_102 : szOf Tryz.prog 102 = some 1 := by kernel_rfl
@[simp] theorem ag_102 : aggOf Tryz.prog 102 = some false := by kernel_rfl
@[simp] theorem zo_102 : zOf Tryz.prog 102 = some (.nilf) := by kernel_rfl
@[simp] theorem by_102 : byOf Tryz.prog 102 = some 8 := by kernel_rfl
@[simp] theorem sz_103 : szOf Tryz.prog 103 = some 1 := by kernel_rfl
@[simp] theorem ag_103 : aggOf Tryz.prog 103 = some false := by kernel_rfl
@[simp] theorem zo_103 : zOf Tryz.prog 103 = some (.int .u64 0) := by kernel_rfl
@[simp] theorem un_103 : Tryz.prog.underlying 103 = some (.int .u64) := by kernel_rfl
@[simp] theorem by_103 : byOf Tryz.prog 103 = some 8 := by kernel_rfl
@[simp] theorem sz_105 : szOf Tryz.prog 105 = some 1 := by kernel_rfl
@[simp] theorem ag_105 : aggOf Tryz.prog 105 = some false := by kernel_rfl
@[simp] theorem zo_105 : zOf Tryz.prog 105 = some (.nilf) := by kernel_rfl
@[simp] theorem by_105 : byOf Tryz.prog 105 = some 8 := by kernel_rfl
@[simp] theorem sz_106 : szOf Tryz.prog 106 = some 1 := by kernel_rfl
@[simp] theorem ag_106 : aggOf Tryz.prog 106 = some false := by kernel_rfl
@[simp] theorem zo_106 : zOf Tryz.prog 106 = some (.sl .exact []) := by kernel_rfl
@[simp] theorem sl_106 : slOf Tryz.prog 106 = some (4, 1) := by kernel_rfl
@[simp] theorem li_106 : litOf Tryz.prog 106 = some (false, 1, [.bool false]) := by kernel_rfl
@[simp] theorem un_106 : Tryz.prog.underlying 106 = some (.slice 4) := by kernel_rfl
@[simp] theorem by_106 : byOf Tryz.prog 106 = some 24 := by kernel_rfl
@[simp] theorem sz_108 : szOf Tryz.prog 108 = some 1 := by kernel_rfl
@[simp] theorem ag_108 : aggOf Tryz.prog 108 = some false := by kernel_rfl
@[simp] theorem zo_108 : zOf Tryz.prog 108 = some (.nilf) := by kernel_rfl
@[simp] theorem by_108 : byOf Tryz.prog 108 = some 8 := by kernel_rfl
@[simp] theorem sz_109 : szOf Tryz.prog 109 = some 1 := by kernel_rfl
@[simp] theorem ag_109 : aggOf Tryz.prog 109 = some false := by kernel_rfl
@[simp] theorem zo_109 : zOf Tryz.prog 109 = some (.nilf) := by kernel_rfl
@[simp] theorem by_109 : byOf Tryz.prog 109 = some 8 := by kernel_rfl
@[simp] theorem sz_110 : szOf Tryz.prog 110 = some 1 := by kernel_rfl
@[simp] theorem ag_110 : aggOf Tryz.prog 110 = some false := by kernel_rfl
@[simp] theorem zo_110 : zOf Tryz.prog 110 = some (.nilf) := by kernel_rfl
@[simp] theorem by_110 : byOf Tryz.prog 110 = some 8 := by kernel_rfl
@[simp] theorem sz_111 : szOf Tryz.prog 111 = some 1 := by kernel_rfl
@[simp] theorem ag_111 : aggOf Tryz.prog 111 = some false := by kernel_rfl
@[simp] theorem zo_111 : zOf Tryz.prog 111 = some (.nilf) := by kernel_rfl
@[simp] theorem by_111 : byOf Tryz.prog 111 = some 8 := by kernel_rfl
@[simp] theorem sz_112 : szOf Tryz.prog 112 = some 1 := by kernel_rfl
@[simp] theorem ag_112 : aggOf Tryz.prog 112 = some false := by kernel_rfl
@[simp] theorem zo_112 : zOf Tryz.prog 112 = some (.nilm) := by kernel_rfl
@[simp] theorem un_112 : Tryz.prog.underlying 112 = some (.map 3 3) := by kernel_rfl
@[simp] theorem mp_112 : mapOf Tryz.prog 112 = some (3, .int .i64 0) := by kernel_rfl
@[simp] theorem by_112 : byOf Tryz.prog 112 = some 8 := by kernel_rfl
@[simp] theorem sz_113 : szOf Tryz.prog 113 = some 1 := by kernel_rfl
@[simp] theorem ag_113 : aggOf Tryz.prog 113 = some false := by kernel_rfl
@[simp] theorem zo_113 : zOf Tryz.prog 113 = some (.nilf) := by kernel_rfl
@[simp] theorem by_113 : byOf Tryz.prog 113 = some 8 := by kernel_rfl
@[simp] theorem sz_114 : szOf Tryz.prog 114 = some 1 := by kernel_rfl
@[simp] theorem ag_114 : aggOf Tryz.prog 114 = some false := by kernel_rfl
@[simp] theorem zo_114 : zOf Tryz.prog 114 = some (.nilf) := by kernel_rfl
@[simp] theorem by_114 : byOf Tryz.prog 114 = some 8 := by kernel_rfl
@[simp] theorem sz_115 : szOf Tryz.prog 115 = some 1 := by kernel_rfl
@[simp] theorem ag_115 : aggOf Tryz.prog 115 = some false := by kernel_rfl
@[simp] theorem zo_115 : zOf Tryz.prog 115 = some (.nilf) := by kernel_rfl
@[simp] theorem by_115 : byOf Tryz.prog 115 = some 8 := by kernel_rfl
@[simp] theorem sz_116 : szOf Tryz.prog 116 = some 1 := by kernel_rfl
@[simp] theorem ag_116 : aggOf Tryz.prog 116 = some false := by kernel_rfl
@[simp] theorem zo_116 : zOf Tryz.prog 116 = some (.nilf) := by kernel_rfl
@[simp] theorem by_116 : byOf Tryz.prog 116 = some 8 := by kernel_rfl
@[simp] theorem sz_117 : szOf Tryz.prog 117 = some 1 := by kernel_rfl
@[simp] theorem ag_117 : aggOf Tryz.prog 117 = some false := by kernel_rfl
@[simp] theorem zo_117 : zOf Tryz.prog 117 = some (.nilf) := by kernel_rfl
@[simp] theorem by_117 : byOf Tryz.prog 117 = some 8 := by kernel_rfl
@[simp] theorem sz_118 : szOf Tryz.prog 118 = some 1 := by kernel_rfl
@[simp] theorem ag_118 : aggOf Tryz.prog 118 = some false := by kernel_rfl
@[simp] theorem zo_118 : zOf Tryz.prog 118 = some (.nilf) := by kernel_rfl
@[simp] theorem by_118 : byOf Tryz.prog 118 = some 8 := by kernel_rfl
@[simp] theorem sz_119 : szOf Tryz.prog 119 = some 1 := by kernel_rfl
@[simp] theorem ag_119 : aggOf Tryz.prog 119 = some false := by kernel_rfl
@[simp] theorem zo_119 : zOf Tryz.prog 119 = some (.nilf) := by kernel_rfl
@[simp] theorem by_119 : byOf Tryz.prog 119 = some 8 := by kernel_rfl
@[simp] theorem sz_120 : szOf Tryz.prog 120 = some 1 := by kernel_rfl
@[simp] theorem ag_120 : aggOf Tryz.prog 120 = some false := by kernel_rfl
@[simp] theorem zo_120 : zOf Tryz.prog 120 = some (.int .u32 0) := by kernel_rfl
@[simp] theorem un_120 : Tryz.prog.underlying 120 = some (.int .u32) := by kernel_rfl
@[simp] theorem by_120 : byOf Tryz.prog 120 = some 4 := by kernel_rfl
@[simp] theorem sz_122 : szOf Tryz.prog 122 = some 1 := by kernel_rfl
@[simp] theorem ag_122 : aggOf Tryz.prog 122 = some false := by kernel_rfl
@[simp] theorem zo_122 : zOf Tryz.prog 122 = some (.nilf) := by kernel_rfl
@[simp] theorem by_122 : byOf Tryz.prog 122 = some 8 := by kernel_rfl
@[simp] theorem sz_123 : szOf Tryz.prog 123 = some 1 := by kernel_rfl
@[simp] theorem ag_123 : aggOf Tryz.prog 123 = some false := by kernel_rfl
@[simp] theorem zo_123 : zOf Tryz.prog 123 = some (.int .u64 0) := by kernel_rfl
@[simp] theorem un_123 : Tryz.prog.underlying 123 = some (.int .u64) := by kernel_rfl
@[simp] theorem by_123 : byOf Tryz.prog 123 = some 8 := by kernel_rfl
@[simp] theorem sz_125 : szOf Tryz.prog 125 = some 1 := by kernel_rfl
@[simp] theorem ag_125 : aggOf Tryz.prog 125 = some false := by kernel_rfl
@[simp] theorem zo_125 : zOf Tryz.prog 125 = some (.nilf) := by kernel_rfl
@[simp] theorem by_125 : byOf Tryz.prog 125 = some 8 := by kernel_rfl
@[simp] theorem sz_126 : szOf Tryz.prog 126 = some 1 := by kernel_rfl
@[simp] theorem ag_126 : aggOf Tryz.prog 126 = some false := by kernel_rfl
@[simp] theorem zo_126 : zOf Tryz.prog 126 = some (.nilf) := by kernel_rfl
@[simp] theorem by_126 : byOf Tryz.prog 126 = some 8 := by kernel_rfl
@[simp] theorem sz_128 : szOf Tryz.prog 128 = some 1 := by kernel_rfl
@[simp] theorem ag_128 : aggOf Tryz.prog 128 = some false := by kernel_rfl
@[simp] theorem zo_128 : zOf Tryz.prog 128 = some (.nilf) := by kernel_rfl
@[simp] theorem by_128 : byOf Tryz.prog 128 = some 8 := by kernel_rfl
@[simp] theorem sz_129 : szOf Tryz.prog 129 = some 1 := by kernel_rfl
@[simp] theorem ag_129 : aggOf Tryz.prog 129 = some false := by kernel_rfl
@[simp] theorem zo_129 : zOf Tryz.prog 129 = some (.nilf) := by kernel_rfl
@[simp] theorem by_129 : byOf Tryz.prog 129 = some 8 := by kernel_rfl
@[simp] theorem sz_130 : szOf Tryz.prog 130 = some 1 := by kernel_rfl
@[simp] theorem ag_130 : aggOf Tryz.prog 130 = some false := by kernel_rfl
@[simp] theorem zo_130 : zOf Tryz.prog 130 = some (.nilf) := by kernel_rfl
@[simp] theorem by_130 : byOf Tryz.prog 130 = some 8 := by kernel_rfl
@[simp] theorem sz_131 : szOf Tryz.prog 131 = some 1 := by kernel_rfl
@[simp] theorem ag_131 : aggOf Tryz.prog 131 = some false := by kernel_rfl
@[simp] theorem zo_131 : zOf Tryz.prog 131 = some (.nilf) := by kernel_rfl
@[simp] theorem by_131 : byOf Tryz.prog 131 = some 8 := by kernel_rfl
@[simp] theorem sz_132 : szOf Tryz.prog 132 = some 1 := by kernel_rfl
@[simp] theorem ag_132 : aggOf Tryz.prog 132 = some false := by kernel_rfl
@[simp] theorem zo_132 : zOf Tryz.prog 132 = some (.sl .exact []) := by kernel_rfl
@[simp] theorem sl_132 : slOf Tryz.prog 132 = some (5, 1) := by kernel_rfl
@[simp] theorem li_132 : litOf Tryz.prog 132 = some (false, 1, [.int .u8 0]) := by kernel_rfl
@[simp] theorem un_132 : Tryz.prog.underlying 132 = some (.slice 5) := by kernel_rfl
@[simp] theorem by_132 : byOf Tryz.prog 132 = some 24 := by kernel_rfl
@[simp] theorem sz_133 : szOf Tryz.prog 133 = some 1 := by kernel_rfl
@[simp] theorem ag_133 : aggOf Tryz.prog 133 = some false := by kernel_rfl
@[simp] theorem zo_133 : zOf Tryz.prog 133 = some (.nilf) := by kernel_rfl
@[simp] theorem by_133 : byOf Tryz.prog 133 = some 8 := by kernel_rfl
@[simp] theorem sz_134 : szOf Tryz.prog 134 = some 1 := by kernel_rfl
@[simp] theorem ag_134 : aggOf Tryz.prog 134 = some false := by kernel_rfl
@[simp] theorem zo_134 : zOf Tryz.prog 134 = some (.nilf) := by kernel_rfl
@[simp] theorem by_134 : byOf Tryz.prog 134 = some 8 := by kernel_rfl
@[simp] theorem sz_135 : szOf Tryz.prog 135 = some 1 := by kernel_rfl
@[simp] theorem ag_135 : aggOf Tryz.prog 135 = some false := by kernel_rfl
@[simp] theorem zo_135 : zOf Tryz.prog 135 = some (.nilf) := by kernel_rfl
@[simp] theorem by_135 : byOf Tryz.prog 135 = some 8 := by kernel_rfl
@[simp] theorem sz_136 : szOf Tryz.prog 136 = some 1 := by kernel_rfl
@[simp] theorem ag_136 : aggOf Tryz.prog 136 = some false := by kernel_rfl
@[simp] theorem zo_136 : zOf Tryz.prog 136 = some (.nilf) := by kernel_rfl
@[simp] theorem by_136 : byOf Tryz.prog 136 = some 8 := by kernel_rfl
@[simp] theorem sz_137 : szOf Tryz.prog 137 = some 1 := by kernel_rfl
@[simp] theorem ag_137 : aggOf Tryz.prog 137 = some false := by kernel_rfl
@[simp] theorem zo_137 : zOf Tryz.prog 137 = some (.nilf) := by kernel_rfl
@[simp] theorem by_137 : byOf Tryz.prog 137 = some 8 := by kernel_rfl
@[simp] theorem sz_138 : szOf Tryz.prog 138 = some 1 := by kernel_rfl
@[simp] theorem ag_138 : aggOf Tryz.prog 138 = some false := by kernel_rfl
@[simp] theorem zo_138 : zOf Tryz.prog 138 = some (.nilf) := by kernel_rfl
@[simp] theorem by_138 : byOf Tryz.prog 138 = some 8 := by kernel_rfl
@[simp] theorem sz_139 : szOf Tryz.prog 139 = some 1 := by kernel_rfl
@[simp] theorem ag_139 : aggOf Tryz.prog 139 = some false := by kernel_rfl
@[simp] theorem zo_139 : zOf Tryz.prog 139 = some (.int .i64 0) := by kernel_rfl
@[simp] theorem un_139 : Tryz.prog.underlying 139 = some (.int .i64) := by kernel_rfl
@[simp] theorem by_139 : byOf Tryz.prog 139 = some 8 := by kernel_rfl
@[simp] theorem sz_141 : szOf Tryz.prog 141 = some 1 := by kernel_rfl
@[simp] theorem ag_141 : aggOf Tryz.prog 141 = some false := by kernel_rfl
@[simp] theorem zo_141 : zOf Tryz.prog 141 = some (.nilf) := by kernel_rfl
@[simp] theorem by_141 : byOf Tryz.prog 141 = some 8 := by kernel_rfl
@[simp] theorem sz_142 : szOf Tryz.prog 142 = some 1 := by kernel_rfl
@[simp] theorem ag_142 : aggOf Tryz.prog 142 = some false := by kernel_rfl
@[simp] theorem zo_142 : zOf Tryz.prog 142 = some (.nilf) := by kernel_rfl
@[simp] theorem by_142 : byOf Tryz.prog 142 = some 8 := by kernel_rfl
@[simp] theorem sz_143 : szOf Tryz.prog 143 = some 1 := by kernel_rfl
@[simp] theorem ag_143 : aggOf Tryz.prog 143 = some false := by kernel_rfl
@[simp] theorem zo_143 : zOf Tryz.prog 143 = some (.nilf) := by kernel_rfl
@[simp] theorem by_143 : byOf Tryz.prog 143 = some 8 := by kernel_rfl
@[simp] theorem sz_144 : szOf Tryz.prog 144 = some 1 := by kernel_rfl
@[simp] theorem ag_144 : aggOf Tryz.prog 144 = some false := by kernel_rfl
@[simp] theorem zo_144 : zOf Tryz.prog 144 = some (.nilf) := by kernel_rfl
@[simp] theorem by_144 : byOf Tryz.prog 144 = some 8 := by kernel_rfl
@[simp] theorem sz_145 : szOf Tryz.prog 145 = some 1 := by kernel_rfl
@[simp] theorem ag_145 : aggOf Tryz.prog 145 = some false := by kernel_rfl
@[simp] theorem zo_145 : zOf Tryz.prog 145 = some (.nilf) := by kernel_rfl
@[simp] theorem by_145 : byOf Tryz.prog 145 = some 8 := by kernel_rfl
@[simp] theorem sz_146 : szOf Tryz.prog 146 = some 1 := by kernel_rfl
@[simp] theorem ag_146 : aggOf Tryz.prog 146 = some false := by kernel_rfl
@[simp] theorem zo_146 : zOf Tryz.prog 146 = some (.nilf) := by kernel_rfl
@[simp] theorem by_146 : byOf Tryz.prog 146 = some 8 := by kernel_rfl
@[simp] theorem sz_147 : szOf Tryz.prog 147 = some 1 := by kernel_rfl
@[simp] theorem ag_147 : aggOf Tryz.prog 147 = some false := by kernel_rfl
@[simp] theorem zo_147 : zOf Tryz.prog 147 = some (.nilf) := by kernel_rfl
@[simp] theorem by_147 : byOf Tryz.prog 147 = some 8 := by kernel_rfl
@[simp] theorem sz_148 : szOf Tryz.prog 148 = some 1 := by kernel_rfl
@[simp] theorem ag_148 : aggOf Tryz.prog 148 = some false := by kernel_rfl
@[simp] theorem zo_148 : zOf Tryz.prog 148 = some (.nilf) := by kernel_rfl
@[simp] theorem by_148 : byOf Tryz.prog 148 = some 8 := by kernel_rfl
@[simp] theorem sz_149 : szOf Tryz.prog 149 = some 1 := by kernel_rfl
@[simp] theorem ag_149 : aggOf Tryz.prog 149 = some false := by kernel_rfl
@[simp] theorem zo_149 : zOf Tryz.prog 149 = some (.nilf) := by kernel_rfl
@[simp] theorem by_149 : byOf Tryz.prog 149 = some 8 := by kernel_rfl
@[simp] theorem sz_150 : szOf Tryz.prog 150 = some 1 := by kernel_rfl
@[simp] theorem ag_150 : aggOf Tryz.prog 150 = some false := by kernel_rfl
@[simp] theorem zo_150 : zOf Tryz.prog 150 = some (.nilf) := by kernel_rfl
@[simp] theorem by_150 : byOf Tryz.prog 150 = some 8 := by kernel_rfl
@[simp] theorem sz_151 : szOf Tryz.prog 151 = some 1 := by kernel_rfl
@[simp] theorem ag_151 : aggOf Tryz.prog 151 = some false := by kernel_rfl
@[simp] theorem zo_151 : zOf Tryz.prog 151 = some (.nilf) := by kernel_rfl
@[simp] theorem by_151 : byOf Tryz.prog 151 = some 8 := by kernel_rfl
@[simp] theorem sz_152 : szOf Tryz.prog 152 = some 1 := by kernel_rfl
@[simp] theorem ag_152 : aggOf Tryz.prog 152 = some false := by kernel_rfl
@[simp] theorem zo_152 : zOf Tryz.prog 152 = some (.nilf) := by kernel_rfl
@[simp] theorem by_152 : byOf Tryz.prog 152 = some 8 := by kernel_rfl
@[simp] theorem sz_153 : szOf Tryz.prog 153 = some 1 := by kernel_rfl
@[simp] theorem ag_153 : aggOf Tryz.prog 153 = some false := by kernel_rfl
@[simp] theorem zo_153 : zOf Tryz.prog 153 = some (.int .u64 0) := by kernel_rfl
@[simp] theorem un_153 : Tryz.prog.underlying 153 = some (.int .u64) := by kernel_rfl
@[simp] theorem by_153 : byOf Tryz.prog 153 = some 8 := by kernel_rfl
@[simp] theorem sz_154 : szOf Tryz.prog 154 = some 1 := by kernel_rfl
@[simp] theorem ag_154 : aggOf Tryz.prog 154 = some false := by kernel_rfl
@[simp] theorem zo_154 : zOf Tryz.prog 154 = some (.nilf) := by kernel_rfl
@[simp] theorem by_154 : byOf Tryz.prog 154 = some 8 := by kernel_rfl
@[simp] theorem sz_155 : szOf Tryz.prog 155 = some 1 := by kernel_rfl
@[simp] theorem ag_155 : aggOf Tryz.prog 155 = some false := by kernel_rfl
@[simp] theorem zo_155 : zOf Tryz.prog 155 = some (.nilf) := by kernel_rfl
@[simp] theorem by_155 : byOf Tryz.prog 155 = some 8 := by kernel_rfl
@[simp] theorem sz_156 : szOf Tryz.prog 156 = some 1 := by kernel_rfl
@[simp] theorem ag_156 : aggOf Tryz.prog 156 = some false := by kernel_rfl
@[simp] theorem zo_156 : zOf Tryz.prog 156 = some (.nilf) := by kernel_rfl
@[simp] theorem by_156 : byOf Tryz.prog 156 = some 8 := by kernel_rfl
@[simp] theorem sz_157 : szOf Tryz.prog 157 = some 1 := by kernel_rfl
@[simp] theorem ag_157 : aggOf Tryz.prog 157 = some false := by kernel_rfl
@[simp] theorem zo_157 : zOf Tryz.prog 157 = some (.nilp) := by kernel_rfl
@[simp] theorem un_157 : Tryz.prog.underlying 157 = some (.pointer 3) := by kernel_rfl
@[simp] theorem by_157 : byOf Tryz.prog 157 = some 8 := by kernel_rfl
@[simp] theorem sz_158 : szOf Tryz.prog 158 = some 1 := by kernel_rfl
@[simp] theorem ag_158 : aggOf Tryz.prog 158 = some false := by kernel_rfl
@[simp] theorem zo_158 : zOf Tryz.prog 158 = some (.nilf) := by kernel_rfl
@[simp] theorem by_158 : byOf Tryz.prog 158 = some 8 := by kernel_rfl
@[simp] theorem sz_159 : szOf Tryz.prog 159 = some 24 := by kernel_rfl
@[simp] theorem ag_159 : aggOf Tryz.prog 159 = some true := by kernel_rfl
@[simp] theorem zo_159 : zOf Tryz.prog 159 = some (.agg [.int .u8 0, .int .u8 0, .int .u8 0, .int .u8 0, .int .u8 0, .int .u8 0, .int .u8 0, .int .u8 0, .int .u8 0, .int .u8 0, .int .u8 0, .int .u8 0, .int .u8 0, .int .u8 0, .int .u8 0, .int .u8 0, .int .u8 0, .int .u8 0, .int .u8 0, .int .u8 0, .int .u8 0, .int .u8 0, .int .u8 0, .int .u8 0]) := by kernel_rfl
@[simp] theorem ar_159 : arrOf Tryz.prog 159 = some (24, 5, 1, false) := by kernel_rfl
@[simp] theorem bd_159 : bldOf Tryz.prog 159 = some ([(0, 1), (1, 1), (2, 1), (3, 1), (4, 1), (5, 1), (6, 1), (7, 1), (8, 1), (9, 1), (10, 1), (11, 1), (12, 1), (13, 1), (14, 1), (15, 1), (16, 1), (17, 1), (18, 1), (19, 1), (20, 1), (21, 1), (22, 1), (23, 1)], [.int .u8 0, .int .u8 0, .int .u8 0, .int .u8 0, .int .u8 0, .int .u8 0, .int .u8 0, .int .u8 0, .int .u8 0, .int .u8 0, .int .u8 0, .int .u8 0, .int .u8 0, .int .u8 0, .int .u8 0, .int .u8 0, .int .u8 0, .int .u8 0, .int .u8 0, .int .u8 0, .int .u8 0, .int .u8 0, .int .u8 0, .int .u8 0]) := by kernel_rfl
@[simp] theorem un_159 : Tryz.prog.underlying 159 = some (.array 24 5) := by kernel_rfl
@[simp] theorem by_159 : byOf Tryz.prog 159 = some 24 := by kernel_rfl
@[simp] theorem sz_160 : szOf Tryz.prog 160 = some 1 := by kernel_rfl
@[simp] theorem ag_160 : aggOf Tryz.prog 160 = some false := by kernel_rfl
@[simp] theorem zo_160 : zOf Tryz.prog 160 = some (.nilf) := by kernel_rfl
@[simp] theorem by_160 : byOf Tryz.prog 160 = some 8 := by kernel_rfl
@[simp] theorem sz_162 : szOf Tryz.prog 162 = some 1 := by kernel_rfl
@[simp] theorem ag_162 : aggOf Tryz.prog 162 = some false := by kernel_rfl
@[simp] theorem zo_162 : zOf Tryz.prog 162 = some (.nilf) := by kernel_rfl
@[simp] theorem by_162 : byOf Tryz.prog 162 = some 8 := by kernel_rfl
@[simp] theorem sz_163 : szOf Tryz.prog 163 = some 1 := by kernel_rfl
@[simp] theorem ag_163 : aggOf Tryz.prog 163 = some false := by kernel_rfl
@[simp] theorem zo_163 : zOf Tryz.prog 163 = some (.nilp) := by kernel_rfl
@[simp] theorem un_163 : Tryz.prog.underlying 163 = some (.pointer 153) := by kernel_rfl
@[simp] theorem by_163 : byOf Tryz.prog 163 = some 8 := by kernel_rfl
@[simp] theorem sz_165 : szOf Tryz.prog 165 = some 1 := by kernel_rfl
@[simp] theorem ag_165 : aggOf Tryz.prog 165 = some false := by kernel_rfl
@[simp] theorem zo_165 : zOf Tryz.prog 165 = some (.nilf) := by kernel_rfl
@[simp] theorem by_165 : byOf Tryz.prog 165 = some 8 := by kernel_rfl
@[simp] theorem sz_166 : szOf Tryz.prog 166 = some 1 := by kernel_rfl
@[simp] theorem ag_166 : aggOf Tryz.prog 166 = some false := by kernel_rfl
@[simp] theorem zo_166 : zOf Tryz.prog 166 = some (.nilf) := by kernel_rfl
@[simp] theorem by_166 : byOf Tryz.prog 166 = some 8 := by kernel_rfl
@[simp] theorem sz_167 : szOf Tryz.prog 167 = some 20 := by kernel_rfl
@[simp] theorem ag_167 : aggOf Tryz.prog 167 = some true := by kernel_rfl
@[simp] theorem zo_167 : zOf Tryz.prog 167 = some (.agg [.int .u64 0, .int .u64 0, .int .u64 0, .int .u64 0, .int .u64 0, .int .u64 0, .int .u64 0, .int .u64 0, .int .u64 0, .int .u64 0, .int .u64 0, .int .u64 0, .int .u64 0, .int .u64 0, .int .u64 0, .int .u64 0, .int .u64 0, .int .u64 0, .int .u64 0, .int .u64 0]) := by kernel_rfl
@[simp] theorem ar_167 : arrOf Tryz.prog 167 = some (20, 123, 1, false) := by kernel_rfl
@[simp] theorem bd_167 : bldOf Tryz.prog 167 = some ([(0, 1), (1, 1), (2, 1), (3, 1), (4, 1), (5, 1), (6, 1), (7, 1), (8, 1), (9, 1), (10, 1), (11, 1), (12, 1), (13, 1), (14, 1), (15, 1), (16, 1), (17, 1), (18, 1), (19, 1)], [.int .u64 0, .int .u64 0, .int .u64 0, .int .u64 0, .int .u64 0, .int .u64 0, .int .u64 0, .int .u64 0, .int .u64 0, .int .u64 0, .int .u64 0, .int .u64 0, .int .u64 0, .int .u64 0, .int .u64 0, .int .u64 0, .int .u64 0, .int .u64 0, .int .u64 0, .int .u64 0]) := by kernel_rfl
@[simp] theorem un_167 : Tryz.prog.underlying 167 = some (.array 20 123) := by kernel_rfl
@[simp] theorem by_167 : byOf Tryz.prog 167 = some 160 := by kernel_rfl
@[simp] theorem sz_168 : szOf Tryz.prog 168 = some 65 := by kernel_rfl
@[simp] theorem ag_168 : aggOf Tryz.prog 168 = some true := by kernel_rfl
@[simp] theorem zo_168 : zOf Tryz.prog 168 = some (.agg [.int .u8 0, .int .u8 0, .int .u8 0, .int .u8 0, .int .u8 0, .int .u8 0, .int .u8 0, .int .u8 0, .int .u8 0, .int .u8 0, .int .u8 0, .int .u8 0, .int .u8 0, .int .u8 0, .int .u8 0, .int .u8 0, .int .u8 0, .int .u8 0, .int .u8 0, .int .u8 0, .int .u8 0, .int .u8 0, .int .u8 0, .int .u8 0, .int .u8 0, .int .u8 0, .int .u8 0, .int .u8 0, .int .u8 0, .int .u8 0, .int .u8 0, .int .u8 0, .int .u8 0, .int .u8 0, .int .u8 0, .int .u8 0, .int .u8 0, .int .u8 0, .int .u8 0, .int .u8 0, .int .u8 0, .int .u8 0, .int .u8 0, .int .u8 0, .int .u8 0, .int .u8 0, .int .u8 0, .int .u8 0, .int .u8 0, .int .u8 0, .int .u8 0, .int .u8 0, .int .u8 0, .int .u8 0, .int .u8 0, .int .u8 0, .int .u8 0, .int .u8 0, .int .u8 0, .int .u8 0, .int .u8 0, .int .u8 0, .int .u8 0, .int .u8 0, .int .u8 0]) := by kernel_rfl
@[simp] theorem ar_168 : arrOf Tryz.prog 168 = some (65, 5, 1, false) := by kernel_rfl
@[simp] theorem bd_168 : bldOf Tryz.prog 168 = some ([(0, 1), (1, 1), (2, 1), (3, 1), (4, 1), (5, 1), (6, 1), (7, 1), (8, 1), (9, 1), (10, 1), (11, 1), (12, 1), (13, 1), (14, 1), (15, 1), (16, 1), (17, 1), (18, 1), (19, 1), (20, 1), (21, 1), (22, 1), (23, 1), (24, 1), (25, 1), (26, 1), (27, 1), (28, 1), (29, 1), (30, 1), (31, 1), (32, 1), (33, 1), (34, 1), (35, 1), (36, 1), (37, 1), (38, 1), (39, 1), (40, 1), (41, 1), (42, 1), (43, 1), (44, 1), (45, 1), (46, 1), (47, 1), (48, 1), (49, 1), (50, 1), (51, 1), (52, 1), (53, 1), (54, 1), (55, 1), (56, 1), (57, 1), (58, 1), (59, 1), (60, 1), (61, 1), (62, 1), (63, 1), (64, 1)], [.int .u8 0, .int .u8 0, .int .u8 0, .int .u8 0, .int .u8 0, .int .u8 0, .int .u8 0, .int .u8 0, .int .u8 0, .int .u8 0, .int .u8 0, .int .u8 0, .int .u8 0, .int .u8 0, .int .u8 0, .int .u8 0, .int .u8 0, .int .u8 0, .int .u8 0, .int .u8 0, .int .u8 0, .int .u8 0, .int .u8 0, .int .u8 0, .int .u8 0, .int .u8 0, .int .u8 0, .int .u8 0, .int .u8 0, .int .u8 0, .int .u8 0, .int .u8 0, .int .u8 0, .int .u8 0, .int .u8 0, .int .u8 0, .int .u8 0, .int .u8 0, .int .u8 0, .int .u8 0, .int .u8 0, .int .u8 0, .int .u8 0, .int .u8 0, .int .u8 0, .int .u8 0, .int .u8 0, .int .u8 0, .int .u8 0, .int .u8 0, .int .u8 0, .int .u8 0, .int .u8 0, .int .u8 0, .int .u8 0, .int .u8 0, .int .u8 0, .int .u8 0, .int .u8 0, .int .u8 0, .int .u8 0, .int .u8 0, .int .u8 0, .int .u8 0, .int .u8 0]) := by kernel_rfl
@[simp] theorem un_168 : Tryz.prog.underlying 168 = some (.array 65 5) := by kernel_rfl
@[simp] theorem by_168 : byOf Tryz.prog 168 = some 65 := by kernel_rfl
@[simp] theorem sz_169 : szOf Tryz.prog 169 = some 1 := by kernel_rfl
@[simp] theorem ag_169 : aggOf Tryz.prog 169 = some false := by kernel_rfl
@[simp] theorem zo_169 : zOf Tryz.prog 169 = some (.nilf) := by kernel_rfl
@[simp] theorem by_169 : byOf Tryz.prog 169 = some 8 := by kernel_rfl
@[simp] theorem sz_170 : szOf Tryz.prog 170 = some 1 := by kernel_rfl
@[simp] theorem ag_170 : aggOf Tryz.prog 170 = some false := by kernel_rfl
@[simp] theorem zo_170 : zOf Tryz.prog 170 = some (.nilf) := by kernel_rfl
@[simp] theorem by_170 : byOf Tryz.prog 170 = some 8 := by kernel_rfl
@[simp] theorem sz_171 : szOf Tryz.prog 171 = some 32 := by kernel_rfl
@[simp] theorem ag_171 : aggOf Tryz.prog 171 = some true := by kernel_rfl
@[simp] theorem zo_171 : zOf Tryz.prog 171 = some (.agg [.int .u8 0, .int .u8 0, .int .u8 0, .int .u8 0, .int .u8 0, .int .u8 0, .int .u8 0, .int .u8 0, .int .u8 0, .int .u8 0, .int .u8 0, .int .u8 0, .int .u8 0, .int .u8 0, .int .u8 0, .int .u8 0, .int .u8 0, .int .u8 0, .int .u8 0, .int .u8 0, .int .u8 0, .int .u8 0, .int .u8 0, .int .u8 0, .int .u8 0, .int .u8 0, .int .u8 0, .int .u8 0, .int .u8 0, .int .u8 0, .int .u8 0, .int .u8 0]) := by kernel_rfl
@[simp] theorem ar_171 : arrOf Tryz.prog 171 = some (32, 5, 1, false) := by kernel_rfl
@[simp] theorem bd_171 : bldOf Tryz.prog 171 = some ([(0, 1), (1, 1), (2, 1), (3, 1), (4, 1), (5, 1), (6, 1), (7, 1), (8, 1), (9, 1), (10, 1), (11, 1), (12, 1), (13, 1), (14, 1), (15, 1), (16, 1), (17, 1), (18, 1), (19, 1), (20, 1), (21, 1), (22, 1), (23, 1), (24, 1), (25, 1), (26, 1), (27, 1), (28, 1), (29, 1), (30, 1), (31, 1)], [.int .u8 0, .int .u8 0, .int .u8 0, .int .u8 0, .int .u8 0, .int .u8 0, .int .u8 0, .int .u8 0, .int .u8 0, .int .u8 0, .int .u8 0, .int .u8 0, .int .u8 0, .int .u8 0, .int .u8 0, .int .u8 0, .int .u8 0, .int .u8 0, .int .u8 0, .int .u8 0, .int .u8 0, .int .u8 0, .int .u8 0, .int .u8 0, .int .u8 0, .int .u8 0, .int .u8 0, .int .u8 0, .int .u8 0, .int .u8 0, .int .u8 0, .int .u8 0]) := by kernel_rfl
@[simp] theorem un_171 : Tryz.prog.underlying 171 = some (.array 32 5) := by kernel_rfl
@[simp] theorem by_171 : byOf Tryz.prog 171 = some 32 := by kernel_rfl
@[simp] theorem sz_172 : szOf Tryz.prog 172 = some 64 := by kernel_rfl
@[simp] theorem ag_172 : aggOf Tryz.prog 172 = some true := by kernel_rfl
@[simp] theorem zo_172 : zOf Tryz.prog 172 = some (.agg [.int .u8 0, .int .u8 0, .int .u8 0, .int .u8 0, .int .u8 0, .int .u8 0, .int .u8 0, .int .u8 0, .int .u8 0, .int .u8 0, .int .u8 0, .int .u8 0, .int .u8 0, .int .u8 0, .int .u8 0, .int .u8 0, .int .u8 0, .int .u8 0, .int .u8 0, .int .u8 0, .int .u8 0, .int .u8 0, .int .u8 0, .int .u8 0, .int .u8 0, .int .u8 0, .int .u8 0, .int .u8 0, .int .u8 0, .int .u8 0, .int .u8 0, .int .u8 0, .int .u8 0, .int .u8 0, .int .u8 0, .int .u8 0, .int .u8 0, .int .u8 0, .int .u8 0, .int .u8 0, .int .u8 0, .int .u8 0, .int .u8 0, .int .u8 0, .int .u8 0, .int .u8 0, .int .u8 0, .int .u8 0, .int .u8 0, .int .u8 0, .int .u8 0, .int .u8 0, .int .u8 0, .int .u8 0, .int .u8 0, .int .u8 0, .int .u8 0, .int .u8 0, .int .u8 0, .int .u8 0, .int .u8 0, .int .u8 0, .int .u8 0, .int .u8 0]) := by kernel_rfl
@[simp] theorem ar_172 : arrOf Tryz.prog 172 = some (64, 5, 1, false) := by kernel_rfl
@[simp] theorem bd_172 : bldOf Tryz.prog 172 = some ([(0, 1), (1, 1), (2, 1), (3, 1), (4, 1), (5, 1), (6, 1), (7, 1), (8, 1), (9, 1), (10, 1), (11, 1), (12, 1), (13, 1), (14, 1), (15, 1), (16, 1), (17, 1), (18, 1), (19, 1), (20, 1), (21, 1), (22, 1), (23, 1), (24, 1), (25, 1), (26, 1), (27, 1), (28, 1), (29, 1), (30, 1), (31, 1), (32, 1), (33, 1), (34, 1), (35, 1), (36, 1), (37, 1), (38, 1), (39, 1), (40, 1), (41, 1), (42, 1), (43, 1), (44, 1), (45, 1), (46, 1), (47, 1), (48, 1), (49, 1), (50, 1), (51, 1), (52, 1), (53, 1), (54, 1), (55, 1), (56, 1), (57, 1), (58, 1), (59, 1), (60, 1), (61, 1), (62, 1), (63, 1)], [.int .u8 0, .int .u8 0, .int .u8 0, .int .u8 0, .int .u8 0, .int .u8 0, .int .u8 0, .int .u8 0, .int .u8 0, .int .u8 0, .int .u8 0, .int .u8 0, .int .u8 0, .int .u8 0, .int .u8 0, .int .u8 0, .int .u8 0, .int .u8 0, .int .u8 0, .int .u8 0, .int .u8 0, .int .u8 0, .int .u8 0, .int .u8 0, .int .u8 0, .int .u8 0, .int .u8 0, .int .u8 0, .int .u8 0, .int .u8 0, .int .u8 0, .int .u8 0, .int .u8 0, .int .u8 0, .int .u8 0, .int .u8 0, .int .u8 0, .int .u8 0, .int .u8 0, .int .u8 0, .int .u8 0, .int .u8 0, .int .u8 0, .int .u8 0, .int .u8 0, .int .u8 0, .int .u8 0, .int .u8 0, .int .u8 0, .int .u8 0, .int .u8 0, .int .u8 0, .int .u8 0, .int .u8 0, .int .u8 0, .int .u8 0, .int .u8 0, .int .u8 0, .int .u8 0, .int .u8 0, .int .u8 0, .int .u8 0, .int .u8 0, .int .u8 0]) := by kernel_rfl
@[simp] theorem un_172 : Tryz.prog.underlying 172 = some (.array 64 5) := by kernel_rfl
@[simp] theorem by_172 : byOf Tryz.prog 172 = some 64 := by kernel_rfl
@[simp] theorem sz_173 : szOf Tryz.prog 173 = some 1 := by kernel_rfl
@[simp] theorem ag_173 : aggOf Tryz.prog 173 = some false := by kernel_rfl
@[simp] theorem zo_173 : zOf Tryz.prog 173 = some (.nilf) := by kernel_rfl
@[simp] theorem by_173 : byOf Tryz.prog 173 = some 8 := by kernel_rfl
@[simp] theorem sz_174 : szOf Tryz.prog 174 = some 4 := by kernel_rfl
@[simp] theorem ag_174 : aggOf Tryz.prog 174 = some true := by kernel_rfl
@[simp] theorem zo_174 : zOf Tryz.prog 174 = some (.agg [.nilp, .nilp, .nilp, .str ⟨#[]⟩]) := by kernel_rfl
@[simp] theorem ft_174 : ftOf Tryz.prog 174 = some (4, [(17, 0, 1), (17, 1, 1), (17, 2, 1), (9, 3, 1)]) := by kernel_rfl
@[simp] theorem fd_174_0 : fldOf Tryz.prog 174 0 = some (0, 1, false) := by kernel_rfl
@[simp] theorem fd_174_1 : fldOf Tryz.prog 174 1 = some (1, 1, false) := by kernel_rfl
@[simp] theorem fd_174_2 : fldOf Tryz.prog 174 2 = some (2, 1, false) := by kernel_rfl
@[simp] theorem fd_174_3 : fldOf Tryz.prog 174 3 = some (3, 1, false) := by kernel_rfl
@[simp] theorem bd_174 : bldOf Tryz.prog 174 = some ([(0, 1), (1, 1), (2, 1), (3, 1)], [.nilp, .nilp, .nilp, .str ⟨#[]⟩]) := by kernel_rfl
@[simp] theorem by_174 : byOf Tryz.prog 174 = some 40 := by kernel_rfl
@[simp] theorem sz_175 : szOf Tryz.prog 175 = some 4 := by kernel_rfl
@[simp] theorem ag_175 : aggOf Tryz.prog 175 = some true := by kernel_rfl
@[simp] theorem zo_175 : zOf Tryz.prog 175 = some (.agg [.nilp, .nilp, .nilp, .str ⟨#[]⟩]) := by kernel_rfl
@[simp] theorem ft_175 : ftOf Tryz.prog 175 = some (4, [(17, 0, 1), (17, 1, 1), (17, 2, 1), (9, 3, 1)]) := by kernel_rfl
@[simp] theorem fd_175_0 : fldOf Tryz.prog 175 0 = some (0, 1, false) := by kernel_rfl
@[simp] theorem fd_175_1 : fldOf Tryz.prog 175 1 = some (1, 1, false) := by kernel_rfl
@[simp] theorem fd_175_2 : fldOf Tryz.prog 175 2 = some (2, 1, false) := by kernel_rfl
@[simp] theorem fd_175_3 : fldOf Tryz.prog 175 3 = some (3, 1, false) := by kernel_rfl
@[simp] theorem bd_175 : bldOf Tryz.prog 175 = some ([(0, 1), (1, 1), (2, 1), (3, 1)], [.nilp, .nilp, .nilp, .str ⟨#[]⟩]) := by kernel_rfl
@[simp] theorem by_175 : byOf Tryz.prog 175 = some 40 := by kernel_rfl
@[simp] theorem sz_176 : szOf Tryz.prog 176 = some 0 := by kernel_rfl
@[simp] theorem ag_176 : aggOf Tryz.prog 176 = some true := by kernel_rfl
@[simp] theorem zo_176 : zOf Tryz.prog 176 = some (.agg []) := by kernel_rfl
@[simp] theorem ar_176 : arrOf Tryz.prog 176 = some (0, 16, 1, false) := by kernel_rfl
@[simp] theorem bd_176 : bldOf Tryz.prog 176 = some ([], []) := by kernel_rfl
@[simp] theorem un_176 : Tryz.prog.underlying 176 = some (.array 0 16) := by kernel_rfl
@[simp] theorem by_176 : byOf Tryz.prog 176 = some 0 := by kernel_rfl
@[simp] theorem sz_177 : szOf Tryz.prog 177 = some 0 := by kernel_rfl
@[simp] theorem ag_177 : aggOf Tryz.prog 177 = some true := by kernel_rfl
@[simp] theorem zo_177 : zOf Tryz.prog 177 = some (.agg []) := by kernel_rfl
@[simp] theorem ft_177 : ftOf Tryz.prog 177 = some (0, [(176, 0, 0)]) := by kernel_rfl
@[simp] theorem fd_177_0 : fldOf Tryz.prog 177 0 = some (0, 0, true) := by kernel_rfl
@[simp] theorem bd_177 : bldOf Tryz.prog 177 = some ([(0, 0)], []) := by kernel_rfl
@[simp] theorem by_177 : byOf Tryz.prog 177 = some 0 := by kernel_rfl
@[simp] theorem sz_178 : szOf Tryz.prog 178 = some 0 := by kernel_rfl
@[simp] theorem ag_178 : aggOf Tryz.prog 178 = some true := by kernel_rfl
@[simp] theorem zo_178 : zOf Tryz.prog 178 = some (.agg []) := by kernel_rfl
@[simp] theorem ft_178 : ftOf Tryz.prog 178 = some (0, [(176, 0, 0)]) := by kernel_rfl
@[simp] theorem fd_178_0 : fldOf Tryz.prog 178 0 = some (0, 0, true) := by kernel_rfl
@[simp] theorem bd_178 : bldOf Tryz.prog 178 = some ([(0, 0)], []) := by kernel_rfl
@[simp] theorem by_178 : byOf Tryz.prog 178 = some 0 := by kernel_rfl
@[simp] theorem sz_179 : szOf Tryz.prog 179 = some 1 := by kernel_rfl
@[simp] theorem ag_179 : aggOf Tryz.prog 179 = some false := by kernel_rfl
@[simp] theorem zo_179 : zOf Tryz.prog 179 = some (.nilf) := by kernel_rfl
@[simp] theorem by_179 : byOf Tryz.prog 179 = some 8 := by kernel_rfl
@[simp] theorem sz_180 : szOf Tryz.prog 180 = some 1 := by kernel_rfl
@[simp] theorem ag_180 : aggOf Tryz.prog 180 = some false := by kernel_rfl
@[simp] theorem zo_180 : zOf Tryz.prog 180 = some (.int .u8 0) := by kernel_rfl
@[simp] theorem un_180 : Tryz.prog.underlying 180 = some (.int .u8) := by kernel_rfl
@[simp] theorem by_180 : byOf Tryz.prog 180 = some 1 := by kernel_rfl
@[simp] theorem sz_181 : szOf Tryz.prog 181 = some 1 := by kernel_rfl
@[simp] theorem ag_181 : aggOf Tryz.prog 181 = some false := by kernel_rfl
@[simp] theorem zo_181 : zOf Tryz.prog 181 = some (.int .u8 0) := by kernel_rfl
@[simp] theorem un_181 : Tryz.prog.underlying 181 = some (.int .u8) := by kernel_rfl
@[simp] theorem by_181 : byOf Tryz.prog 181 = some 1 := by kernel_rfl
@[simp] theorem sz_182 : szOf Tryz.prog 182 = some 1 := by kernel_rfl
@[simp] theorem ag_182 : aggOf Tryz.prog 182 = some false := by kernel_rfl
@[simp] theorem zo_182 : zOf Tryz.prog 182 = some (.nilf) := by kernel_rfl
@[simp] theorem by_182 : byOf Tryz.prog 182 = some 8 := by kernel_rfl
@[simp] theorem sz_183 : szOf Tryz.prog 183 = some 1 := by kernel_rfl
@[simp] theorem ag_183 : aggOf Tryz.prog 183 = some false := by kernel_rfl
@[simp] theorem zo_183 : zOf Tryz.prog 183 = some (.nilp) := by kernel_rfl
@[simp] theorem un_183 : Tryz.prog.underlying 183 = some (.pointer 5) := by kernel_rfl
@[simp] theorem by_183 : byOf Tryz.prog 183 = some 8 := by kernel_rfl
@[simp] theorem sz_184 : szOf Tryz.prog 184 = some 1 := by kernel_rfl
@[simp] theorem ag_184 : aggOf Tryz.prog 184 = some false := by kernel_rfl
@[simp] theorem zo_184 : zOf Tryz.prog 184 = some (.int .i32 0) := by kernel_rfl
@[simp] theorem un_184 : Tryz.prog.underlying 184 = some (.int .i32) := by kernel_rfl
@[simp] theorem by_184 : byOf Tryz.prog 184 = some 4 := by kernel_rfl
@[simp] theorem sz_185 : szOf Tryz.prog 185 = some 1 := by kernel_rfl
@[simp] theorem ag_185 : aggOf Tryz.prog 185 = some false := by kernel_rfl
@[simp] theorem zo_185 : zOf Tryz.prog 185 = some (.int .i32 0) := by kernel_rfl
@[simp] theorem un_185 : Tryz.prog.underlying 185 = some (.int .i32) := by kernel_rfl
@[simp] theorem by_185 : byOf Tryz.prog 185 = some 4 := by kernel_rfl
@[simp] theorem sz_186 : szOf Tryz.prog 186 = some 11 := by kernel_rfl
@[simp] theorem ag_186 : aggOf Tryz.prog 186 = some true := by kernel_rfl
@[simp] theorem zo_186 : zOf Tryz.prog 186 = some (.agg [.int .u64 0, .int .u64 0, .int .u32 0, .int .u8 0, .int .u8 0, .int .u8 0, .int .u8 0, .nilf, .nilp, .int .i32 0, .int .i32 0]) := by kernel_rfl
@[simp] theorem ft_186 : ftOf Tryz.prog 186 = some (11, [(12, 0, 1), (12, 1, 1), (120, 2, 1), (180, 3, 1), (5, 4, 1), (5, 5, 1), (181, 6, 1), (182, 7, 1), (183, 8, 1), (184, 9, 1), (185, 10, 1)]) := by kernel_rfl
@[simp] theorem fd_186_0 : fldOf Tryz.prog 186 0 = some (0, 1, false) := by kernel_rfl
@[simp] theorem fd_186_1 : fldOf Tryz.prog 186 1 = some (1, 1, false) := by kernel_rfl
@[simp] theorem fd_186_2 : fldOf Tryz.prog 186 2 = some (2, 1, false) := by kernel_rfl
@[simp] theorem fd_186_3 : fldOf Tryz.prog 186 3 = some (3, 1, false) := by kernel_rfl
@[simp] theorem fd_186_4 : fldOf Tryz.prog 186 4 = some (4, 1, false) := by kernel_rfl
@[simp] theorem fd_186_5 : fldOf Tryz.prog 186 5 = some (5, 1, false) := by kernel_rfl
@[simp] theorem fd_186_6 : fldOf Tryz.prog 186 6 = some (6, 1, false) := by kernel_rfl
@[simp] theorem fd_186_7 : fldOf Tryz.prog 186 7 = some (7, 1, false) := by kernel_rfl
@[simp] theorem fd_186_8 : fldOf Tryz.prog 186 8 = some (8, 1, false) := by kernel_rfl
@[simp] theorem fd_186_9 : fldOf Tryz.prog 186 9 = some (9, 1, false) := by kernel_rfl
@[simp] theorem fd_186_10 : fldOf Tryz.prog 186 10 = some (10, 1, false) := by kernel_rfl
@[simp] theorem bd_186 : bldOf Tryz.prog 186 = some ([(0, 1), (1, 1), (2, 1), (3, 1), (4, 1), (5, 1), (6, 1), (7, 1), (8, 1), (9, 1), (10, 1)], [.int .u64 0, .int .u64 0, .int .u32 0, .int .u8 0, .int .u8 0, .int .u8 0, .int .u8 0, .nilf, .nilp, .int .i32 0, .int .i32 0]) := by kernel_rfl
@[simp] theorem by_186 : byOf Tryz.prog 186 = some 48 := by kernel_rfl
@[simp] theorem sz_187 : szOf Tryz.prog 187 = some 11 := by kernel_rfl
@[simp] theorem ag_187 : aggOf Tryz.prog 187 = some true := by kernel_rfl
@[simp] theorem zo_187 : zOf Tryz.prog 187 = some (.agg [.int .u64 0, .int .u64 0, .int .u32 0, .int .u8 0, .int .u8 0, .int .u8 0, .int .u8 0, .nilf, .nilp, .int .i32 0, .int .i32 0]) := by kernel_rfl
@[simp] theorem ft_187 : ftOf Tryz.prog 187 = some (11, [(12, 0, 1), (12, 1, 1), (120, 2, 1), (180, 3, 1), (5, 4, 1), (5, 5, 1), (181, 6, 1), (182, 7, 1), (183, 8, 1), (184, 9, 1), (185, 10, 1)]) := by kernel_rfl
@[simp] theorem fd_187_0 : fldOf Tryz.prog 187 0 = some (0, 1, false) := by kernel_rfl
@[simp] theorem fd_187_1 : fldOf Tryz.prog 187 1 = some (1, 1, false) := by kernel_rfl
@[simp] theorem fd_187_2 : fldOf Tryz.prog 187 2 = some (2, 1, false) := by kernel_rfl
@[simp] theorem fd_187_3 : fldOf Tryz.prog 187 3 = some (3, 1, false) := by kernel_rfl
@[simp] theorem fd_187_4 : fldOf Tryz.prog 187 4 = some (4, 1, false) := by kernel_rfl
@[simp] theorem fd_187_5 : fldOf Tryz.prog 187 5 = some (5, 1, false) := by kernel_rfl
@[simp] theorem fd_187_6 : fldOf Tryz.prog 187 6 = some (6, 1, false) := by kernel_rfl
@[simp] theorem fd_187_7 : fldOf Tryz.prog 187 7 = some (7, 1, false) := by kernel_rfl
@[simp] theorem fd_187_8 : fldOf Tryz.prog 187 8 = some (8, 1, false) := by kernel_rfl
@[simp] theorem fd_187_9 : fldOf Tryz.prog 187 9 = some (9, 1, false) := by kernel_rfl
@[simp] theorem fd_187_10 : fldOf Tryz.prog 187 10 = some (10, 1, false) := by kernel_rfl
@[simp] theorem bd_187 : bldOf Tryz.prog 187 = some ([(0, 1), (1, 1), (2, 1), (3, 1), (4, 1), (5, 1), (6, 1), (7, 1), (8, 1), (9, 1), (10, 1)], [.int .u64 0, .int .u64 0, .int .u32 0, .int .u8 0, .int .u8 0, .int .u8 0, .int .u8 0, .nilf, .nilp, .int .i32 0, .int .i32 0]) := by kernel_rfl
@[simp] theorem by_187 : byOf Tryz.prog 187 = some 48 := by kernel_rfl
def allS : List Nat := [2, 3, 4, 5, 6, 7, 8, 9, 10, 11, 12, 13, 14, 21, 22, 23, 24, 25, 31, 34, 45, 57, 58, 59, 79, 80, 88, 90, 91, 103, 106, 120, 123, 132, 139, 153, 180, 181, 184, 185]
theorem plain_all : plainS Tryz.prog allS = true := by kernel_rfl
end Go.Proofs.YtjplcdeaedflpaaGreatDoor.PL
