/- What the program's types are, as it is asked in the steps. -/
import Derived.Test.YtcjfjoilgnlemaaPLd
import Derived.Test.YtcjfjoilgnlemaaProg
import Derived.KernelRfl
namespace Go.Proofs.Ytcjfjoilgnlemaa.PL
open Go.Proofs
theorem mix : Try.prog.follows .mixedOrders = true := by kernel_rfl
@[simp] theorem sz_1 : szOf Try.prog 1 = some 1 := by kernel_rfl
@[simp] theorem ag_1 : aggOf Try.prog 1 = some false := by kernel_rfl
@[simp] theorem zo_1 : zOf Try.prog 1 = some (.nilf) := by kernel_rfl
@[simp] theorem by_1 : byOf Try.prog 1 = some 8 := by kernel_rfl
@[simp] theorem sz_2 : szOf Try.prog 2 = some 1 := by kernel_rfl
@[simp] theorem ag_2 : aggOf Try.prog 2 = some false := by kernel_rfl
@[simp] theorem zo_2 : zOf Try.prog 2 = some (.int .i64 0) := by kernel_rfl
@[simp] theorem un_2 : Try.prog.underlying 2 = some (.int .i64) := by kernel_rfl
@[simp] theorem by_2 : byOf Try.prog 2 = some 8 := by kernel_rfl
@[simp] theorem sz_3 : szOf Try.prog 3 = some 1 := by kernel_rfl
@[simp] theorem ag_3 : aggOf Try.prog 3 = some false := by kernel_rfl
@[simp] theorem zo_3 : zOf Try.prog 3 = some (.int .i64 0) := by kernel_rfl
@[simp] theorem un_3 : Try.prog.underlying 3 = some (.int .i64) := by kernel_rfl
@[simp] theorem by_3 : byOf Try.prog 3 = some 8 := by kernel_rfl
@[simp] theorem sz_4 : szOf Try.prog 4 = some 1 := by kernel_rfl
@[simp] theorem ag_4 : aggOf Try.prog 4 = some false := by kernel_rfl
@[simp] theorem zo_4 : zOf Try.prog 4 = some (.bool false) := by kernel_rfl
@[simp] theorem un_4 : Try.prog.underlying 4 = some (.bool) := by kernel_rfl
@[simp] theorem by_4 : byOf Try.prog 4 = some 1 := by kernel_rfl
@[simp] theorem sz_5 : szOf Try.prog 5 = some 1 := by kernel_rfl
@[simp] theorem ag_5 : aggOf Try.prog 5 = some false := by kernel_rfl
@[simp] theorem zo_5 : zOf Try.prog 5 = some (.int .u8 0) := by kernel_rfl
@[simp] theorem un_5 : Try.prog.underlying 5 = some (.int .u8) := by kernel_rfl
@[simp] theorem by_5 : byOf Try.prog 5 = some 1 := by kernel_rfl
@[simp] theorem sz_6 : szOf Try.prog 6 = some 1 := by kernel_rfl
@[simp] theorem ag_6 : aggOf Try.prog 6 = some false := by kernel_rfl
@[simp] theorem zo_6 : zOf Try.prog 6 = some (.int .u8 0) := by kernel_rfl
@[simp] theorem un_6 : Try.prog.underlying 6 = some (.int .u8) := by kernel_rfl
@[simp] theorem by_6 : byOf Try.prog 6 = some 1 := by kernel_rfl
@[simp] theorem sz_7 : szOf Try.prog 7 = some 4 := by kernel_rfl
@[simp] theorem ag_7 : aggOf Try.prog 7 = some true := by kernel_rfl
@[simp] theorem zo_7 : zOf Try.prog 7 = some (.agg [.int .i64 0, .int .i64 0, .bool false, .int .u8 0]) := by kernel_rfl
@[simp] theorem ft_7 : ftOf Try.prog 7 = some (4, [(2, 0, 1), (3, 1, 1), (4, 2, 1), (6, 3, 1)]) := by kernel_rfl
@[simp] theorem fd_7_0 : fldOf Try.prog 7 0 = some (0, 1, false) := by kernel_rfl
@[simp] theorem fd_7_1 : fldOf Try.prog 7 1 = some (1, 1, false) := by kernel_rfl
@[simp] theorem fd_7_2 : fldOf Try.prog 7 2 = some (2, 1, false) := by kernel_rfl
@[simp] theorem fd_7_3 : fldOf Try.prog 7 3 = some (3, 1, false) := by kernel_rfl
@[simp] theorem bd_7 : bldOf Try.prog 7 = some ([(0, 1), (1, 1), (2, 1), (3, 1)], [.int .i64 0, .int .i64 0, .bool false, .int .u8 0]) := by kernel_rfl
@[simp] theorem by_7 : byOf Try.prog 7 = some 24 := by kernel_rfl
@[simp] theorem sz_8 : szOf Try.prog 8 = some 4 := by kernel_rfl
@[simp] theorem ag_8 : aggOf Try.prog 8 = some true := by kernel_rfl
@[simp] theorem zo_8 : zOf Try.prog 8 = some (.agg [.int .i64 0, .int .i64 0, .bool false, .int .u8 0]) := by kernel_rfl
@[simp] theorem ft_8 : ftOf Try.prog 8 = some (4, [(2, 0, 1), (3, 1, 1), (4, 2, 1), (6, 3, 1)]) := by kernel_rfl
@[simp] theorem fd_8_0 : fldOf Try.prog 8 0 = some (0, 1, false) := by kernel_rfl
@[simp] theorem fd_8_1 : fldOf Try.prog 8 1 = some (1, 1, false) := by kernel_rfl
@[simp] theorem fd_8_2 : fldOf Try.prog 8 2 = some (2, 1, false) := by kernel_rfl
@[simp] theorem fd_8_3 : fldOf Try.prog 8 3 = some (3, 1, false) := by kernel_rfl
@[simp] theorem bd_8 : bldOf Try.prog 8 = some ([(0, 1), (1, 1), (2, 1), (3, 1)], [.int .i64 0, .int .i64 0, .bool false, .int .u8 0]) := by kernel_rfl
@[simp] theorem by_8 : byOf Try.prog 8 = some 24 := by kernel_rfl
@[simp] theorem sz_9 : szOf Try.prog 9 = some 1 := by kernel_rfl
@[simp] theorem ag_9 : aggOf Try.prog 9 = some false := by kernel_rfl
@[simp] theorem zo_9 : zOf Try.prog 9 = some (.str ⟨#[]⟩) := by kernel_rfl
@[simp] theorem un_9 : Try.prog.underlying 9 = some (.string) := by kernel_rfl
@[simp] theorem by_9 : byOf Try.prog 9 = some 16 := by kernel_rfl
@[simp] theorem sz_10 : szOf Try.prog 10 = some 1 := by kernel_rfl
@[simp] theorem ag_10 : aggOf Try.prog 10 = some false := by kernel_rfl
@[simp] theorem zo_10 : zOf Try.prog 10 = some (.str ⟨#[]⟩) := by kernel_rfl
@[simp] theorem un_10 : Try.prog.underlying 10 = some (.string) := by kernel_rfl
@[simp] theorem by_10 : byOf Try.prog 10 = some 16 := by kernel_rfl
@[simp] theorem sz_11 : szOf Try.prog 11 = some 1 := by kernel_rfl
@[simp] theorem ag_11 : aggOf Try.prog 11 = some false := by kernel_rfl
@[simp] theorem zo_11 : zOf Try.prog 11 = some (.str ⟨#[]⟩) := by kernel_rfl
@[simp] theorem un_11 : Try.prog.underlying 11 = some (.string) := by kernel_rfl
@[simp] theorem by_11 : byOf Try.prog 11 = some 16 := by kernel_rfl
@[simp] theorem sz_12 : szOf Try.prog 12 = some 1 := by kernel_rfl
@[simp] theorem ag_12 : aggOf Try.prog 12 = some false := by kernel_rfl
@[simp] theorem zo_12 : zOf Try.prog 12 = some (.int .u64 0) := by kernel_rfl
@[simp] theorem un_12 : Try.prog.underlying 12 = some (.int .u64) := by kernel_rfl
@[simp] theorem by_12 : byOf Try.prog 12 = some 8 := by kernel_rfl
@[simp] theorem sz_13 : szOf Try.prog 13 = some 2 := by kernel_rfl
@[simp] theorem ag_13 : aggOf Try.prog 13 = some true := by kernel_rfl
@[simp] theorem zo_13 : zOf Try.prog 13 = some (.agg [.str ⟨#[]⟩, .int .u64 0]) := by kernel_rfl
@[simp] theorem ft_13 : ftOf Try.prog 13 = some (2, [(9, 0, 1), (12, 1, 1)]) := by kernel_rfl
@[simp] theorem fd_13_0 : fldOf Try.prog 13 0 = some (0, 1, false) := by kernel_rfl
@[simp] theorem fd_13_1 : fldOf Try.prog 13 1 = some (1, 1, false) := by kernel_rfl
@[simp] theorem bd_13 : bldOf Try.prog 13 = some ([(0, 1), (1, 1)], [.str ⟨#[]⟩, .int .u64 0]) := by kernel_rfl
@[simp] theorem by_13 : byOf Try.prog 13 = some 24 := by kernel_rfl
@[simp] theorem sz_14 : szOf Try.prog 14 = some 2 := by kernel_rfl
@[simp] theorem ag_14 : aggOf Try.prog 14 = some true := by kernel_rfl
@[simp] theorem zo_14 : zOf Try.prog 14 = some (.agg [.str ⟨#[]⟩, .int .u64 0]) := by kernel_rfl
@[simp] theorem ft_14 : ftOf Try.prog 14 = some (2, [(9, 0, 1), (12, 1, 1)]) := by kernel_rfl
@[simp] theorem fd_14_0 : fldOf Try.prog 14 0 = some (0, 1, false) := by kernel_rfl
@[simp] theorem fd_14_1 : fldOf Try.prog 14 1 = some (1, 1, false) := by kernel_rfl
@[simp] theorem bd_14 : bldOf Try.prog 14 = some ([(0, 1), (1, 1)], [.str ⟨#[]⟩, .int .u64 0]) := by kernel_rfl
@[simp] theorem by_14 : byOf Try.prog 14 = some 24 := by kernel_rfl
@[simp] theorem sz_15 : szOf Try.prog 15 = some 1 := by kernel_rfl
@[simp] theorem ag_15 : aggOf Try.prog 15 = some false := by kernel_rfl
@[simp] theorem zo_15 : zOf Try.prog 15 = some (.nilp) := by kernel_rfl
@[simp] theorem un_15 : Try.prog.underlying 15 = some (.pointer 193) := by kernel_rfl
@[simp] theorem by_15 : byOf Try.prog 15 = some 8 := by kernel_rfl
@[simp] theorem sz_16 : szOf Try.prog 16 = some 1 := by kernel_rfl
@[simp] theorem ag_16 : aggOf Try.prog 16 = some false := by kernel_rfl
@[simp] theorem zo_16 : zOf Try.prog 16 = some (.nilp) := by kernel_rfl
@[simp] theorem un_16 : Try.prog.underlying 16 = some (.pointer 196) := by kernel_rfl
@[simp] theorem by_16 : byOf Try.prog 16 = some 8 := by kernel_rfl
@[simp] theorem sz_17 : szOf Try.prog 17 = some 1 := by kernel_rfl
@[simp] theorem ag_17 : aggOf Try.prog 17 = some false := by kernel_rfl
@[simp] theorem zo_17 : zOf Try.prog 17 = some (.nilp) := by kernel_rfl
@[simp] theorem un_17 : Try.prog.underlying 17 = some (.pointer 204) := by kernel_rfl
@[simp] theorem by_17 : byOf Try.prog 17 = some 8 := by kernel_rfl
@[simp] theorem sz_18 : szOf Try.prog 18 = some 1 := by kernel_rfl
@[simp] theorem ag_18 : aggOf Try.prog 18 = some true := by kernel_rfl
@[simp] theorem zo_18 : zOf Try.prog 18 = some (.agg [.nilp]) := by kernel_rfl
@[simp] theorem ft_18 : ftOf Try.prog 18 = some (1, [(17, 0, 1)]) := by kernel_rfl
@[simp] theorem fd_18_0 : fldOf Try.prog 18 0 = some (0, 1, false) := by kernel_rfl
@[simp] theorem bd_18 : bldOf Try.prog 18 = some ([(0, 1)], [.nilp]) := by kernel_rfl
@[simp] theorem by_18 : byOf Try.prog 18 = some 8 := by kernel_rfl
@[simp] theorem sz_19 : szOf Try.prog 19 = some 1 := by kernel_rfl
@[simp] theorem ag_19 : aggOf Try.prog 19 = some true := by kernel_rfl
@[simp] theorem zo_19 : zOf Try.prog 19 = some (.agg [.nilp]) := by kernel_rfl
@[simp] theorem ft_19 : ftOf Try.prog 19 = some (1, [(17, 0, 1)]) := by kernel_rfl
@[simp] theorem fd_19_0 : fldOf Try.prog 19 0 = some (0, 1, false) := by kernel_rfl
@[simp] theorem bd_19 : bldOf Try.prog 19 = some ([(0, 1)], [.nilp]) := by kernel_rfl
@[simp] theorem by_19 : byOf Try.prog 19 = some 8 := by kernel_rfl
@[simp] theorem sz_21 : szOf Try.prog 21 = some 1 := by kernel_rfl
@[simp] theorem ag_21 : aggOf Try.prog 21 = some false := by kernel_rfl
@[simp] theorem zo_21 : zOf Try.prog 21 = some (.int .i32 0) := by kernel_rfl
@[simp] theorem un_21 : Try.prog.underlying 21 = some (.int .i32) := by kernel_rfl
@[simp] theorem by_21 : byOf Try.prog 21 = some 4 := by kernel_rfl
@[simp] theorem sz_22 : szOf Try.prog 22 = some 1 := by kernel_rfl
@[simp] theorem ag_22 : aggOf Try.prog 22 = some false := by kernel_rfl
@[simp] theorem zo_22 : zOf Try.prog 22 = some (.sl .exact []) := by kernel_rfl
@[simp] theorem sl_22 : slOf Try.prog 22 = some (3, 1) := by kernel_rfl
@[simp] theorem li_22 : litOf Try.prog 22 = some (false, 1, [.int .i64 0]) := by kernel_rfl
@[simp] theorem un_22 : Try.prog.underlying 22 = some (.slice 3) := by kernel_rfl
@[simp] theorem by_22 : byOf Try.prog 22 = some 24 := by kernel_rfl
@[simp] theorem sz_23 : szOf Try.prog 23 = some 1 := by kernel_rfl
@[simp] theorem ag_23 : aggOf Try.prog 23 = some false := by kernel_rfl
@[simp] theorem zo_23 : zOf Try.prog 23 = some (.nilf) := by kernel_rfl
@[simp] theorem by_23 : byOf Try.prog 23 = some 8 := by kernel_rfl
@[simp] theorem sz_24 : szOf Try.prog 24 = some 1 := by kernel_rfl
@[simp] theorem ag_24 : aggOf Try.prog 24 = some false := by kernel_rfl
@[simp] theorem zo_24 : zOf Try.prog 24 = some (.nilf) := by kernel_rfl
@[simp] theorem by_24 : byOf Try.prog 24 = some 8 := by kernel_rfl
@[simp] theorem sz_25 : szOf Try.prog 25 = some 1 := by kernel_rfl
@[simp] theorem ag_25 : aggOf Try.prog 25 = some false := by kernel_rfl
@[simp] theorem zo_25 : zOf Try.prog 25 = some (.nilf) := by kernel_rfl
@[simp] theorem by_25 : byOf Try.prog 25 = some 8 := by kernel_rfl
@[simp] theorem sz_26 : szOf Try.prog 26 = some 1 := by kernel_rfl
@[simp] theorem ag_26 : aggOf Try.prog 26 = some false := by kernel_rfl
@[simp] theorem zo_26 : zOf Try.prog 26 = some (.nilf) := by kernel_rfl
@[simp] theorem by_26 : byOf Try.prog 26 = some 8 := by kernel_rfl
@[simp] theorem sz_27 : szOf Try.prog 27 = some 1 := by kernel_rfl
@[simp] theorem ag_27 : aggOf Try.prog 27 = some false := by kernel_rfl
@[simp] theorem zo_27 : zOf Try.prog 27 = some (.nilf) := by kernel_rfl
@[simp] theorem by_27 : byOf Try.prog 27 = some 8 := by kernel_rfl
@[simp] theorem sz_28 : szOf Try.prog 28 = some 1 := by kernel_rfl
@[simp] theorem ag_28 : aggOf Try.prog 28 = some false := by kernel_rfl
@[simp] theorem zo_28 : zOf Try.prog 28 = some (.sl .exact []) := by kernel_rfl
@[simp] theorem sl_28 : slOf Try.prog 28 = some (34, 3) := by kernel_rfl
@[simp] theorem li_28 : litOf Try.prog 28 = some (true, 3, [.int .i64 0, .int .i64 0, .sl .exact []]) := by kernel_rfl
@[simp] theorem un_28 : Try.prog.underlying 28 = some (.slice 34) := by kernel_rfl
@[simp] theorem by_28 : byOf Try.prog 28 = some 24 := by kernel_rfl
@[simp] theorem sz_29 : szOf Try.prog 29 = some 2 := by kernel_rfl
@[simp] theorem ag_29 : aggOf Try.prog 29 = some true := by kernel_rfl
@[simp] theorem zo_29 : zOf Try.prog 29 = some (.agg [.int .i64 0, .sl .exact []]) := by kernel_rfl
@[simp] theorem ft_29 : ftOf Try.prog 29 = some (2, [(3, 0, 1), (28, 1, 1)]) := by kernel_rfl
@[simp] theorem fd_29_0 : fldOf Try.prog 29 0 = some (0, 1, false) := by kernel_rfl
@[simp] theorem fd_29_1 : fldOf Try.prog 29 1 = some (1, 1, false) := by kernel_rfl
@[simp] theorem bd_29 : bldOf Try.prog 29 = some ([(0, 1), (1, 1)], [.int .i64 0, .sl .exact []]) := by kernel_rfl
@[simp] theorem by_29 : byOf Try.prog 29 = some 32 := by kernel_rfl
@[simp] theorem sz_30 : szOf Try.prog 30 = some 2 := by kernel_rfl
@[simp] theorem ag_30 : aggOf Try.prog 30 = some true := by kernel_rfl
@[simp] theorem zo_30 : zOf Try.prog 30 = some (.agg [.int .i64 0, .sl .exact []]) := by kernel_rfl
@[simp] theorem ft_30 : ftOf Try.prog 30 = some (2, [(3, 0, 1), (28, 1, 1)]) := by kernel_rfl
@[simp] theorem fd_30_0 : fldOf Try.prog 30 0 = some (0, 1, false) := by kernel_rfl
@[simp] theorem fd_30_1 : fldOf Try.prog 30 1 = some (1, 1, false) := by kernel_rfl
@[simp] theorem bd_30 : bldOf Try.prog 30 = some ([(0, 1), (1, 1)], [.int .i64 0, .sl .exact []]) := by kernel_rfl
@[simp] theorem by_30 : byOf Try.prog 30 = some 32 := by kernel_rfl
@[simp] theorem sz_31 : szOf Try.prog 31 = some 1 := by kernel_rfl
@[simp] theorem ag_31 : aggOf Try.prog 31 = some false := by kernel_rfl
@[simp] theorem zo_31 : zOf Try.prog 31 = some (.nilf) := by kernel_rfl
@[simp] theorem by_31 : byOf Try.prog 31 = some 8 := by kernel_rfl
@[simp] theorem sz_32 : szOf Try.prog 32 = some 1 := by kernel_rfl
@[simp] theorem ag_32 : aggOf Try.prog 32 = some false := by kernel_rfl
@[simp] theorem zo_32 : zOf Try.prog 32 = some (.nilf) := by kernel_rfl
@[simp] theorem by_32 : byOf Try.prog 32 = some 8 := by kernel_rfl
@[simp] theorem sz_33 : szOf Try.prog 33 = some 3 := by kernel_rfl
@[simp] theorem ag_33 : aggOf Try.prog 33 = some true := by kernel_rfl
@[simp] theorem zo_33 : zOf Try.prog 33 = some (.agg [.int .i64 0, .int .i64 0, .sl .exact []]) := by kernel_rfl
@[simp] theorem ft_33 : ftOf Try.prog 33 = some (3, [(3, 0, 1), (3, 1, 1), (22, 2, 1)]) := by kernel_rfl
@[simp] theorem fd_33_0 : fldOf Try.prog 33 0 = some (0, 1, false) := by kernel_rfl
@[simp] theorem fd_33_1 : fldOf Try.prog 33 1 = some (1, 1, false) := by kernel_rfl
@[simp] theorem fd_33_2 : fldOf Try.prog 33 2 = some (2, 1, false) := by kernel_rfl
@[simp] theorem bd_33 : bldOf Try.prog 33 = some ([(0, 1), (1, 1), (2, 1)], [.int .i64 0, .int .i64 0, .sl .exact []]) := by kernel_rfl
@[simp] theorem by_33 : byOf Try.prog 33 = some 40 := by kernel_rfl
@[simp] theorem sz_34 : szOf Try.prog 34 = some 3 := by kernel_rfl
@[simp] theorem ag_34 : aggOf Try.prog 34 = some true := by kernel_rfl
@[simp] theorem zo_34 : zOf Try.prog 34 = some (.agg [.int .i64 0, .int .i64 0, .sl .exact []]) := by kernel_rfl
@[simp] theorem ft_34 : ftOf Try.prog 34 = some (3, [(3, 0, 1), (3, 1, 1), (22, 2, 1)]) := by kernel_rfl
@[simp] theorem fd_34_0 : fldOf Try.prog 34 0 = some (0, 1, false) := by kernel_rfl
@[simp] theorem fd_34_1 : fldOf Try.prog 34 1 = some (1, 1, false) := by kernel_rfl
@[simp] theorem fd_34_2 : fldOf Try.prog 34 2 = some (2, 1, false) := by kernel_rfl
@[simp] theorem bd_34 : bldOf Try.prog 34 = some ([(0, 1), (1, 1), (2, 1)], [.int .i64 0, .int .i64 0, .sl .exact []]) := by kernel_rfl
@[simp] theorem by_34 : byOf Try.prog 34 = some 40 := by kernel_rfl
@[simp] theorem sz_35 : szOf Try.prog 35 = some 1 := by kernel_rfl
@[simp] theorem ag_35 : aggOf Try.prog 35 = some false := by kernel_rfl
@[simp] theorem zo_35 : zOf Try.prog 35 = some (.nilf) := by kernel_rfl
@[simp] theorem by_35 : byOf Try.prog 35 = some 8 := by kernel_rfl
@[simp] theorem sz_36 : szOf Try.prog 36 = some 1 := by kernel_rfl
@[simp] theorem ag_36 : aggOf Try.prog 36 = some false := by kernel_rfl
@[simp] theorem zo_36 : zOf Try.prog 36 = some (.nilf) := by kernel_rfl
@[simp] theorem by_36 : byOf Try.prog 36 = some 8 := by kernel_rfl
@[simp] theorem sz_37 : szOf Try.prog 37 = some 1 := by kernel_rfl
@[simp] theorem ag_37 : aggOf Try.prog 37 = some false := by kernel_rfl
@[simp] theorem zo_37 : zOf Try.prog 37 = some (.nilf) := by kernel_rfl
@[simp] theorem by_37 : byOf Try.prog 37 = some 8 := by kernel_rfl
@[simp] theorem sz_38 : szOf Try.prog 38 = some 1 := by kernel_rfl
@[simp] theorem ag_38 : aggOf Try.prog 38 = some false := by kernel_rfl
@[simp] theorem zo_38 : zOf Try.prog 38 = some (.nilf) := by kernel_rfl
@[simp] theorem by_38 : byOf Try.prog 38 = some 8 := by kernel_rfl
@[simp] theorem sz_39 : szOf Try.prog 39 = some 1 := by kernel_rfl
@[simp] theorem ag_39 : aggOf Try.prog 39 = some false := by kernel_rfl
@[simp] theorem zo_39 : zOf Try.prog 39 = some (.nilf) := by kernel_rfl
@[simp] theorem by_39 : byOf Try.prog 39 = some 8 := by kernel_rfl
@[simp] theorem sz_40 : szOf Try.prog 40 = some 1 := by kernel_rfl
@[simp] theorem ag_40 : aggOf Try.prog 40 = some false := by kernel_rfl
@[simp] theorem zo_40 : zOf Try.prog 40 = some (.sl .exact []) := by kernel_rfl
@[simp] theorem sl_40 : slOf Try.prog 40 = some (106, 2) := by kernel_rfl
@[simp] theorem li_40 : litOf Try.prog 40 = some (true, 2, [.str ⟨#[]⟩, .int .i64 0]) := by kernel_rfl
@[simp] theorem un_40 : Try.prog.underlying 40 = some (.slice 106) := by kernel_rfl
@[simp] theorem by_40 : byOf Try.prog 40 = some 24 := by kernel_rfl
@[simp] theorem sz_41 : szOf Try.prog 41 = some 1 := by kernel_rfl
@[simp] theorem ag_41 : aggOf Try.prog 41 = some false := by kernel_rfl
@[simp] theorem zo_41 : zOf Try.prog 41 = some (.sl .exact []) := by kernel_rfl
@[simp] theorem sl_41 : slOf Try.prog 41 = some (108, 1) := by kernel_rfl
@[simp] theorem li_41 : litOf Try.prog 41 = some (false, 1, [.sl .exact []]) := by kernel_rfl
@[simp] theorem un_41 : Try.prog.underlying 41 = some (.slice 108) := by kernel_rfl
@[simp] theorem by_41 : byOf Try.prog 41 = some 24 := by kernel_rfl
@[simp] theorem sz_42 : szOf Try.prog 42 = some 3 := by kernel_rfl
@[simp] theorem ag_42 : aggOf Try.prog 42 = some true := by kernel_rfl
@[simp] theorem zo_42 : zOf Try.prog 42 = some (.agg [.str ⟨#[]⟩, .sl .exact [], .sl .exact []]) := by kernel_rfl
@[simp] theorem ft_42 : ftOf Try.prog 42 = some (3, [(9, 0, 1), (40, 1, 1), (41, 2, 1)]) := by kernel_rfl
@[simp] theorem fd_42_0 : fldOf Try.prog 42 0 = some (0, 1, false) := by kernel_rfl
@[simp] theorem fd_42_1 : fldOf Try.prog 42 1 = some (1, 1, false) := by kernel_rfl
@[simp] theorem fd_42_2 : fldOf Try.prog 42 2 = some (2, 1, false) := by kernel_rfl
@[simp] theorem bd_42 : bldOf Try.prog 42 = some ([(0, 1), (1, 1), (2, 1)], [.str ⟨#[]⟩, .sl .exact [], .sl .exact []]) := by kernel_rfl
@[simp] theorem by_42 : byOf Try.prog 42 = some 64 := by kernel_rfl
@[simp] theorem sz_43 : szOf Try.prog 43 = some 3 := by kernel_rfl
@[simp] theorem ag_43 : aggOf Try.prog 43 = some true := by kernel_rfl
@[simp] theorem zo_43 : zOf Try.prog 43 = some (.agg [.str ⟨#[]⟩, .sl .exact [], .sl .exact []]) := by kernel_rfl
@[simp] theorem ft_43 : ftOf Try.prog 43 = some (3, [(9, 0, 1), (40, 1, 1), (41, 2, 1)]) := by kernel_rfl
@[simp] theorem fd_43_0 : fldOf Try.prog 43 0 = some (0, 1, false) := by kernel_rfl
@[simp] theorem fd_43_1 : fldOf Try.prog 43 1 = some (1, 1, false) := by kernel_rfl
@[simp] theorem fd_43_2 : fldOf Try.prog 43 2 = some (2, 1, false) := by kernel_rfl
@[simp] theorem bd_43 : bldOf Try.prog 43 = some ([(0, 1), (1, 1), (2, 1)], [.str ⟨#[]⟩, .sl .exact [], .sl .exact []]) := by kernel_rfl
@[simp] theorem by_43 : byOf Try.prog 43 = some 64 := by kernel_rfl
@[simp] theorem sz_44 : szOf Try.prog 44 = some 1 := by kernel_rfl
@[simp] theorem ag_44 : aggOf Try.prog 44 = some false := by kernel_rfl
@[simp] theorem zo_44 : zOf Try.prog 44 = some (.nilf) := by kernel_rfl
@[simp] theorem by_44 : byOf Try.prog 44 = some 8 := by kernel_rfl
@[simp] theorem sz_45 : szOf Try.prog 45 = some 1 := by kernel_rfl
@[simp] theorem ag_45 : aggOf Try.prog 45 = some false := by kernel_rfl
@[simp] theorem zo_45 : zOf Try.prog 45 = some (.sl .exact []) := by kernel_rfl
@[simp] theorem sl_45 : slOf Try.prog 45 = some (43, 3) := by kernel_rfl
@[simp] theorem li_45 : litOf Try.prog 45 = some (true, 3, [.str ⟨#[]⟩, .sl .exact [], .sl .exact []]) := by kernel_rfl
@[simp] theorem un_45 : Try.prog.underlying 45 = some (.slice 43) := by kernel_rfl
@[simp] theorem by_45 : byOf Try.prog 45 = some 24 := by kernel_rfl
@[simp] theorem sz_46 : szOf Try.prog 46 = some 1 := by kernel_rfl
@[simp] theorem ag_46 : aggOf Try.prog 46 = some false := by kernel_rfl
@[simp] theorem zo_46 : zOf Try.prog 46 = some (.nilf) := by kernel_rfl
@[simp] theorem by_46 : byOf Try.prog 46 = some 8 := by kernel_rfl
@[simp] theorem sz_47 : szOf Try.prog 47 = some 1 := by kernel_rfl
@[simp] theorem ag_47 : aggOf Try.prog 47 = some false := by kernel_rfl
@[simp] theorem zo_47 : zOf Try.prog 47 = some (.nilf) := by kernel_rfl
@[simp] theorem by_47 : byOf Try.prog 47 = some 8 := by kernel_rfl
@[simp] theorem sz_48 : szOf Try.prog 48 = some 1 := by kernel_rfl
@[simp] theorem ag_48 : aggOf Try.prog 48 = some false := by kernel_rfl
@[simp] theorem zo_48 : zOf Try.prog 48 = some (.sl .exact []) := by kernel_rfl
@[simp] theorem sl_48 : slOf Try.prog 48 = some (53, 9) := by kernel_rfl
@[simp] theorem li_48 : litOf Try.prog 48 = some (true, 9, [.int .i64 0, .str ⟨#[]⟩, .str ⟨#[]⟩, .int .i64 0, .int .i64 0, .int .i64 0, .int .i64 0, .str ⟨#[]⟩, .sl .exact []]) := by kernel_rfl
@[simp] theorem un_48 : Try.prog.underlying 48 = some (.slice 53) := by kernel_rfl
@[simp] theorem by_48 : byOf Try.prog 48 = some 24 := by kernel_rfl
@[simp] theorem sz_49 : szOf Try.prog 49 = some 1 := by kernel_rfl
@[simp] theorem ag_49 : aggOf Try.prog 49 = some false := by kernel_rfl
@[simp] theorem zo_49 : zOf Try.prog 49 = some (.sl .exact []) := by kernel_rfl
@[simp] theorem sl_49 : slOf Try.prog 49 = some (113, 12) := by kernel_rfl
@[simp] theorem li_49 : litOf Try.prog 49 = some (true, 12, [.int .i64 0, .str ⟨#[]⟩, .str ⟨#[]⟩, .int .i64 0, .str ⟨#[]⟩, .str ⟨#[]⟩, .int .i64 0, .int .i64 0, .int .i64 0, .int .i64 0, .str ⟨#[]⟩, .sl .exact []]) := by kernel_rfl
@[simp] theorem un_49 : Try.prog.underlying 49 = some (.slice 113) := by kernel_rfl
@[simp] theorem by_49 : byOf Try.prog 49 = some 24 := by kernel_rfl
@[simp] theorem sz_50 : szOf Try.prog 50 = some 3 := by kernel_rfl
@[simp] theorem ag_50 : aggOf Try.prog 50 = some true := by kernel_rfl
@[simp] theorem zo_50 : zOf Try.prog 50 = some (.agg [.int .i64 0, .int .i64 0, .str ⟨#[]⟩]) := by kernel_rfl
@[simp] theorem ft_50 : ftOf Try.prog 50 = some (3, [(3, 0, 1), (3, 1, 1), (9, 2, 1)]) := by kernel_rfl
@[simp] theorem fd_50_0 : fldOf Try.prog 50 0 = some (0, 1, false) := by kernel_rfl
@[simp] theorem fd_50_1 : fldOf Try.prog 50 1 = some (1, 1, false) := by kernel_rfl
@[simp] theorem fd_50_2 : fldOf Try.prog 50 2 = some (2, 1, false) := by kernel_rfl
@[simp] theorem bd_50 : bldOf Try.prog 50 = some ([(0, 1), (1, 1), (2, 1)], [.int .i64 0, .int .i64 0, .str ⟨#[]⟩]) := by kernel_rfl
@[simp] theorem by_50 : byOf Try.prog 50 = some 32 := by kernel_rfl
@[simp] theorem sz_51 : szOf Try.prog 51 = some 3 := by kernel_rfl
@[simp] theorem ag_51 : aggOf Try.prog 51 = some true := by kernel_rfl
@[simp] theorem zo_51 : zOf Try.prog 51 = some (.agg [.int .i64 0, .int .i64 0, .str ⟨#[]⟩]) := by kernel_rfl
@[simp] theorem ft_51 : ftOf Try.prog 51 = some (3, [(3, 0, 1), (3, 1, 1), (9, 2, 1)]) := by kernel_rfl
@[simp] theorem fd_51_0 : fldOf Try.prog 51 0 = some (0, 1, false) := by kernel_rfl
@[simp] theorem fd_51_1 : fldOf Try.prog 51 1 = some (1, 1, false) := by kernel_rfl
@[simp] theorem fd_51_2 : fldOf Try.prog 51 2 = some (2, 1, false) := by kernel_rfl
@[simp] theorem bd_51 : bldOf Try.prog 51 = some ([(0, 1), (1, 1), (2, 1)], [.int .i64 0, .int .i64 0, .str ⟨#[]⟩]) := by kernel_rfl
@[simp] theorem eqt_51 {a0 b0 : Int} {a1 b1 : Int} {a2 b2 : ByteArray} : EqT Try.prog 51 [.int .i64 a0, .int .i64 a1, .str a2] [.int .i64 b0, .int .i64 b1, .str b2] = True := eq_true (EqT.flat [.int, .int, .str] (by kernel_rfl) rfl rfl (by simp [kindsFit]))
@[simp] theorem by_51 : byOf Try.prog 51 = some 32 := by kernel_rfl
@[simp] theorem sz_52 : szOf Try.prog 52 = some 9 := by kernel_rfl
@[simp] theorem ag_52 : aggOf Try.prog 52 = some true := by kernel_rfl
@[simp] theorem zo_52 : zOf Try.prog 52 = some (.agg [.int .i64 0, .str ⟨#[]⟩, .str ⟨#[]⟩, .int .i64 0, .int .i64 0, .int .i64 0, .int .i64 0, .str ⟨#[]⟩, .sl .exact []]) := by kernel_rfl
@[simp] theorem ft_52 : ftOf Try.prog 52 = some (9, [(3, 0, 1), (9, 1, 1), (9, 2, 1), (3, 3, 1), (3, 4, 1), (51, 5, 3), (48, 8, 1)]) := by kernel_rfl
@[simp] theorem fd_52_0 : fldOf Try.prog 52 0 = some (0, 1, false) := by kernel_rfl
@[simp] theorem fd_52_1 : fldOf Try.prog 52 1 = some (1, 1, false) := by kernel_rfl
@[simp] theorem fd_52_2 : fldOf Try.prog 52 2 = some (2, 1, false) := by kernel_rfl
@[simp] theorem fd_52_3 : fldOf Try.prog 52 3 = some (3, 1, false) := by kernel_rfl
@[simp] theorem fd_52_4 : fldOf Try.prog 52 4 = some (4, 1, false) := by kernel_rfl
@[simp] theorem fd_52_5 : fldOf Try.prog 52 5 = some (5, 3, true) := by kernel_rfl
@[simp] theorem fd_52_6 : fldOf Try.prog 52 6 = some (8, 1, false) := by kernel_rfl
@[simp] theorem bd_52 : bldOf Try.prog 52 = some ([(0, 1), (1, 1), (2, 1), (3, 1), (4, 1), (5, 3), (8, 1)], [.int .i64 0, .str ⟨#[]⟩, .str ⟨#[]⟩, .int .i64 0, .int .i64 0, .int .i64 0, .int .i64 0, .str ⟨#[]⟩, .sl .exact []]) := by kernel_rfl
@[simp] theorem by_52 : byOf Try.prog 52 = some 112 := by kernel_rfl
@[simp] theorem sz_53 : szOf Try.prog 53 = some 9 := by kernel_rfl
@[simp] theorem ag_53 : aggOf Try.prog 53 = some true := by kernel_rfl
@[simp] theorem zo_53 : zOf Try.prog 53 = some (.agg [.int .i64 0, .str ⟨#[]⟩, .str ⟨#[]⟩, .int .i64 0, .int .i64 0, .int .i64 0, .int .i64 0, .str ⟨#[]⟩, .sl .exact []]) := by kernel_rfl
@[simp] theorem ft_53 : ftOf Try.prog 53 = some (9, [(3, 0, 1), (9, 1, 1), (9, 2, 1), (3, 3, 1), (3, 4, 1), (51, 5, 3), (48, 8, 1)]) := by kernel_rfl
@[simp] theorem fd_53_0 : fldOf Try.prog 53 0 = some (0, 1, false) := by kernel_rfl
@[simp] theorem fd_53_1 : fldOf Try.prog 53 1 = some (1, 1, false) := by kernel_rfl
@[simp] theorem fd_53_2 : fldOf Try.prog 53 2 = some (2, 1, false) := by kernel_rfl
@[simp] theorem fd_53_3 : fldOf Try.prog 53 3 = some (3, 1, false) := by kernel_rfl
@[simp] theorem fd_53_4 : fldOf Try.prog 53 4 = some (4, 1, false) := by kernel_rfl
@[simp] theorem fd_53_5 : fldOf Try.prog 53 5 = some (5, 3, true) := by kernel_rfl
@[simp] theorem fd_53_6 : fldOf Try.prog 53 6 = some (8, 1, false) := by kernel_rfl
@[simp] theorem bd_53 : bldOf Try.prog 53 = some ([(0, 1), (1, 1), (2, 1), (3, 1), (4, 1), (5, 3), (8, 1)], [.int .i64 0, .str ⟨#[]⟩, .str ⟨#[]⟩, .int .i64 0, .int .i64 0, .int .i64 0, .int .i64 0, .str ⟨#[]⟩, .sl .exact []]) := by kernel_rfl
@[simp] theorem by_53 : byOf Try.prog 53 = some 112 := by kernel_rfl
@[simp] theorem sz_54 : szOf Try.prog 54 = some 12 := by kernel_rfl
@[simp] theorem ag_54 : aggOf Try.prog 54 = some true := by kernel_rfl
@[simp] theorem zo_54 : zOf Try.prog 54 = some (.agg [.sl .exact [], .sl .exact [], .int .i64 0, .str ⟨#[]⟩, .str ⟨#[]⟩, .int .i64 0, .int .i64 0, .int .i64 0, .int .i64 0, .str ⟨#[]⟩, .sl .exact [], .sl .exact []]) := by kernel_rfl
@[simp] theorem ft_54 : ftOf Try.prog 54 = some (12, [(48, 0, 1), (49, 1, 1), (53, 2, 9), (48, 11, 1)]) := by kernel_rfl
@[simp] theorem fd_54_0 : fldOf Try.prog 54 0 = some (0, 1, false) := by kernel_rfl
@[simp] theorem fd_54_1 : fldOf Try.prog 54 1 = some (1, 1, false) := by kernel_rfl
@[simp] theorem fd_54_2 : fldOf Try.prog 54 2 = some (2, 9, true) := by kernel_rfl
@[simp] theorem fd_54_3 : fldOf Try.prog 54 3 = some (11, 1, false) := by kernel_rfl
@[simp] theorem bd_54 : bldOf Try.prog 54 = some ([(0, 1), (1, 1), (2, 9), (11, 1)], [.sl .exact [], .sl .exact [], .int .i64 0, .str ⟨#[]⟩, .str ⟨#[]⟩, .int .i64 0, .int .i64 0, .int .i64 0, .int .i64 0, .str ⟨#[]⟩, .sl .exact [], .sl .exact []]) := by kernel_rfl
@[simp] theorem by_54 : byOf Try.prog 54 = some 184 := by kernel_rfl
@[simp] theorem sz_55 : szOf Try.prog 55 = some 12 := by kernel_rfl
@[simp] theorem ag_55 : aggOf Try.prog 55 = some true := by kernel_rfl
@[simp] theorem zo_55 : zOf Try.prog 55 = some (.agg [.sl .exact [], .sl .exact [], .int .i64 0, .str ⟨#[]⟩, .str ⟨#[]⟩, .int .i64 0, .int .i64 0, .int .i64 0, .int .i64 0, .str ⟨#[]⟩, .sl .exact [], .sl .exact []]) := by kernel_rfl
@[simp] theorem ft_55 : ftOf Try.prog 55 = some (12, [(48, 0, 1), (49, 1, 1), (53, 2, 9), (48, 11, 1)]) := by kernel_rfl
@[simp] theorem fd_55_0 : fldOf Try.prog 55 0 = some (0, 1, false) := by kernel_rfl
@[simp] theorem fd_55_1 : fldOf Try.prog 55 1 = some (1, 1, false) := by kernel_rfl
@[simp] theorem fd_55_2 : fldOf Try.prog 55 2 = some (2, 9, true) := by kernel_rfl
@[simp] theorem fd_55_3 : fldOf Try.prog 55 3 = some (11, 1, false) := by kernel_rfl
@[simp] theorem bd_55 : bldOf Try.prog 55 = some ([(0, 1), (1, 1), (2, 9), (11, 1)], [.sl .exact [], .sl .exact [], .int .i64 0, .str ⟨#[]⟩, .str ⟨#[]⟩, .int .i64 0, .int .i64 0, .int .i64 0, .int .i64 0, .str ⟨#[]⟩, .sl .exact [], .sl .exact []]) := by kernel_rfl
@[simp] theorem by_55 : byOf Try.prog 55 = some 184 := by kernel_rfl
@[simp] theorem sz_56 : szOf Try.prog 56 = some 1 := by kernel_rfl
@[simp] theorem ag_56 : aggOf Try.prog 56 = some false := by kernel_rfl
@[simp] theorem zo_56 : zOf Try.prog 56 = some (.nilf) := by kernel_rfl
@[simp] theorem by_56 : byOf Try.prog 56 = some 8 := by kernel_rfl
@[simp] theorem sz_57 : szOf Try.prog 57 = some 1 := by kernel_rfl
@[simp] theorem ag_57 : aggOf Try.prog 57 = some false := by kernel_rfl
@[simp] theorem zo_57 : zOf Try.prog 57 = some (.nilf) := by kernel_rfl
@[simp] theorem by_57 : byOf Try.prog 57 = some 8 := by kernel_rfl
@[simp] theorem sz_58 : szOf Try.prog 58 = some 4 := by kernel_rfl
@[simp] theorem ag_58 : aggOf Try.prog 58 = some true := by kernel_rfl
@[simp] theorem zo_58 : zOf Try.prog 58 = some (.agg [.int .i64 0, .int .i64 0, .int .i64 0, .int .i64 0]) := by kernel_rfl
@[simp] theorem ft_58 : ftOf Try.prog 58 = some (4, [(3, 0, 1), (3, 1, 1), (3, 2, 1), (3, 3, 1)]) := by kernel_rfl
@[simp] theorem fd_58_0 : fldOf Try.prog 58 0 = some (0, 1, false) := by kernel_rfl
@[simp] theorem fd_58_1 : fldOf Try.prog 58 1 = some (1, 1, false) := by kernel_rfl
@[simp] theorem fd_58_2 : fldOf Try.prog 58 2 = some (2, 1, false) := by kernel_rfl
@[simp] theorem fd_58_3 : fldOf Try.prog 58 3 = some (3, 1, false) := by kernel_rfl
@[simp] theorem bd_58 : bldOf Try.prog 58 = some ([(0, 1), (1, 1), (2, 1), (3, 1)], [.int .i64 0, .int .i64 0, .int .i64 0, .int .i64 0]) := by kernel_rfl
@[simp] theorem by_58 : byOf Try.prog 58 = some 32 := by kernel_rfl
@[simp] theorem sz_59 : szOf Try.prog 59 = some 4 := by kernel_rfl
@[simp] theorem ag_59 : aggOf Try.prog 59 = some true := by kernel_rfl
@[simp] theorem zo_59 : zOf Try.prog 59 = some (.agg [.int .i64 0, .int .i64 0, .int .i64 0, .int .i64 0]) := by kernel_rfl
@[simp] theorem ft_59 : ftOf Try.prog 59 = some (4, [(3, 0, 1), (3, 1, 1), (3, 2, 1), (3, 3, 1)]) := by kernel_rfl
@[simp] theorem fd_59_0 : fldOf Try.prog 59 0 = some (0, 1, false) := by kernel_rfl
@[simp] theorem fd_59_1 : fldOf Try.prog 59 1 = some (1, 1, false) := by kernel_rfl
@[simp] theorem fd_59_2 : fldOf Try.prog 59 2 = some (2, 1, false) := by kernel_rfl
@[simp] theorem fd_59_3 : fldOf Try.prog 59 3 = some (3, 1, false) := by kernel_rfl
@[simp] theorem bd_59 : bldOf Try.prog 59 = some ([(0, 1), (1, 1), (2, 1), (3, 1)], [.int .i64 0, .int .i64 0, .int .i64 0, .int .i64 0]) := by kernel_rfl
@[simp] theorem eqt_59 {a0 b0 : Int} {a1 b1 : Int} {a2 b2 : Int} {a3 b3 : Int} : EqT Try.prog 59 [.int .i64 a0, .int .i64 a1, .int .i64 a2, .int .i64 a3] [.int .i64 b0, .int .i64 b1, .int .i64 b2, .int .i64 b3] = True := eq_true (EqT.flat [.int, .int, .int, .int] (by kernel_rfl) rfl rfl (by simp [kindsFit]))
@[simp] theorem by_59 : byOf Try.prog 59 = some 32 := by kernel_rfl
@[simp] theorem sz_61 : szOf Try.prog 61 = some 1 := by kernel_rfl
@[simp] theorem ag_61 : aggOf Try.prog 61 = some false := by kernel_rfl
@[simp] theorem zo_61 : zOf Try.prog 61 = some (.nilf) := by kernel_rfl
@[simp] theorem by_61 : byOf Try.prog 61 = some 8 := by kernel_rfl
@[simp] theorem sz_62 : szOf Try.prog 62 = some 1 := by kernel_rfl
@[simp] theorem ag_62 : aggOf Try.prog 62 = some false := by kernel_rfl
@[simp] theorem zo_62 : zOf Try.prog 62 = some (.nilf) := by kernel_rfl
@[simp] theorem by_62 : byOf Try.prog 62 = some 8 := by kernel_rfl
@[simp] theorem sz_63 : szOf Try.prog 63 = some 1 := by kernel_rfl
@[simp] theorem ag_63 : aggOf Try.prog 63 = some false := by kernel_rfl
@[simp] theorem zo_63 : zOf Try.prog 63 = some (.nilf) := by kernel_rfl
@[simp] theorem by_63 : byOf Try.prog 63 = some 8 := by kernel_rfl
@[simp] theorem sz_64 : szOf Try.prog 64 = some 1 := by kernel_rfl
@[simp] theorem ag_64 : aggOf Try.prog 64 = some false := by kernel_rfl
@[simp] theorem zo_64 : zOf Try.prog 64 = some (.sl .exact []) := by kernel_rfl
@[simp] theorem sl_64 : slOf Try.prog 64 = some (48, 1) := by kernel_rfl
@[simp] theorem li_64 : litOf Try.prog 64 = some (false, 1, [.sl .exact []]) := by kernel_rfl
@[simp] theorem un_64 : Try.prog.underlying 64 = some (.slice 48) := by kernel_rfl
@[simp] theorem by_64 : byOf Try.prog 64 = some 24 := by kernel_rfl
@[simp] theorem sz_65 : szOf Try.prog 65 = some 1 := by kernel_rfl
@[simp] theorem ag_65 : aggOf Try.prog 65 = some false := by kernel_rfl
@[simp] theorem zo_65 : zOf Try.prog 65 = some (.sl .exact []) := by kernel_rfl
@[simp] theorem sl_65 : slOf Try.prog 65 = some (59, 4) := by kernel_rfl
@[simp] theorem li_65 : litOf Try.prog 65 = some (true, 4, [.int .i64 0, .int .i64 0, .int .i64 0, .int .i64 0]) := by kernel_rfl
@[simp] theorem un_65 : Try.prog.underlying 65 = some (.slice 59) := by kernel_rfl
@[simp] theorem by_65 : byOf Try.prog 65 = some 24 := by kernel_rfl
@[simp] theorem sz_66 : szOf Try.prog 66 = some 1 := by kernel_rfl
@[simp] theorem ag_66 : aggOf Try.prog 66 = some false := by kernel_rfl
@[simp] theorem zo_66 : zOf Try.prog 66 = some (.sl .exact []) := by kernel_rfl
@[simp] theorem sl_66 : slOf Try.prog 66 = some (117, 5) := by kernel_rfl
@[simp] theorem li_66 : litOf Try.prog 66 = some (true, 5, [.int .i64 0, .int .i64 0, .sl .exact [], .sl .exact [], .sl .exact []]) := by kernel_rfl
@[simp] theorem un_66 : Try.prog.underlying 66 = some (.slice 117) := by kernel_rfl
@[simp] theorem by_66 : byOf Try.prog 66 = some 24 := by kernel_rfl
@[simp] theorem sz_67 : szOf Try.prog 67 = some 6 := by kernel_rfl
@[simp] theorem ag_67 : aggOf Try.prog 67 = some true := by kernel_rfl
@[simp] theorem zo_67 : zOf Try.prog 67 = some (.agg [.int .i64 0, .sl .exact [], .sl .exact [], .sl .exact [], .sl .exact [], .sl .exact []]) := by kernel_rfl
@[simp] theorem ft_67 : ftOf Try.prog 67 = some (6, [(3, 0, 1), (64, 1, 1), (65, 2, 1), (48, 3, 1), (66, 4, 1), (48, 5, 1)]) := by kernel_rfl
@[simp] theorem fd_67_0 : fldOf Try.prog 67 0 = some (0, 1, false) := by kernel_rfl
@[simp] theorem fd_67_1 : fldOf Try.prog 67 1 = some (1, 1, false) := by kernel_rfl
@[simp] theorem fd_67_2 : fldOf Try.prog 67 2 = some (2, 1, false) := by kernel_rfl
@[simp] theorem fd_67_3 : fldOf Try.prog 67 3 = some (3, 1, false) := by kernel_rfl
@[simp] theorem fd_67_4 : fldOf Try.prog 67 4 = some (4, 1, false) := by kernel_rfl
@[simp] theorem fd_67_5 : fldOf Try.prog 67 5 = some (5, 1, false) := by kernel_rfl
@[simp] theorem bd_67 : bldOf Try.prog 67 = some ([(0, 1), (1, 1), (2, 1), (3, 1), (4, 1), (5, 1)], [.int .i64 0, .sl .exact [], .sl .exact [], .sl .exact [], .sl .exact [], .sl .exact []]) := by kernel_rfl
@[simp] theorem by_67 : byOf Try.prog 67 = some 128 := by kernel_rfl
@[simp] theorem sz_68 : szOf Try.prog 68 = some 6 := by kernel_rfl
@[simp] theorem ag_68 : aggOf Try.prog 68 = some true := by kernel_rfl
@[simp] theorem zo_68 : zOf Try.prog 68 = some (.agg [.int .i64 0, .sl .exact [], .sl .exact [], .sl .exact [], .sl .exact [], .sl .exact []]) := by kernel_rfl
@[simp] theorem ft_68 : ftOf Try.prog 68 = some (6, [(3, 0, 1), (64, 1, 1), (65, 2, 1), (48, 3, 1), (66, 4, 1), (48, 5, 1)]) := by kernel_rfl
@[simp] theorem fd_68_0 : fldOf Try.prog 68 0 = some (0, 1, false) := by kernel_rfl
@[simp] theorem fd_68_1 : fldOf Try.prog 68 1 = some (1, 1, false) := by kernel_rfl
@[simp] theorem fd_68_2 : fldOf Try.prog 68 2 = some (2, 1, false) := by kernel_rfl
@[simp] theorem fd_68_3 : fldOf Try.prog 68 3 = some (3, 1, false) := by kernel_rfl
@[simp] theorem fd_68_4 : fldOf Try.prog 68 4 = some (4, 1, false) := by kernel_rfl
@[simp] theorem fd_68_5 : fldOf Try.prog 68 5 = some (5, 1, false) := by kernel_rfl
@[simp] theorem bd_68 : bldOf Try.prog 68 = some ([(0, 1), (1, 1), (2, 1), (3, 1), (4, 1), (5, 1)], [.int .i64 0, .sl .exact [], .sl .exact [], .sl .exact [], .sl .exact [], .sl .exact []]) := by kernel_rfl
@[simp] theorem by_68 : byOf Try.prog 68 = some 128 := by kernel_rfl
@[simp] theorem sz_69 : szOf Try.prog 69 = some 1 := by kernel_rfl
@[simp] theorem ag_69 : aggOf Try.prog 69 = some false := by kernel_rfl
@[simp] theorem zo_69 : zOf Try.prog 69 = some (.nilf) := by kernel_rfl
@[simp] theorem by_69 : byOf Try.prog 69 = some 8 := by kernel_rfl
@[simp] theorem sz_70 : szOf Try.prog 70 = some 1 := by kernel_rfl
@[simp] theorem ag_70 : aggOf Try.prog 70 = some false := by kernel_rfl
@[simp] theorem zo_70 : zOf Try.prog 70 = some (.nilf) := by kernel_rfl
@[simp] theorem by_70 : byOf Try.prog 70 = some 8 := by kernel_rfl
@[simp] theorem sz_71 : szOf Try.prog 71 = some 1 := by kernel_rfl
@[simp] theorem ag_71 : aggOf Try.prog 71 = some false := by kernel_rfl
@[simp] theorem zo_71 : zOf Try.prog 71 = some (.nilf) := by kernel_rfl
@[simp] theorem by_71 : byOf Try.prog 71 = some 8 := by kernel_rfl
@[simp] theorem sz_72 : szOf Try.prog 72 = some 1 := by kernel_rfl
@[simp] theorem ag_72 : aggOf Try.prog 72 = some false := by kernel_rfl
@[simp] theorem zo_72 : zOf Try.prog 72 = some (.nilf) := by kernel_rfl
@[simp] theorem by_72 : byOf Try.prog 72 = some 8 := by kernel_rfl
@[simp] theorem sz_73 : szOf Try.prog 73 = some 1 := by kernel_rfl
@[simp] theorem ag_73 : aggOf Try.prog 73 = some false := by kernel_rfl
@[simp] theorem zo_73 : zOf Try.prog 73 = some (.nilf) := by kernel_rfl
@[simp] theorem by_73 : byOf Try.prog 73 = some 8 := by kernel_rfl
@[simp] theorem sz_74 : szOf Try.prog 74 = some 1 := by kernel_rfl
@[simp] theorem ag_74 : aggOf Try.prog 74 = some false := by kernel_rfl
@[simp] theorem zo_74 : zOf Try.prog 74 = some (.nilp) := by kernel_rfl
@[simp] theorem un_74 : Try.prog.underlying 74 = some (.pointer 125) := by kernel_rfl
@[simp] theorem by_74 : byOf Try.prog 74 = some 8 := by kernel_rfl
@[simp] theorem sz_75 : szOf Try.prog 75 = some 1 := by kernel_rfl
@[simp] theorem ag_75 : aggOf Try.prog 75 = some false := by kernel_rfl
@[simp] theorem zo_75 : zOf Try.prog 75 = some (.nilf) := by kernel_rfl
@[simp] theorem by_75 : byOf Try.prog 75 = some 8 := by kernel_rfl
@[simp] theorem sz_76 : szOf Try.prog 76 = some 1 := by kernel_rfl
@[simp] theorem ag_76 : aggOf Try.prog 76 = some false := by kernel_rfl
@[simp] theorem zo_76 : zOf Try.prog 76 = some (.nilf) := by kernel_rfl
@[simp] theorem by_76 : byOf Try.prog 76 = some 8 := by kernel_rfl
@[simp] theorem sz_77 : szOf Try.prog 77 = some 1 := by kernel_rfl
@[simp] theorem ag_77 : aggOf Try.prog 77 = some false := by kernel_rfl
@[simp] theorem zo_77 : zOf Try.prog 77 = some (.nilf) := by kernel_rfl
@[simp] theorem by_77 : byOf Try.prog 77 = some 8 := by kernel_rfl
@[simp] theorem sz_78 : szOf Try.prog 78 = some 1 := by kernel_rfl
@[simp] theorem ag_78 : aggOf Try.prog 78 = some false := by kernel_rfl
@[simp] theorem zo_78 : zOf Try.prog 78 = some (.nilf) := by kernel_rfl
@[simp] theorem by_78 : byOf Try.prog 78 = some 8 := by kernel_rfl
@[simp] theorem sz_79 : szOf Try.prog 79 = some 1 := by kernel_rfl
@[simp] theorem ag_79 : aggOf Try.prog 79 = some false := by kernel_rfl
@[simp] theorem zo_79 : zOf Try.prog 79 = some (.nilf) := by kernel_rfl
@[simp] theorem by_79 : byOf Try.prog 79 = some 8 := by kernel_rfl
@[simp] theorem sz_80 : szOf Try.prog 80 = some 1 := by kernel_rfl
@[simp] theorem ag_80 : aggOf Try.prog 80 = some false := by kernel_rfl
@[simp] theorem zo_80 : zOf Try.prog 80 = some (.nilf) := by kernel_rfl
@[simp] theorem by_80 : byOf Try.prog 80 = some 8 := by kernel_rfl
@[simp] theorem sz_81 : szOf Try.prog 81 = some 1 := by kernel_rfl
@[simp] theorem ag_81 : aggOf Try.prog 81 = some false := by kernel_rfl
@[simp] theorem zo_81 : zOf Try.prog 81 = some (.nilf) := by kernel_rfl
@[simp] theorem by_81 : byOf Try.prog 81 = some 8 := by kernel_rfl
@[simp] theorem sz_82 : szOf Try.prog 82 = some 1 := by kernel_rfl
@[simp] theorem ag_82 : aggOf Try.prog 82 = some false := by kernel_rfl
@[simp] theorem zo_82 : zOf Try.prog 82 = some (.nilf) := by kernel_rfl
@[simp] theorem by_82 : byOf Try.prog 82 = some 8 := by kernel_rfl
@[simp] theorem sz_83 : szOf Try.prog 83 = some 1 := by kernel_rfl
@[simp] theorem ag_83 : aggOf Try.prog 83 = some false := by kernel_rfl
@[simp] theorem zo_83 : zOf Try.prog 83 = some (.sl .exact []) := by kernel_rfl
@[simp] theorem sl_83 : slOf Try.prog 83 = some (135, 4) := by kernel_rfl
@[simp] theorem li_83 : litOf Try.prog 83 = some (true, 4, [.int .i64 0, .sl .exact [], .int .i64 0, .sl .exact []]) := by kernel_rfl
@[simp] theorem un_83 : Try.prog.underlying 83 = some (.slice 135) := by kernel_rfl
@[simp] theorem by_83 : byOf Try.prog 83 = some 24 := by kernel_rfl
@[simp] theorem sz_84 : szOf Try.prog 84 = some 1 := by kernel_rfl
@[simp] theorem ag_84 : aggOf Try.prog 84 = some false := by kernel_rfl
@[simp] theorem zo_84 : zOf Try.prog 84 = some (.sl .exact []) := by kernel_rfl
@[simp] theorem sl_84 : slOf Try.prog 84 = some (129, 3) := by kernel_rfl
@[simp] theorem li_84 : litOf Try.prog 84 = some (true, 3, [.sl .exact [], .sl .exact [], .sl .exact []]) := by kernel_rfl
@[simp] theorem un_84 : Try.prog.underlying 84 = some (.slice 129) := by kernel_rfl
@[simp] theorem by_84 : byOf Try.prog 84 = some 24 := by kernel_rfl
@[simp] theorem sz_85 : szOf Try.prog 85 = some 1 := by kernel_rfl
@[simp] theorem ag_85 : aggOf Try.prog 85 = some false := by kernel_rfl
@[simp] theorem zo_85 : zOf Try.prog 85 = some (.sl .exact []) := by kernel_rfl
@[simp] theorem sl_85 : slOf Try.prog 85 = some (158, 4) := by kernel_rfl
@[simp] theorem li_85 : litOf Try.prog 85 = some (true, 4, [.int .i64 0, .int .i64 0, .sl .exact [], .sl .exact []]) := by kernel_rfl
@[simp] theorem un_85 : Try.prog.underlying 85 = some (.slice 158) := by kernel_rfl
@[simp] theorem by_85 : byOf Try.prog 85 = some 24 := by kernel_rfl
@[simp] theorem sz_86 : szOf Try.prog 86 = some 6 := by kernel_rfl
@[simp] theorem ag_86 : aggOf Try.prog 86 = some true := by kernel_rfl
@[simp] theorem zo_86 : zOf Try.prog 86 = some (.agg [.sl .exact [], .sl .exact [], .sl .exact [], .sl .exact [], .sl .exact [], .sl .exact []]) := by kernel_rfl
@[simp] theorem ft_86 : ftOf Try.prog 86 = some (6, [(22, 0, 1), (83, 1, 1), (84, 2, 1), (48, 3, 1), (85, 4, 1), (48, 5, 1)]) := by kernel_rfl
@[simp] theorem fd_86_0 : fldOf Try.prog 86 0 = some (0, 1, false) := by kernel_rfl
@[simp] theorem fd_86_1 : fldOf Try.prog 86 1 = some (1, 1, false) := by kernel_rfl
@[simp] theorem fd_86_2 : fldOf Try.prog 86 2 = some (2, 1, false) := by kernel_rfl
@[simp] theorem fd_86_3 : fldOf Try.prog 86 3 = some (3, 1, false) := by kernel_rfl
@[simp] theorem fd_86_4 : fldOf Try.prog 86 4 = some (4, 1, false) := by kernel_rfl
@[simp] theorem fd_86_5 : fldOf Try.prog 86 5 = some (5, 1, false) := by kernel_rfl
@[simp] theorem bd_86 : bldOf Try.prog 86 = some ([(0, 1), (1, 1), (2, 1), (3, 1), (4, 1), (5, 1)], [.sl .exact [], .sl .exact [], .sl .exact [], .sl .exact [], .sl .exact [], .sl .exact []]) := by kernel_rfl
@[simp] theorem by_86 : byOf Try.prog 86 = some 144 := by kernel_rfl
@[simp] theorem sz_87 : szOf Try.prog 87 = some 6 := by kernel_rfl
@[simp] theorem ag_87 : aggOf Try.prog 87 = some true := by kernel_rfl
@[simp] theorem zo_87 : zOf Try.prog 87 = some (.agg [.sl .exact [], .sl .exact [], .sl .exact [], .sl .exact [], .sl .exact [], .sl .exact []]) := by kernel_rfl
@[simp] theorem ft_87 : ftOf Try.prog 87 = some (6, [(22, 0, 1), (83, 1, 1), (84, 2, 1), (48, 3, 1), (85, 4, 1), (48, 5, 1)]) := by kernel_rfl
@[simp] theorem fd_87_0 : fldOf Try.prog 87 0 = some (0, 1, false) := by kernel_rfl
@[simp] theorem fd_87_1 : fldOf Try.prog 87 1 = some (1, 1, false) := by kernel_rfl
@[simp] theorem fd_87_2 : fldOf Try.prog 87 2 = some (2, 1, false) := by kernel_rfl
@[simp] theorem fd_87_3 : fldOf Try.prog 87 3 = some (3, 1, false) := by kernel_rfl
@[simp] theorem fd_87_4 : fldOf Try.prog 87 4 = some (4, 1, false) := by kernel_rfl
@[simp] theorem fd_87_5 : fldOf Try.prog 87 5 = some (5, 1, false) := by kernel_rfl
@[simp] theorem bd_87 : bldOf Try.prog 87 = some ([(0, 1), (1, 1), (2, 1), (3, 1), (4, 1), (5, 1)], [.sl .exact [], .sl .exact [], .sl .exact [], .sl .exact [], .sl .exact [], .sl .exact []]) := by kernel_rfl
@[simp] theorem by_87 : byOf Try.prog 87 = some 144 := by kernel_rfl
@[simp] theorem sz_88 : szOf Try.prog 88 = some 1 := by kernel_rfl
@[simp] theorem ag_88 : aggOf Try.prog 88 = some false := by kernel_rfl
@[simp] theorem zo_88 : zOf Try.prog 88 = some (.nilf) := by kernel_rfl
@[simp] theorem by_88 : byOf Try.prog 88 = some 8 := by kernel_rfl
@[simp] theorem sz_89 : szOf Try.prog 89 = some 1 := by kernel_rfl
@[simp] theorem ag_89 : aggOf Try.prog 89 = some false := by kernel_rfl
@[simp] theorem zo_89 : zOf Try.prog 89 = some (.nilf) := by kernel_rfl
@[simp] theorem by_89 : byOf Try.prog 89 = some 8 := by kernel_rfl
@[simp] theorem sz_90 : szOf Try.prog 90 = some 1 := by kernel_rfl
@[simp] theorem ag_90 : aggOf Try.prog 90 = some false := by kernel_rfl
@[simp] theorem zo_90 : zOf Try.prog 90 = some (.nilf) := by kernel_rfl
@[simp] theorem by_90 : byOf Try.prog 90 = some 8 := by kernel_rfl
@[simp] theorem sz_91 : szOf Try.prog 91 = some 1 := by kernel_rfl
@[simp] theorem ag_91 : aggOf Try.prog 91 = some false := by kernel_rfl
@[simp] theorem zo_91 : zOf Try.prog 91 = some (.nilf) := by kernel_rfl
@[simp] theorem by_91 : byOf Try.prog 91 = some 8 := by kernel_rfl
@[simp] theorem sz_92 : szOf Try.prog 92 = some 1 := by kernel_rfl
@[simp] theorem ag_92 : aggOf Try.prog 92 = some false := by kernel_rfl
@[simp] theorem zo_92 : zOf Try.prog 92 = some (.nilf) := by kernel_rfl
@[simp] theorem by_92 : byOf Try.prog 92 = some 8 := by kernel_rfl
@[simp] theorem sz_93 : szOf Try.prog 93 = some 1 := by kernel_rfl
@[simp] theorem ag_93 : aggOf Try.prog 93 = some false := by kernel_rfl
@[simp] theorem zo_93 : zOf Try.prog 93 = some (.sl .exact []) := by kernel_rfl
@[simp] theorem sl_93 : slOf Try.prog 93 = some (4, 1) := by kernel_rfl
@[simp] theorem li_93 : litOf Try.prog 93 = some (false, 1, [.bool false]) := by kernel_rfl
@[simp] theorem un_93 : Try.prog.underlying 93 = some (.slice 4) := by kernel_rfl
@[simp] theorem by_93 : byOf Try.prog 93 = some 24 := by kernel_rfl
@[simp] theorem sz_94 : szOf Try.prog 94 = some 1 := by kernel_rfl
@[simp] theorem ag_94 : aggOf Try.prog 94 = some false := by kernel_rfl
@[simp] theorem zo_94 : zOf Try.prog 94 = some (.nilf) := by kernel_rfl
@[simp] theorem by_94 : byOf Try.prog 94 = some 8 := by kernel_rfl
@[simp] theorem sz_95 : szOf Try.prog 95 = some 1 := by kernel_rfl
@[simp] theorem ag_95 : aggOf Try.prog 95 = some false := by kernel_rfl
@[simp] theorem zo_95 : zOf Try.prog 95 = some (.nilf) := by kernel_rfl
@[simp] theorem by_95 : byOf Try.prog 95 = some 8 := by kernel_rfl
@[simp] theorem sz_96 : szOf Try.prog 96 = some 1 := by kernel_rfl
@[simp] theorem ag_96 : aggOf Try.prog 96 = some false := by kernel_rfl
@[simp] theorem zo_96 : zOf Try.prog 96 = some (.nilf) := by kernel_rfl
@[simp] theorem by_96 : byOf Try.prog 96 = some 8 := by kernel_rfl
@[simp] theorem sz_97 : szOf Try.prog 97 = some 1 := by kernel_rfl
@[simp] theorem ag_97 : aggOf Try.prog 97 = some false := by kernel_rfl
@[simp] theorem zo_97 : zOf Try.prog 97 = some (.nilf) := by kernel_rfl
@[simp] theorem by_97 : byOf Try.prog 97 = some 8 := by kernel_rfl
@[simp] theorem sz_98 : szOf Try.prog 98 = some 1 := by kernel_rfl
@[simp] theorem ag_98 : aggOf Try.prog 98 = some false := by kernel_rfl
@[simp] theorem zo_98 : zOf Try.prog 98 = some (.nilf) := by kernel_rfl
@[simp] theorem by_98 : byOf Try.prog 98 = some 8 := by kernel_rfl
@[simp] theorem sz_99 : szOf Try.prog 99 = some 1 := by kernel_rfl
@[simp] theorem ag_99 : aggOf Try.prog 99 = some false := by kernel_rfl
@[simp] theorem zo_99 : zOf Try.prog 99 = some (.nilf) := by kernel_rfl
@[simp] theorem by_99 : byOf Try.prog 99 = some 8 := by kernel_rfl
@[simp] theorem sz_100 : szOf Try.prog 100 = some 1 := by kernel_rfl
@[simp] theorem ag_100 : aggOf Try.prog 100 = some false := by kernel_rfl
@[simp] theorem zo_100 : zOf Try.prog 100 = some (.nilf) := by kernel_rfl
@[simp] theorem by_100 : byOf Try.prog 100 = some 8 := by kernel_rfl
@[simp] theorem sz_101 : szOf Try.prog 101 = some 1 := by kernel_rfl
@[simp] theorem ag_101 : aggOf Try.prog 101 = some false := by kernel_rfl
@[simp] theorem zo_101 : zOf Try.prog 101 = some (.nilf) := by kernel_rfl
@[simp] theorem by_101 : byOf Try.prog 101 = some 8 := by kernel_rfl
@[simp] theorem sz_102 : szOf Try.prog 102 = some 1 := by kernel_rfl
@[simp] theorem ag_102 : aggOf Try.prog 102 = some false := by kernel_rfl
@[simp] theorem zo_102 : zOf Try.prog 102 = some (.nilf) := by kernel_rfl
@[simp] theorem by_102 : byOf Try.prog 102 = some 8 := by kernel_rfl
@[simp] theorem sz_103 : szOf Try.prog 103 = some 1 := by kernel_rfl
@[simp] theorem ag_103 : aggOf Try.prog 103 = some false := by kernel_rfl
@[simp] theorem zo_103 : zOf Try.prog 103 = some (.nilf) := by kernel_rfl
@[simp] theorem by_103 : byOf Try.prog 103 = some 8 := by kernel_rfl
@[simp] theorem sz_104 : szOf Try.prog 104 = some 1 := by kernel_rfl
@[simp] theorem ag_104 : aggOf Try.prog 104 = some false := by kernel_rfl
@[simp] theorem zo_104 : zOf Try.prog 104 = some (.nilf) := by kernel_rfl
@[simp] theorem by_104 : byOf Try.prog 104 = some 8 := by kernel_rfl
@[simp] theorem sz_105 : szOf Try.prog 105 = some 2 := by kernel_rfl
@[simp] theorem ag_105 : aggOf Try.prog 105 = some true := by kernel_rfl
@[simp] theorem zo_105 : zOf Try.prog 105 = some (.agg [.str ⟨#[]⟩, .int .i64 0]) := by kernel_rfl
@[simp] theorem ft_105 : ftOf Try.prog 105 = some (2, [(9, 0, 1), (3, 1, 1)]) := by kernel_rfl
@[simp] theorem fd_105_0 : fldOf Try.prog 105 0 = some (0, 1, false) := by kernel_rfl
@[simp] theorem fd_105_1 : fldOf Try.prog 105 1 = some (1, 1, false) := by kernel_rfl
@[simp] theorem bd_105 : bldOf Try.prog 105 = some ([(0, 1), (1, 1)], [.str ⟨#[]⟩, .int .i64 0]) := by kernel_rfl
@[simp] theorem by_105 : byOf Try.prog 105 = some 24 := by kernel_rfl
@[simp] theorem sz_106 : szOf Try.prog 106 = some 2 := by kernel_rfl
@[simp] theorem ag_106 : aggOf Try.prog 106 = some true := by kernel_rfl
@[simp] theorem zo_106 : zOf Try.prog 106 = some (.agg [.str ⟨#[]⟩, .int .i64 0]) := by kernel_rfl
@[simp] theorem ft_106 : ftOf Try.prog 106 = some (2, [(9, 0, 1), (3, 1, 1)]) := by kernel_rfl
@[simp] theorem fd_106_0 : fldOf Try.prog 106 0 = some (0, 1, false) := by kernel_rfl
@[simp] theorem fd_106_1 : fldOf Try.prog 106 1 = some (1, 1, false) := by kernel_rfl
@[simp] theorem bd_106 : bldOf Try.prog 106 = some ([(0, 1), (1, 1)], [.str ⟨#[]⟩, .int .i64 0]) := by kernel_rfl
@[simp] theorem eqt_106 {a0 b0 : ByteArray} {a1 b1 : Int} : EqT Try.prog 106 [.str a0, .int .i64 a1] [.str b0, .int .i64 b1] = True := eq_true (EqT.flat [.str, .int] (by kernel_rfl) rfl rfl (by simp [kindsFit]))
@[simp] theorem by_106 : byOf Try.prog 106 = some 24 := by kernel_rfl
@[simp] theorem sz_107 : szOf Try.prog 107 = some 1 := by kernel_rfl
@[simp] theorem ag_107 : aggOf Try.prog 107 = some false := by kernel_rfl
@[simp] theorem zo_107 : zOf Try.prog 107 = some (.nilm) := by kernel_rfl
@[simp] theorem un_107 : Try.prog.underlying 107 = some (.map 51 3) := by kernel_rfl
@[simp] theorem mp_107 : mapOf Try.prog 107 = some (51, .int .i64 0) := by kernel_rfl
@[simp] theorem by_107 : byOf Try.prog 107 = some 8 := by kernel_rfl
@[simp] theorem sz_108 : szOf Try.prog 108 = some 1 := by kernel_rfl
@[simp] theorem ag_108 : aggOf Try.prog 108 = some false := by kernel_rfl
@[simp] theorem zo_108 : zOf Try.prog 108 = some (.sl .exact []) := by kernel_rfl
@[simp] theorem sl_108 : slOf Try.prog 108 = some (51, 3) := by kernel_rfl
@[simp] theorem li_108 : litOf Try.prog 108 = some (true, 3, [.int .i64 0, .int .i64 0, .str ⟨#[]⟩]) := by kernel_rfl
@[simp] theorem un_108 : Try.prog.underlying 108 = some (.slice 51) := by kernel_rfl
@[simp] theorem by_108 : byOf Try.prog 108 = some 24 := by kernel_rfl
@[simp] theorem sz_109 : szOf Try.prog 109 = some 1 := by kernel_rfl
@[simp] theorem ag_109 : aggOf Try.prog 109 = some false := by kernel_rfl
@[simp] theorem zo_109 : zOf Try.prog 109 = some (.nilf) := by kernel_rfl
@[simp] theorem by_109 : byOf Try.prog 109 = some 8 := by kernel_rfl
@[simp] theorem sz_110 : szOf Try.prog 110 = some 1 := by kernel_rfl
@[simp] theorem ag_110 : aggOf Try.prog 110 = some false := by kernel_rfl
@[simp] theorem zo_110 : zOf Try.prog 110 = some (.nilf) := by kernel_rfl
@[simp] theorem by_110 : byOf Try.prog 110 = some 8 := by kernel_rfl
@[simp] theorem sz_111 : szOf Try.prog 111 = some 1 := by kernel_rfl
@[simp] theorem ag_111 : aggOf Try.prog 111 = some false := by kernel_rfl
@[simp] theorem zo_111 : zOf Try.prog 111 = some (.nilf) := by kernel_rfl
@[simp] theorem by_111 : byOf Try.prog 111 = some 8 := by kernel_rfl
@[simp] theorem sz_112 : szOf Try.prog 112 = some 12 := by kernel_rfl
@[simp] theorem ag_112 : aggOf Try.prog 112 = some true := by kernel_rfl
@[simp] theorem zo_112 : zOf Try.prog 112 = some (.agg [.int .i64 0, .str ⟨#[]⟩, .str ⟨#[]⟩, .int .i64 0, .str ⟨#[]⟩, .str ⟨#[]⟩, .int .i64 0, .int .i64 0, .int .i64 0, .int .i64 0, .str ⟨#[]⟩, .sl .exact []]) := by kernel_rfl
@[simp] theorem ft_112 : ftOf Try.prog 112 = some (12, [(3, 0, 1), (9, 1, 1), (9, 2, 1), (53, 3, 9)]) := by kernel_rfl
@[simp] theorem fd_112_0 : fldOf Try.prog 112 0 = some (0, 1, false) := by kernel_rfl
@[simp] theorem fd_112_1 : fldOf Try.prog 112 1 = some (1, 1, false) := by kernel_rfl
@[simp] theorem fd_112_2 : fldOf Try.prog 112 2 = some (2, 1, false) := by kernel_rfl
@[simp] theorem fd_112_3 : fldOf Try.prog 112 3 = some (3, 9, true) := by kernel_rfl
@[simp] theorem bd_112 : bldOf Try.prog 112 = some ([(0, 1), (1, 1), (2, 1), (3, 9)], [.int .i64 0, .str ⟨#[]⟩, .str ⟨#[]⟩, .int .i64 0, .str ⟨#[]⟩, .str ⟨#[]⟩, .int .i64 0, .int .i64 0, .int .i64 0, .int .i64 0, .str ⟨#[]⟩, .sl .exact []]) := by kernel_rfl
@[simp] theorem by_112 : byOf Try.prog 112 = some 152 := by kernel_rfl
@[simp] theorem sz_113 : szOf Try.prog 113 = some 12 := by kernel_rfl
@[simp] theorem ag_113 : aggOf Try.prog 113 = some true := by kernel_rfl
@[simp] theorem zo_113 : zOf Try.prog 113 = some (.agg [.int .i64 0, .str ⟨#[]⟩, .str ⟨#[]⟩, .int .i64 0, .str ⟨#[]⟩, .str ⟨#[]⟩, .int .i64 0, .int .i64 0, .int .i64 0, .int .i64 0, .str ⟨#[]⟩, .sl .exact []]) := by kernel_rfl
@[simp] theorem ft_113 : ftOf Try.prog 113 = some (12, [(3, 0, 1), (9, 1, 1), (9, 2, 1), (53, 3, 9)]) := by kernel_rfl
@[simp] theorem fd_113_0 : fldOf Try.prog 113 0 = some (0, 1, false) := by kernel_rfl
@[simp] theorem fd_113_1 : fldOf Try.prog 113 1 = some (1, 1, false) := by kernel_rfl
@[simp] theorem fd_113_2 : fldOf Try.prog 113 2 = some (2, 1, false) := by kernel_rfl
@[simp] theorem fd_113_3 : fldOf Try.prog 113 3 = some (3, 9, true) := by kernel_rfl
@[simp] theorem bd_113 : bldOf Try.prog 113 = some ([(0, 1), (1, 1), (2, 1), (3, 9)], [.int .i64 0, .str ⟨#[]⟩, .str ⟨#[]⟩, .int .i64 0, .str ⟨#[]⟩, .str ⟨#[]⟩, .int .i64 0, .int .i64 0, .int .i64 0, .int .i64 0, .str ⟨#[]⟩, .sl .exact []]) := by kernel_rfl
@[simp] theorem by_113 : byOf Try.prog 113 = some 152 := by kernel_rfl
@[simp] theorem sz_114 : szOf Try.prog 114 = some 1 := by kernel_rfl
@[simp] theorem ag_114 : aggOf Try.prog 114 = some false := by kernel_rfl
@[simp] theorem zo_114 : zOf Try.prog 114 = some (.nilf) := by kernel_rfl
@[simp] theorem by_114 : byOf Try.prog 114 = some 8 := by kernel_rfl
@[simp] theorem sz_115 : szOf Try.prog 115 = some 1 := by kernel_rfl
@[simp] theorem ag_115 : aggOf Try.prog 115 = some false := by kernel_rfl
@[simp] theorem zo_115 : zOf Try.prog 115 = some (.nilf) := by kernel_rfl
@[simp] theorem by_115 : byOf Try.prog 115 = some 8 := by kernel_rfl
@[simp] theorem sz_116 : szOf Try.prog 116 = some 5 := by kernel_rfl
@[simp] theorem ag_116 : aggOf Try.prog 116 = some true := by kernel_rfl
@[simp] theorem zo_116 : zOf Try.prog 116 = some (.agg [.int .i64 0, .int .i64 0, .sl .exact [], .sl .exact [], .sl .exact []]) := by kernel_rfl
@[simp] theorem ft_116 : ftOf Try.prog 116 = some (5, [(3, 0, 1), (3, 1, 1), (65, 2, 1), (48, 3, 1), (48, 4, 1)]) := by kernel_rfl
@[simp] theorem fd_116_0 : fldOf Try.prog 116 0 = some (0, 1, false) := by kernel_rfl
@[simp] theorem fd_116_1 : fldOf Try.prog 116 1 = some (1, 1, false) := by kernel_rfl
@[simp] theorem fd_116_2 : fldOf Try.prog 116 2 = some (2, 1, false) := by kernel_rfl
@[simp] theorem fd_116_3 : fldOf Try.prog 116 3 = some (3, 1, false) := by kernel_rfl
@[simp] theorem fd_116_4 : fldOf Try.prog 116 4 = some (4, 1, false) := by kernel_rfl
@[simp] theorem bd_116 : bldOf Try.prog 116 = some ([(0, 1), (1, 1), (2, 1), (3, 1), (4, 1)], [.int .i64 0, .int .i64 0, .sl .exact [], .sl .exact [], .sl .exact []]) := by kernel_rfl
@[simp] theorem by_116 : byOf Try.prog 116 = some 88 := by kernel_rfl
@[simp] theorem sz_117 : szOf Try.prog 117 = some 5 := by kernel_rfl
@[simp] theorem ag_117 : aggOf Try.prog 117 = some true := by kernel_rfl
@[simp] theorem zo_117 : zOf Try.prog 117 = some (.agg [.int .i64 0, .int .i64 0, .sl .exact [], .sl .exact [], .sl .exact []]) := by kernel_rfl
@[simp] theorem ft_117 : ftOf Try.prog 117 = some (5, [(3, 0, 1), (3, 1, 1), (65, 2, 1), (48, 3, 1), (48, 4, 1)]) := by kernel_rfl
@[simp] theorem fd_117_0 : fldOf Try.prog 117 0 = some (0, 1, false) := by kernel_rfl
@[simp] theorem fd_117_1 : fldOf Try.prog 117 1 = some (1, 1, false) := by kernel_rfl
@[simp] theorem fd_117_2 : fldOf Try.prog 117 2 = some (2, 1, false) := by kernel_rfl
@[simp] theorem fd_117_3 : fldOf Try.prog 117 3 = some (3, 1, false) := by kernel_rfl
@[simp] theorem fd_117_4 : fldOf Try.prog 117 4 = some (4, 1, false) := by kernel_rfl
@[simp] theorem bd_117 : bldOf Try.prog 117 = some ([(0, 1), (1, 1), (2, 1), (3, 1), (4, 1)], [.int .i64 0, .int .i64 0, .sl .exact [], .sl .exact [], .sl .exact []]) := by kernel_rfl
@[simp] theorem by_117 : byOf Try.prog 117 = some 88 := by kernel_rfl
@[simp] theorem sz_118 : szOf Try.prog 118 = some 1 := by kernel_rfl
@[simp] theorem ag_118 : aggOf Try.prog 118 = some false := by kernel_rfl
@[simp] theorem zo_118 : zOf Try.prog 118 = some (.nilf) := by kernel_rfl
@[simp] theorem by_118 : byOf Try.prog 118 = some 8 := by kernel_rfl
@[simp] theorem sz_119 : szOf Try.prog 119 = some 1 := by kernel_rfl
@[simp] theorem ag_119 : aggOf Try.prog 119 = some false := by kernel_rfl
@[simp] theorem zo_119 : zOf Try.prog 119 = some (.nilp) := by kernel_rfl
@[simp] theorem un_119 : Try.prog.underlying 119 = some (.pointer 68) := by kernel_rfl
@[simp] theorem by_119 : byOf Try.prog 119 = some 8 := by kernel_rfl
@[simp] theorem sz_120 : szOf Try.prog 120 = some 1 := by kernel_rfl
@[simp] theorem ag_120 : aggOf Try.prog 120 = some false := by kernel_rfl
@[simp] theorem zo_120 : zOf Try.prog 120 = some (.nilf) := by kernel_rfl
@[simp] theorem by_120 : byOf Try.prog 120 = some 8 := by kernel_rfl
@[simp] theorem sz_121 : szOf Try.prog 121 = some 1 := by kernel_rfl
@[simp] theorem ag_121 : aggOf Try.prog 121 = some false := by kernel_rfl
@[simp] theorem zo_121 : zOf Try.prog 121 = some (.nilf) := by kernel_rfl
@[simp] theorem by_121 : byOf Try.prog 121 = some 8 := by kernel_rfl
@[simp] theorem sz_122 : szOf Try.prog 122 = some 1 := by kernel_rfl
@[simp] theorem ag_122 : aggOf Try.prog 122 = some false := by kernel_rfl
@[simp] theorem zo_122 : zOf Try.prog 122 = some (.nilf) := by kernel_rfl
@[simp] theorem by_122 : byOf Try.prog 122 = some 8 := by kernel_rfl
@[simp] theorem sz_123 : szOf Try.prog 123 = some 1 := by kernel_rfl
@[simp] theorem ag_123 : aggOf Try.prog 123 = some false := by kernel_rfl
@[simp] theorem zo_123 : zOf Try.prog 123 = some (.nilf) := by kernel_rfl
@[simp] theorem by_123 : byOf Try.prog 123 = some 8 := by kernel_rfl
@[simp] theorem sz_124 : szOf Try.prog 124 = some 1 := by kernel_rfl
@[simp] theorem ag_124 : aggOf Try.prog 124 = some true := by kernel_rfl
@[simp] theorem zo_124 : zOf Try.prog 124 = some (.agg [.sl .exact []]) := by kernel_rfl
@[simp] theorem ft_124 : ftOf Try.prog 124 = some (1, [(22, 0, 1)]) := by kernel_rfl
@[simp] theorem fd_124_0 : fldOf Try.prog 124 0 = some (0, 1, false) := by kernel_rfl
@[simp] theorem bd_124 : bldOf Try.prog 124 = some ([(0, 1)], [.sl .exact []]) := by kernel_rfl
@[simp] theorem by_124 : byOf Try.prog 124 = some 24 := by kernel_rfl
@[simp] theorem sz_125 : szOf Try.prog 125 = some 1 := by kernel_rfl
@[simp] theorem ag_125 : aggOf Try.prog 125 = some true := by kernel_rfl
@[simp] theorem zo_125 : zOf Try.prog 125 = some (.agg [.sl .exact []]) := by kernel_rfl
@[simp] theorem ft_125 : ftOf Try.prog 125 = some (1, [(22, 0, 1)]) := by kernel_rfl
@[simp] theorem fd_125_0 : fldOf Try.prog 125 0 = some (0, 1, false) := by kernel_rfl
@[simp] theorem bd_125 : bldOf Try.prog 125 = some ([(0, 1)], [.sl .exact []]) := by kernel_rfl
@[simp] theorem by_125 : byOf Try.prog 125 = some 24 := by kernel_rfl
@[simp] theorem sz_126 : szOf Try.prog 126 = some 1 := by kernel_rfl
@[simp] theorem ag_126 : aggOf Try.prog 126 = some false := by kernel_rfl
@[simp] theorem zo_126 : zOf Try.prog 126 = some (.nilf) := by kernel_rfl
@[simp] theorem by_126 : byOf Try.prog 126 = some 8 := by kernel_rfl
@[simp] theorem sz_127 : szOf Try.prog 127 = some 1 := by kernel_rfl
@[simp] theorem ag_127 : aggOf Try.prog 127 = some false := by kernel_rfl
@[simp] theorem zo_127 : zOf Try.prog 127 = some (.nilf) := by kernel_rfl
@[simp] theorem by_127 : byOf Try.prog 127 = some 8 := by kernel_rfl
@[simp] theorem sz_128 : szOf Try.prog 128 = some 3 := by kernel_rfl
@[simp] theorem ag_128 : aggOf Try.prog 128 = some true := by kernel_rfl
@[simp] theorem zo_128 : zOf Try.prog 128 = some (.agg [.sl .exact [], .sl .exact [], .sl .exact []]) := by kernel_rfl
@[simp] theorem ft_128 : ftOf Try.prog 128 = some (3, [(48, 0, 1), (22, 1, 1), (22, 2, 1)]) := by kernel_rfl
@[simp] theorem fd_128_0 : fldOf Try.prog 128 0 = some (0, 1, false) := by kernel_rfl
@[simp] theorem fd_128_1 : fldOf Try.prog 128 1 = some (1, 1, false) := by kernel_rfl
@[simp] theorem fd_128_2 : fldOf Try.prog 128 2 = some (2, 1, false) := by kernel_rfl
@[simp] theorem bd_128 : bldOf Try.prog 128 = some ([(0, 1), (1, 1), (2, 1)], [.sl .exact [], .sl .exact [], .sl .exact []]) := by kernel_rfl
@[simp] theorem by_128 : byOf Try.prog 128 = some 72 := by kernel_rfl
@[simp] theorem sz_129 : szOf Try.prog 129 = some 3 := by kernel_rfl
@[simp] theorem ag_129 : aggOf Try.prog 129 = some true := by kernel_rfl
@[simp] theorem zo_129 : zOf Try.prog 129 = some (.agg [.sl .exact [], .sl .exact [], .sl .exact []]) := by kernel_rfl
@[simp] theorem ft_129 : ftOf Try.prog 129 = some (3, [(48, 0, 1), (22, 1, 1), (22, 2, 1)]) := by kernel_rfl
@[simp] theorem fd_129_0 : fldOf Try.prog 129 0 = some (0, 1, false) := by kernel_rfl
@[simp] theorem fd_129_1 : fldOf Try.prog 129 1 = some (1, 1, false) := by kernel_rfl
@[simp] theorem fd_129_2 : fldOf Try.prog 129 2 = some (2, 1, false) := by kernel_rfl
@[simp] theorem bd_129 : bldOf Try.prog 129 = some ([(0, 1), (1, 1), (2, 1)], [.sl .exact [], .sl .exact [], .sl .exact []]) := by kernel_rfl
@[simp] theorem by_129 : byOf Try.prog 129 = some 72 := by kernel_rfl
@[simp] theorem sz_130 : szOf Try.prog 130 = some 1 := by kernel_rfl
@[simp] theorem ag_130 : aggOf Try.prog 130 = some false := by kernel_rfl
@[simp] theorem zo_130 : zOf Try.prog 130 = some (.nilf) := by kernel_rfl
@[simp] theorem by_130 : byOf Try.prog 130 = some 8 := by kernel_rfl
@[simp] theorem sz_131 : szOf Try.prog 131 = some 1 := by kernel_rfl
@[simp] theorem ag_131 : aggOf Try.prog 131 = some false := by kernel_rfl
@[simp] theorem zo_131 : zOf Try.prog 131 = some (.nilf) := by kernel_rfl
@[simp] theorem by_131 : byOf Try.prog 131 = some 8 := by kernel_rfl
@[simp] theorem sz_132 : szOf Try.prog 132 = some 1 := by kernel_rfl
@[simp] theorem ag_132 : aggOf Try.prog 132 = some false := by kernel_rfl
@[simp] theorem zo_132 : zOf Try.prog 132 = some (.nilf) := by kernel_rfl
@[simp] theorem by_132 : byOf Try.prog 132 = some 8 := by kernel_rfl
@[simp] theorem sz_133 : szOf Try.prog 133 = some 1 := by kernel_rfl
@[simp] theorem ag_133 : aggOf Try.prog 133 = some false := by kernel_rfl
@[simp] theorem zo_133 : zOf Try.prog 133 = some (.nilf) := by kernel_rfl
@[simp] theorem by_133 : byOf Try.prog 133 = some 8 := by kernel_rfl
@[simp] theorem sz_134 : szOf Try.prog 134 = some 4 := by kernel_rfl
@[simp] theorem ag_134 : aggOf Try.prog 134 = some true := by kernel_rfl
@[simp] theorem zo_134 : zOf Try.prog 134 = some (.agg [.int .i64 0, .sl .exact [], .int .i64 0, .sl .exact []]) := by kernel_rfl
@[simp] theorem ft_134 : ftOf Try.prog 134 = some (4, [(3, 0, 1), (22, 1, 1), (3, 2, 1), (22, 3, 1)]) := by kernel_rfl
@[simp] theorem fd_134_0 : fldOf Try.prog 134 0 = some (0, 1, false) := by kernel_rfl
@[simp] theorem fd_134_1 : fldOf Try.prog 134 1 = some (1, 1, false) := by kernel_rfl
@[simp] theorem fd_134_2 : fldOf Try.prog 134 2 = some (2, 1, false) := by kernel_rfl
@[simp] theorem fd_134_3 : fldOf Try.prog 134 3 = some (3, 1, false) := by kernel_rfl
@[simp] theorem bd_134 : bldOf Try.prog 134 = some ([(0, 1), (1, 1), (2, 1), (3, 1)], [.int .i64 0, .sl .exact [], .int .i64 0, .sl .exact []]) := by kernel_rfl
@[simp] theorem by_134 : byOf Try.prog 134 = some 64 := by kernel_rfl
@[simp] theorem sz_135 : szOf Try.prog 135 = some 4 := by kernel_rfl
@[simp] theorem ag_135 : aggOf Try.prog 135 = some true := by kernel_rfl
@[simp] theorem zo_135 : zOf Try.prog 135 = some (.agg [.int .i64 0, .sl .exact [], .int .i64 0, .sl .exact []]) := by kernel_rfl
@[simp] theorem ft_135 : ftOf Try.prog 135 = some (4, [(3, 0, 1), (22, 1, 1), (3, 2, 1), (22, 3, 1)]) := by kernel_rfl
@[simp] theorem fd_135_0 : fldOf Try.prog 135 0 = some (0, 1, false) := by kernel_rfl
@[simp] theorem fd_135_1 : fldOf Try.prog 135 1 = some (1, 1, false) := by kernel_rfl
@[simp] theorem fd_135_2 : fldOf Try.prog 135 2 = some (2, 1, false) := by kernel_rfl
@[simp] theorem fd_135_3 : fldOf Try.prog 135 3 = some (3, 1, false) := by kernel_rfl
@[simp] theorem bd_135 : bldOf Try.prog 135 = some ([(0, 1), (1, 1), (2, 1), (3, 1)], [.int .i64 0, .sl .exact [], .int .i64 0, .sl .exact []]) := by kernel_rfl
@[simp] theorem by_135 : byOf Try.prog 135 = some 64 := by kernel_rfl
@[simp] theorem sz_136 : szOf Try.prog 136 = some 1 := by kernel_rfl
@[simp] theorem ag_136 : aggOf Try.prog 136 = some false := by kernel_rfl
@[simp] theorem zo_136 : zOf Try.prog 136 = some (.nilf) := by kernel_rfl
@[simp] theorem by_136 : byOf Try.prog 136 = some 8 := by kernel_rfl
@[simp] theorem sz_137 : szOf Try.prog 137 = some 1 := by kernel_rfl
@[simp] theorem ag_137 : aggOf Try.prog 137 = some false := by kernel_rfl
@[simp] theorem zo_137 : zOf Try.prog 137 = some (.nilf) := by kernel_rfl
@[simp] theorem by_137 : byOf Try.prog 137 = some 8 := by kernel_rfl
@[simp] theorem sz_138 : szOf Try.prog 138 = some 1 := by kernel_rfl
@[simp] theorem ag_138 : aggOf Try.prog 138 = some false := by kernel_rfl
@[simp] theorem zo_138 : zOf Try.prog 138 = some (.nilf) := by kernel_rfl
@[simp] theorem by_138 : byOf Try.prog 138 = some 8 := by kernel_rfl
@[simp] theorem sz_139 : szOf Try.prog 139 = some 1 := by kernel_rfl
@[simp] theorem ag_139 : aggOf Try.prog 139 = some false := by kernel_rfl
@[simp] theorem zo_139 : zOf Try.prog 139 = some (.nilf) := by kernel_rfl
@[simp] theorem by_139 : byOf Try.prog 139 = some 8 := by kernel_rfl
@[simp] theorem sz_140 : szOf Try.prog 140 = some 1 := by kernel_rfl
@[simp] theorem ag_140 : aggOf Try.prog 140 = some false := by kernel_rfl
@[simp] theorem zo_140 : zOf Try.prog 140 = some (.nilf) := by kernel_rfl
@[simp] theorem by_140 : byOf Try.prog 140 = some 8 := by kernel_rfl
@[simp] theorem sz_141 : szOf Try.prog 141 = some 1 := by kernel_rfl
@[simp] theorem ag_141 : aggOf Try.prog 141 = some false := by kernel_rfl
@[simp] theorem zo_141 : zOf Try.prog 141 = some (.nilf) := by kernel_rfl
@[simp] theorem by_141 : byOf Try.prog 141 = some 8 := by kernel_rfl
@[simp] theorem sz_142 : szOf Try.prog 142 = some 1 := by kernel_rfl
@[simp] theorem ag_142 : aggOf Try.prog 142 = some false := by kernel_rfl
@[simp] theorem zo_142 : zOf Try.prog 142 = some (.nilm) := by kernel_rfl
@[simp] theorem un_142 : Try.prog.underlying 142 = some (.map 3 3) := by kernel_rfl
@[simp] theorem mp_142 : mapOf Try.prog 142 = some (3, .int .i64 0) := by kernel_rfl
@[simp] theorem by_142 : byOf Try.prog 142 = some 8 := by kernel_rfl
@[simp] theorem sz_144 : szOf Try.prog 144 = some 1 := by kernel_rfl
@[simp] theorem ag_144 : aggOf Try.prog 144 = some false := by kernel_rfl
@[simp] theorem zo_144 : zOf Try.prog 144 = some (.nilf) := by kernel_rfl
@[simp] theorem by_144 : byOf Try.prog 144 = some 8 := by kernel_rfl
@[simp] theorem sz_145 : szOf Try.prog 145 = some 1 := by kernel_rfl
@[simp] theorem ag_145 : aggOf Try.prog 145 = some false := by kernel_rfl
@[simp] theorem zo_145 : zOf Try.prog 145 = some (.nilf) := by kernel_rfl
@[simp] theorem by_145 : byOf Try.prog 145 = some 8 := by kernel_rfl
@[simp] theorem sz_146 : szOf Try.prog 146 = some 1 := by kernel_rfl
@[simp] theorem ag_146 : aggOf Try.prog 146 = some false := by kernel_rfl
@[simp] theorem zo_146 : zOf Try.prog 146 = some (.nilf) := by kernel_rfl
@[simp] theorem by_146 : byOf Try.prog 146 = some 8 := by kernel_rfl
@[simp] theorem sz_147 : szOf Try.prog 147 = some 1 := by kernel_rfl
@[simp] theorem ag_147 : aggOf Try.prog 147 = some false := by kernel_rfl
@[simp] theorem zo_147 : zOf Try.prog 147 = some (.nilf) := by kernel_rfl
@[simp] theorem by_147 : byOf Try.prog 147 = some 8 := by kernel_rfl
@[simp] theorem sz_148 : szOf Try.prog 148 = some 1 := by kernel_rfl
@[simp] theorem ag_148 : aggOf Try.prog 148 = some false := by kernel_rfl
@[simp] theorem zo_148 : zOf Try.prog 148 = some (.int .u64 0) := by kernel_rfl
@[simp] theorem un_148 : Try.prog.underlying 148 = some (.int .u64) := by kernel_rfl
@[simp] theorem by_148 : byOf Try.prog 148 = some 8 := by kernel_rfl
@[simp] theorem sz_149 : szOf Try.prog 149 = some 1 := by kernel_rfl
@[simp] theorem ag_149 : aggOf Try.prog 149 = some false := by kernel_rfl
@[simp] theorem zo_149 : zOf Try.prog 149 = some (.nilf) := by kernel_rfl
@[simp] theorem by_149 : byOf Try.prog 149 = some 8 := by kernel_rfl
@[simp] theorem sz_150 : szOf Try.prog 150 = some 1 := by kernel_rfl
@[simp] theorem ag_150 : aggOf Try.prog 150 = some false := by kernel_rfl
@[simp] theorem zo_150 : zOf Try.prog 150 = some (.nilf) := by kernel_rfl
@[simp] theorem by_150 : byOf Try.prog 150 = some 8 := by kernel_rfl
@[simp] theorem sz_151 : szOf Try.prog 151 = some 1 := by kernel_rfl
@[simp] theorem ag_151 : aggOf Try.prog 151 = some false := by kernel_rfl
@[simp] theorem zo_151 : zOf Try.prog 151 = some (.nilf) := by kernel_rfl
@[simp] theorem by_151 : byOf Try.prog 151 = some 8 := by kernel_rfl
@[simp] theorem sz_152 : szOf Try.prog 152 = some 1 := by kernel_rfl
@[simp] theorem ag_152 : aggOf Try.prog 152 = some false := by kernel_rfl
@[simp] theorem zo_152 : zOf Try.prog 152 = some (.nilf) := by kernel_rfl
@[simp] theorem by_152 : byOf Try.prog 152 = some 8 := by kernel_rfl
@[simp] theorem sz_153 : szOf Try.prog 153 = some 1 := by kernel_rfl
@[simp] theorem ag_153 : aggOf Try.prog 153 = some false := by kernel_rfl
@[simp] theorem zo_153 : zOf Try.prog 153 = some (.nilf) := by kernel_rfl
@[simp] theorem by_153 : byOf Try.prog 153 = some 8 := by kernel_rfl
@[simp] theorem sz_155 : szOf Try.prog 155 = some 1 := by kernel_rfl
@[simp] theorem ag_155 : aggOf Try.prog 155 = some false := by kernel_rfl
@[simp] theorem zo_155 : zOf Try.prog 155 = some (.nilf) := by kernel_rfl
@[simp] theorem by_155 : byOf Try.prog 155 = some 8 := by kernel_rfl
@[simp] theorem sz_156 : szOf Try.prog 156 = some 1 := by kernel_rfl
@[simp] theorem ag_156 : aggOf Try.prog 156 = some false := by kernel_rfl
@[simp] theorem zo_156 : zOf Try.prog 156 = some (.nilf) := by kernel_rfl
@[simp] theorem by_156 : byOf Try.prog 156 = some 8 := by kernel_rfl
@[simp] theorem sz_157 : szOf Try.prog 157 = some 4 := by kernel_rfl
@[simp] theorem ag_157 : aggOf Try.prog 157 = some true := by kernel_rfl
@[simp] theorem zo_157 : zOf Try.prog 157 = some (.agg [.int .i64 0, .int .i64 0, .sl .exact [], .sl .exact []]) := by kernel_rfl
@[simp] theorem ft_157 : ftOf Try.prog 157 = some (4, [(3, 0, 1), (3, 1, 1), (65, 2, 1), (48, 3, 1)]) := by kernel_rfl
@[simp] theorem fd_157_0 : fldOf Try.prog 157 0 = some (0, 1, false) := by kernel_rfl
@[simp] theorem fd_157_1 : fldOf Try.prog 157 1 = some (1, 1, false) := by kernel_rfl
@[simp] theorem fd_157_2 : fldOf Try.prog 157 2 = some (2, 1, false) := by kernel_rfl
@[simp] theorem fd_157_3 : fldOf Try.prog 157 3 = some (3, 1, false) := by kernel_rfl
@[simp] theorem bd_157 : bldOf Try.prog 157 = some ([(0, 1), (1, 1), (2, 1), (3, 1)], [.int .i64 0, .int .i64 0, .sl .exact [], .sl .exact []]) := by kernel_rfl
@[simp] theorem by_157 : byOf Try.prog 157 = some 64 := by kernel_rfl
@[simp] theorem sz_158 : szOf Try.prog 158 = some 4 := by kernel_rfl
@[simp] theorem ag_158 : aggOf Try.prog 158 = some true := by kernel_rfl
@[simp] theorem zo_158 : zOf Try.prog 158 = some (.agg [.int .i64 0, .int .i64 0, .sl .exact [], .sl .exact []]) := by kernel_rfl
@[simp] theorem ft_158 : ftOf Try.prog 158 = some (4, [(3, 0, 1), (3, 1, 1), (65, 2, 1), (48, 3, 1)]) := by kernel_rfl
@[simp] theorem fd_158_0 : fldOf Try.prog 158 0 = some (0, 1, false) := by kernel_rfl
@[simp] theorem fd_158_1 : fldOf Try.prog 158 1 = some (1, 1, false) := by kernel_rfl
@[simp] theorem fd_158_2 : fldOf Try.prog 158 2 = some (2, 1, false) := by kernel_rfl
@[simp] theorem fd_158_3 : fldOf Try.prog 158 3 = some (3, 1, false) := by kernel_rfl
@[simp] theorem bd_158 : bldOf Try.prog 158 = some ([(0, 1), (1, 1), (2, 1), (3, 1)], [.int .i64 0, .int .i64 0, .sl .exact [], .sl .exact []]) := by kernel_rfl
@[simp] theorem by_158 : byOf Try.prog 158 = some 64 := by kernel_rfl
@[simp] theorem sz_159 : szOf Try.prog 159 = some 1 := by kernel_rfl
@[simp] theorem ag_159 : aggOf Try.prog 159 = some false := by kernel_rfl
@[simp] theorem zo_159 : zOf Try.prog 159 = some (.nilf) := by kernel_rfl
@[simp] theorem by_159 : byOf Try.prog 159 = some 8 := by kernel_rfl
@[simp] theorem sz_160 : szOf Try.prog 160 = some 1 := by kernel_rfl
@[simp] theorem ag_160 : aggOf Try.prog 160 = some false := by kernel_rfl
@[simp] theorem zo_160 : zOf Try.prog 160 = some (.nilf) := by kernel_rfl
@[simp] theorem by_160 : byOf Try.prog 160 = some 8 := by kernel_rfl
@[simp] theorem sz_161 : szOf Try.prog 161 = some 1 := by kernel_rfl
@[simp] theorem ag_161 : aggOf Try.prog 161 = some false := by kernel_rfl
@[simp] theorem zo_161 : zOf Try.prog 161 = some (.nilf) := by kernel_rfl
@[simp] theorem by_161 : byOf Try.prog 161 = some 8 := by kernel_rfl
@[simp] theorem sz_162 : szOf Try.prog 162 = some 1 := by kernel_rfl
@[simp] theorem ag_162 : aggOf Try.prog 162 = some false := by kernel_rfl
@[simp] theorem zo_162 : zOf Try.prog 162 = some (.nilf) := by kernel_rfl
@[simp] theorem by_162 : byOf Try.prog 162 = some 8 := by kernel_rfl
@[simp] theorem sz_163 : szOf Try.prog 163 = some 1 := by kernel_rfl
@[simp] theorem ag_163 : aggOf Try.prog 163 = some false := by kernel_rfl
@[simp] theorem zo_163 : zOf Try.prog 163 = some (.nilf) := by kernel_rfl
@[simp] theorem by_163 : byOf Try.prog 163 = some 8 := by kernel_rfl
@[simp] theorem sz_164 : szOf Try.prog 164 = some 1 := by kernel_rfl
@[simp] theorem ag_164 : aggOf Try.prog 164 = some false := by kernel_rfl
@[simp] theorem zo_164 : zOf Try.prog 164 = some (.int .i64 0) := by kernel_rfl
@[simp] theorem un_164 : Try.prog.underlying 164 = some (.int .i64) := by kernel_rfl
@[simp] theorem by_164 : byOf Try.prog 164 = some 8 := by kernel_rfl
@[simp] theorem sz_166 : szOf Try.prog 166 = some 1 := by kernel_rfl
@[simp] theorem ag_166 : aggOf Try.prog 166 = some false := by kernel_rfl
@[simp] theorem zo_166 : zOf Try.prog 166 = some (.nilf) := by kernel_rfl
@[simp] theorem by_166 : byOf Try.prog 166 = some 8 := by kernel_rfl
@[simp] theorem sz_167 : szOf Try.prog 167 = some 1 := by kernel_rfl
@[simp] theorem ag_167 : aggOf Try.prog 167 = some false := by kernel_rfl
@[simp] theorem zo_167 : zOf Try.prog 167 = some (.nilf) := by kernel_rfl
@[simp] theorem by_167 : byOf Try.prog 167 = some 8 := by kernel_rfl
@[simp] theorem sz_168 : szOf Try.prog 168 = some 1 := by kernel_rfl
@[simp] theorem ag_168 : aggOf Try.prog 168 = some false := by kernel_rfl
@[simp] theorem zo_168 : zOf Try.prog 168 = some (.nilf) := by kernel_rfl
@[simp] theorem by_168 : byOf Try.prog 168 = some 8 := by kernel_rfl
@[simp] theorem sz_169 : szOf Try.prog 169 = some 1 := by kernel_rfl
@[simp] theorem ag_169 : aggOf Try.prog 169 = some false := by kernel_rfl
@[simp] theorem zo_169 : zOf Try.prog 169 = some (.nilf) := by kernel_rfl
@[simp] theorem by_169 : byOf Try.prog 169 = some 8 := by kernel_rfl
@[simp] theorem sz_170 : szOf Try.prog 170 = some 1 := by kernel_rfl
@[simp] theorem ag_170 : aggOf Try.prog 170 = some false := by kernel_rfl
@[simp] theorem zo_170 : zOf Try.prog 170 = some (.nilf) := by kernel_rfl
@[simp] theorem by_170 : byOf Try.prog 170 = some 8 := by kernel_rfl
@[simp] theorem sz_171 : szOf Try.prog 171 = some 1 := by kernel_rfl
@[simp] theorem ag_171 : aggOf Try.prog 171 = some false := by kernel_rfl
@[simp] theorem zo_171 : zOf Try.prog 171 = some (.int .u32 0) := by kernel_rfl
@[simp] theorem un_171 : Try.prog.underlying 171 = some (.int .u32) := by kernel_rfl
@[simp] theorem by_171 : byOf Try.prog 171 = some 4 := by kernel_rfl
@[simp] theorem sz_172 : szOf Try.prog 172 = some 1 := by kernel_rfl
@[simp] theorem ag_172 : aggOf Try.prog 172 = some false := by kernel_rfl
@[simp] theorem zo_172 : zOf Try.prog 172 = some (.nilf) := by kernel_rfl
@[simp] theorem by_172 : byOf Try.prog 172 = some 8 := by kernel_rfl
@[simp] theorem sz_173 : szOf Try.prog 173 = some 1 := by kernel_rfl
@[simp] theorem ag_173 : aggOf Try.prog 173 = some false := by kernel_rfl
@[simp] theorem zo_173 : zOf Try.prog 173 = some (.int .u64 0) := by kernel_rfl
@[simp] theorem un_173 : Try.prog.underlying 173 = some (.int .u64) := by kernel_rfl
@[simp] theorem by_173 : byOf Try.prog 173 = some 8 := by kernel_rfl
@[simp] theorem sz_174 : szOf Try.prog 174 = some 1 := by kernel_rfl
@[simp] theorem ag_174 : aggOf Try.prog 174 = some false := by kernel_rfl
@[simp] theorem zo_174 : zOf Try.prog 174 = some (.nilf) := by kernel_rfl
@[simp] theorem by_174 : byOf Try.prog 174 = some 8 := by kernel_rfl
@[simp] theorem sz_175 : szOf Try.prog 175 = some 7 := by kernel_rfl
@[simp] theorem ag_175 : aggOf Try.prog 175 = some true := by kernel_rfl
@[simp] theorem zo_175 : zOf Try.prog 175 = some (.agg [.int .i64 0, .sl .exact [], .sl .exact [], .sl .exact [], .sl .exact [], .sl .exact [], .nilf]) := by kernel_rfl
@[simp] theorem ft_175 : ftOf Try.prog 175 = some (7, [(68, 0, 6), (78, 6, 1)]) := by kernel_rfl
@[simp] theorem fd_175_0 : fldOf Try.prog 175 0 = some (0, 6, true) := by kernel_rfl
@[simp] theorem fd_175_1 : fldOf Try.prog 175 1 = some (6, 1, false) := by kernel_rfl
@[simp] theorem bd_175 : bldOf Try.prog 175 = some ([(0, 6), (6, 1)], [.int .i64 0, .sl .exact [], .sl .exact [], .sl .exact [], .sl .exact [], .sl .exact [], .nilf]) := by kernel_rfl
@[simp] theorem by_175 : byOf Try.prog 175 = some 136 := by kernel_rfl
@[simp] theorem sz_176 : szOf Try.prog 176 = some 7 := by kernel_rfl
@[simp] theorem ag_176 : aggOf Try.prog 176 = some true := by kernel_rfl
@[simp] theorem zo_176 : zOf Try.prog 176 = some (.agg [.int .i64 0, .sl .exact [], .sl .exact [], .sl .exact [], .sl .exact [], .sl .exact [], .nilf]) := by kernel_rfl
@[simp] theorem ft_176 : ftOf Try.prog 176 = some (7, [(68, 0, 6), (78, 6, 1)]) := by kernel_rfl
@[simp] theorem fd_176_0 : fldOf Try.prog 176 0 = some (0, 6, true) := by kernel_rfl
@[simp] theorem fd_176_1 : fldOf Try.prog 176 1 = some (6, 1, false) := by kernel_rfl
@[simp] theorem bd_176 : bldOf Try.prog 176 = some ([(0, 6), (6, 1)], [.int .i64 0, .sl .exact [], .sl .exact [], .sl .exact [], .sl .exact [], .sl .exact [], .nilf]) := by kernel_rfl
@[simp] theorem by_176 : byOf Try.prog 176 = some 136 := by kernel_rfl
@[simp] theorem sz_177 : szOf Try.prog 177 = some 1 := by kernel_rfl
@[simp] theorem ag_177 : aggOf Try.prog 177 = some false := by kernel_rfl
@[simp] theorem zo_177 : zOf Try.prog 177 = some (.nilf) := by kernel_rfl
@[simp] theorem by_177 : byOf Try.prog 177 = some 8 := by kernel_rfl
@[simp] theorem sz_179 : szOf Try.prog 179 = some 1 := by kernel_rfl
@[simp] theorem ag_179 : aggOf Try.prog 179 = some false := by kernel_rfl
@[simp] theorem zo_179 : zOf Try.prog 179 = some (.nilf) := by kernel_rfl
@[simp] theorem by_179 : byOf Try.prog 179 = some 8 := by kernel_rfl
@[simp] theorem sz_180 : szOf Try.prog 180 = some 1 := by kernel_rfl
@[simp] theorem ag_180 : aggOf Try.prog 180 = some false := by kernel_rfl
@[simp] theorem zo_180 : zOf Try.prog 180 = some (.nilf) := by kernel_rfl
@[simp] theorem by_180 : byOf Try.prog 180 = some 8 := by kernel_rfl
@[simp] theorem sz_181 : szOf Try.prog 181 = some 1 := by kernel_rfl
@[simp] theorem ag_181 : aggOf Try.prog 181 = some false := by kernel_rfl
@[simp] theorem zo_181 : zOf Try.prog 181 = some (.nilf) := by kernel_rfl
@[simp] theorem by_181 : byOf Try.prog 181 = some 8 := by kernel_rfl
@[simp] theorem sz_182 : szOf Try.prog 182 = some 1 := by kernel_rfl
@[simp] theorem ag_182 : aggOf Try.prog 182 = some false := by kernel_rfl
@[simp] theorem zo_182 : zOf Try.prog 182 = some (.int .u64 0) := by kernel_rfl
@[simp] theorem un_182 : Try.prog.underlying 182 = some (.int .u64) := by kernel_rfl
@[simp] theorem by_182 : byOf Try.prog 182 = some 8 := by kernel_rfl
@[simp] theorem sz_183 : szOf Try.prog 183 = some 1 := by kernel_rfl
@[simp] theorem ag_183 : aggOf Try.prog 183 = some false := by kernel_rfl
@[simp] theorem zo_183 : zOf Try.prog 183 = some (.nilf) := by kernel_rfl
@[simp] theorem by_183 : byOf Try.prog 183 = some 8 := by kernel_rfl
@[simp] theorem sz_184 : szOf Try.prog 184 = some 1 := by kernel_rfl
@[simp] theorem ag_184 : aggOf Try.prog 184 = some false := by kernel_rfl
@[simp] theorem zo_184 : zOf Try.prog 184 = some (.nilf) := by kernel_rfl
@[simp] theorem by_184 : byOf Try.prog 184 = some 8 := by kernel_rfl
@[simp] theorem sz_185 : szOf Try.prog 185 = some 1 := by kernel_rfl
@[simp] theorem ag_185 : aggOf Try.prog 185 = some false := by kernel_rfl
@[simp] theorem zo_185 : zOf Try.prog 185 = some (.nilf) := by kernel_rfl
@[simp] theorem by_185 : byOf Try.prog 185 = some 8 := by kernel_rfl
@[simp] theorem sz_186 : szOf Try.prog 186 = some 1 := by kernel_rfl
@[simp] theorem ag_186 : aggOf Try.prog 186 = some false := by kernel_rfl
@[simp] theorem zo_186 : zOf Try.prog 186 = some (.nilp) := by kernel_rfl
@[simp] theorem un_186 : Try.prog.underlying 186 = some (.pointer 3) := by kernel_rfl
@[simp] theorem by_186 : byOf Try.prog 186 = some 8 := by kernel_rfl
@[simp] theorem sz_187 : szOf Try.prog 187 = some 1 := by kernel_rfl
@[simp] theorem ag_187 : aggOf Try.prog 187 = some false := by kernel_rfl
@[simp] theorem zo_187 : zOf Try.prog 187 = some (.nilf) := by kernel_rfl
@[simp] theorem by_187 : byOf Try.prog 187 = some 8 := by kernel_rfl
@[simp] theorem sz_188 : szOf Try.prog 188 = some 1 := by kernel_rfl
@[simp] theorem ag_188 : aggOf Try.prog 188 = some false := by kernel_rfl
@[simp] theorem zo_188 : zOf Try.prog 188 = some (.nilp) := by kernel_rfl
@[simp] theorem un_188 : Try.prog.underlying 188 = some (.pointer 182) := by kernel_rfl
@[simp] theorem by_188 : byOf Try.prog 188 = some 8 := by kernel_rfl
@[simp] theorem sz_190 : szOf Try.prog 190 = some 1 := by kernel_rfl
@[simp] theorem ag_190 : aggOf Try.prog 190 = some false := by kernel_rfl
@[simp] theorem zo_190 : zOf Try.prog 190 = some (.nilf) := by kernel_rfl
@[simp] theorem by_190 : byOf Try.prog 190 = some 8 := by kernel_rfl
@[simp] theorem sz_191 : szOf Try.prog 191 = some 1 := by kernel_rfl
@[simp] theorem ag_191 : aggOf Try.prog 191 = some false := by kernel_rfl
@[simp] theorem zo_191 : zOf Try.prog 191 = some (.nilf) := by kernel_rfl
@[simp] theorem by_191 : byOf Try.prog 191 = some 8 := by kernel_rfl
@[simp] theorem sz_192 : szOf Try.prog 192 = some 4 := by kernel_rfl
@[simp] theorem ag_192 : aggOf Try.prog 192 = some true := by kernel_rfl
@[simp] theorem zo_192 : zOf Try.prog 192 = some (.agg [.nilp, .nilp, .nilp, .str ⟨#[]⟩]) := by kernel_rfl
@[simp] theorem ft_192 : ftOf Try.prog 192 = some (4, [(17, 0, 1), (17, 1, 1), (17, 2, 1), (9, 3, 1)]) := by kernel_rfl
@[simp] theorem fd_192_0 : fldOf Try.prog 192 0 = some (0, 1, false) := by kernel_rfl
@[simp] theorem fd_192_1 : fldOf Try.prog 192 1 = some (1, 1, false) := by kernel_rfl
@[simp] theorem fd_192_2 : fldOf Try.prog 192 2 = some (2, 1, false) := by kernel_rfl
@[simp] theorem fd_192_3 : fldOf Try.prog 192 3 = some (3, 1, false) := by kernel_rfl
@[simp] theorem bd_192 : bldOf Try.prog 192 = some ([(0, 1), (1, 1), (2, 1), (3, 1)], [.nilp, .nilp, .nilp, .str ⟨#[]⟩]) := by kernel_rfl
@[simp] theorem by_192 : byOf Try.prog 192 = some 40 := by kernel_rfl
@[simp] theorem sz_193 : szOf Try.prog 193 = some 4 := by kernel_rfl
@[simp] theorem ag_193 : aggOf Try.prog 193 = some true := by kernel_rfl
@[simp] theorem zo_193 : zOf Try.prog 193 = some (.agg [.nilp, .nilp, .nilp, .str ⟨#[]⟩]) := by kernel_rfl
@[simp] theorem ft_193 : ftOf Try.prog 193 = some (4, [(17, 0, 1), (17, 1, 1), (17, 2, 1), (9, 3, 1)]) := by kernel_rfl
@[simp] theorem fd_193_0 : fldOf Try.prog 193 0 = some (0, 1, false) := by kernel_rfl
@[simp] theorem fd_193_1 : fldOf Try.prog 193 1 = some (1, 1, false) := by kernel_rfl
@[simp] theorem fd_193_2 : fldOf Try.prog 193 2 = some (2, 1, false) := by kernel_rfl
@[simp] theorem fd_193_3 : fldOf Try.prog 193 3 = some (3, 1, false) := by kernel_rfl
@[simp] theorem bd_193 : bldOf Try.prog 193 = some ([(0, 1), (1, 1), (2, 1), (3, 1)], [.nilp, .nilp, .nilp, .str ⟨#[]⟩]) := by kernel_rfl
@[simp] theorem by_193 : byOf Try.prog 193 = some 40 := by kernel_rfl
@[simp] theorem sz_194 : szOf Try.prog 194 = some 0 := by kernel_rfl
@[simp] theorem ag_194 : aggOf Try.prog 194 = some true := by kernel_rfl
@[simp] theorem zo_194 : zOf Try.prog 194 = some (.agg []) := by kernel_rfl
@[simp] theorem ar_194 : arrOf Try.prog 194 = some (0, 16, 1, false) := by kernel_rfl
@[simp] theorem bd_194 : bldOf Try.prog 194 = some ([], []) := by kernel_rfl
@[simp] theorem un_194 : Try.prog.underlying 194 = some (.array 0 16) := by kernel_rfl
@[simp] theorem by_194 : byOf Try.prog 194 = some 0 := by kernel_rfl
@[simp] theorem sz_195 : szOf Try.prog 195 = some 0 := by kernel_rfl
@[simp] theorem ag_195 : aggOf Try.prog 195 = some true := by kernel_rfl
@[simp] theorem zo_195 : zOf Try.prog 195 = some (.agg []) := by kernel_rfl
@[simp] theorem ft_195 : ftOf Try.prog 195 = some (0, [(194, 0, 0)]) := by kernel_rfl
@[simp] theorem fd_195_0 : fldOf Try.prog 195 0 = some (0, 0, true) := by kernel_rfl
@[simp] theorem bd_195 : bldOf Try.prog 195 = some ([(0, 0)], []) := by kernel_rfl
@[simp] theorem by_195 : byOf Try.prog 195 = some 0 := by kernel_rfl
@[simp] theorem sz_196 : szOf Try.prog 196 = some 0 := by kernel_rfl
@[simp] theorem ag_196 : aggOf Try.prog 196 = some true := by kernel_rfl
@[simp] theorem zo_196 : zOf Try.prog 196 = some (.agg []) := by kernel_rfl
@[simp] theorem ft_196 : ftOf Try.prog 196 = some (0, [(194, 0, 0)]) := by kernel_rfl
@[simp] theorem fd_196_0 : fldOf Try.prog 196 0 = some (0, 0, true) := by kernel_rfl
@[simp] theorem bd_196 : bldOf Try.prog 196 = some ([(0, 0)], []) := by kernel_rfl
@[simp] theorem by_196 : byOf Try.prog 196 = some 0 := by kernel_rfl
@[simp] theorem sz_197 : szOf Try.prog 197 = some 1 := by kernel_rfl
@[simp] theorem ag_197 : aggOf Try.prog 197 = some false := by kernel_rfl
@[simp] theorem zo_197 : zOf Try.prog 197 = some (.int .u8 0) := by kernel_rfl
@[simp] theorem un_197 : Try.prog.underlying 197 = some (.int .u8) := by kernel_rfl
@[simp] theorem by_197 : byOf Try.prog 197 = some 1 := by kernel_rfl
@[simp] theorem sz_198 : szOf Try.prog 198 = some 1 := by kernel_rfl
@[simp] theorem ag_198 : aggOf Try.prog 198 = some false := by kernel_rfl
@[simp] theorem zo_198 : zOf Try.prog 198 = some (.int .u8 0) := by kernel_rfl
@[simp] theorem un_198 : Try.prog.underlying 198 = some (.int .u8) := by kernel_rfl
@[simp] theorem by_198 : byOf Try.prog 198 = some 1 := by kernel_rfl
@[simp] theorem sz_199 : szOf Try.prog 199 = some 1 := by kernel_rfl
@[simp] theorem ag_199 : aggOf Try.prog 199 = some false := by kernel_rfl
@[simp] theorem zo_199 : zOf Try.prog 199 = some (.nilf) := by kernel_rfl
@[simp] theorem by_199 : byOf Try.prog 199 = some 8 := by kernel_rfl
@[simp] theorem sz_200 : szOf Try.prog 200 = some 1 := by kernel_rfl
@[simp] theorem ag_200 : aggOf Try.prog 200 = some false := by kernel_rfl
@[simp] theorem zo_200 : zOf Try.prog 200 = some (.nilp) := by kernel_rfl
@[simp] theorem un_200 : Try.prog.underlying 200 = some (.pointer 5) := by kernel_rfl
@[simp] theorem by_200 : byOf Try.prog 200 = some 8 := by kernel_rfl
@[simp] theorem sz_201 : szOf Try.prog 201 = some 1 := by kernel_rfl
@[simp] theorem ag_201 : aggOf Try.prog 201 = some false := by kernel_rfl
@[simp] theorem zo_201 : zOf Try.prog 201 = some (.int .i32 0) := by kernel_rfl
@[simp] theorem un_201 : Try.prog.underlying 201 = some (.int .i32) := by kernel_rfl
@[simp] theorem by_201 : byOf Try.prog 201 = some 4 := by kernel_rfl
@[simp] theorem sz_202 : szOf Try.prog 202 = some 1 := by kernel_rfl
@[simp] theorem ag_202 : aggOf Try.prog 202 = some false := by kernel_rfl
@[simp] theorem zo_202 : zOf Try.prog 202 = some (.int .i32 0) := by kernel_rfl
@[simp] theorem un_202 : Try.prog.underlying 202 = some (.int .i32) := by kernel_rfl
@[simp] theorem by_202 : byOf Try.prog 202 = some 4 := by kernel_rfl
@[simp] theorem sz_203 : szOf Try.prog 203 = some 11 := by kernel_rfl
@[simp] theorem ag_203 : aggOf Try.prog 203 = some true := by kernel_rfl
@[simp] theorem zo_203 : zOf Try.prog 203 = some (.agg [.int .u64 0, .int .u64 0, .int .u32 0, .int .u8 0, .int .u8 0, .int .u8 0, .int .u8 0, .nilf, .nilp, .int .i32 0, .int .i32 0]) := by kernel_rfl
@[simp] theorem ft_203 : ftOf Try.prog 203 = some (11, [(12, 0, 1), (12, 1, 1), (171, 2, 1), (197, 3, 1), (5, 4, 1), (5, 5, 1), (198, 6, 1), (199, 7, 1), (200, 8, 1), (201, 9, 1), (202, 10, 1)]) := by kernel_rfl
@[simp] theorem fd_203_0 : fldOf Try.prog 203 0 = some (0, 1, false) := by kernel_rfl
@[simp] theorem fd_203_1 : fldOf Try.prog 203 1 = some (1, 1, false) := by kernel_rfl
@[simp] theorem fd_203_2 : fldOf Try.prog 203 2 = some (2, 1, false) := by kernel_rfl
@[simp] theorem fd_203_3 : fldOf Try.prog 203 3 = some (3, 1, false) := by kernel_rfl
@[simp] theorem fd_203_4 : fldOf Try.prog 203 4 = some (4, 1, false) := by kernel_rfl
@[simp] theorem fd_203_5 : fldOf Try.prog 203 5 = some (5, 1, false) := by kernel_rfl
@[simp] theorem fd_203_6 : fldOf Try.prog 203 6 = some (6, 1, false) := by kernel_rfl
@[simp] theorem fd_203_7 : fldOf Try.prog 203 7 = some (7, 1, false) := by kernel_rfl
@[simp] theorem fd_203_8 : fldOf Try.prog 203 8 = some (8, 1, false) := by kernel_rfl
@[simp] theorem fd_203_9 : fldOf Try.prog 203 9 = some (9, 1, false) := by kernel_rfl
@[simp] theorem fd_203_10 : fldOf Try.prog 203 10 = some (10, 1, false) := by kernel_rfl
@[simp] theorem bd_203 : bldOf Try.prog 203 = some ([(0, 1), (1, 1), (2, 1), (3, 1), (4, 1), (5, 1), (6, 1), (7, 1), (8, 1), (9, 1), (10, 1)], [.int .u64 0, .int .u64 0, .int .u32 0, .int .u8 0, .int .u8 0, .int .u8 0, .int .u8 0, .nilf, .nilp, .int .i32 0, .int .i32 0]) := by kernel_rfl
@[simp] theorem by_203 : byOf Try.prog 203 = some 48 := by kernel_rfl
@[simp] theorem sz_204 : szOf Try.prog 204 = some 11 := by kernel_rfl
@[simp] theorem ag_204 : aggOf Try.prog 204 = some true := by kernel_rfl
@[simp] theorem zo_204 : zOf Try.prog 204 = some (.agg [.int .u64 0, .int .u64 0, .int .u32 0, .int .u8 0, .int .u8 0, .int .u8 0, .int .u8 0, .nilf, .nilp, .int .i32 0, .int .i32 0]) := by kernel_rfl
@[simp] theorem ft_204 : ftOf Try.prog 204 = some (11, [(12, 0, 1), (12, 1, 1), (171, 2, 1), (197, 3, 1), (5, 4, 1), (5, 5, 1), (198, 6, 1), (199, 7, 1), (200, 8, 1), (201, 9, 1), (202, 10, 1)]) := by kernel_rfl
@[simp] theorem fd_204_0 : fldOf Try.prog 204 0 = some (0, 1, false) := by kernel_rfl
@[simp] theorem fd_204_1 : fldOf Try.prog 204 1 = some (1, 1, false) := by kernel_rfl
@[simp] theorem fd_204_2 : fldOf Try.prog 204 2 = some (2, 1, false) := by kernel_rfl
@[simp] theorem fd_204_3 : fldOf Try.prog 204 3 = some (3, 1, false) := by kernel_rfl
@[simp] theorem fd_204_4 : fldOf Try.prog 204 4 = some (4, 1, false) := by kernel_rfl
@[simp] theorem fd_204_5 : fldOf Try.prog 204 5 = some (5, 1, false) := by kernel_rfl
@[simp] theorem fd_204_6 : fldOf Try.prog 204 6 = some (6, 1, false) := by kernel_rfl
@[simp] theorem fd_204_7 : fldOf Try.prog 204 7 = some (7, 1, false) := by kernel_rfl
@[simp] theorem fd_204_8 : fldOf Try.prog 204 8 = some (8, 1, false) := by kernel_rfl
@[simp] theorem fd_204_9 : fldOf Try.prog 204 9 = some (9, 1, false) := by kernel_rfl
@[simp] theorem fd_204_10 : fldOf Try.prog 204 10 = some (10, 1, false) := by kernel_rfl
@[simp] theorem bd_204 : bldOf Try.prog 204 = some ([(0, 1), (1, 1), (2, 1), (3, 1), (4, 1), (5, 1), (6, 1), (7, 1), (8, 1), (9, 1), (10, 1)], [.int .u64 0, .int .u64 0, .int .u32 0, .int .u8 0, .int .u8 0, .int .u8 0, .int .u8 0, .nilf, .nilp, .int .i32 0, .int .i32 0]) := by kernel_rfl
@[simp] theorem by_204 : byOf Try.prog 204 = some 48 := by kernel_rfl
def allS : List Nat := [2, 3, 4, 5, 6, 7, 8, 9, 10, 11, 12, 13, 14, 21, 22, 28, 29, 30, 33, 34, 40, 41, 42, 43, 45, 48, 49, 50, 51, 52, 53, 54, 55, 58, 59, 64, 65, 66, 67, 68, 83, 84, 85, 86, 87, 93, 105, 106, 108, 112, 113, 116, 117, 124, 125, 128, 129, 134, 135, 148, 157, 158, 164, 171, 173, 182, 197, 198, 201, 202]
theorem plain_all : plainS Try.prog allS = true := by kernel_rfl
end Go.Proofs.Ytcjfjoilgnlemaa.PL
