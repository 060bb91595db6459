/- What the program's types are, as it is asked in the steps. -/
import Derived.Test.YtgmhmdmfnmlhmaaPLd
import Derived.Test.YtgmhmdmfnmlhmaaProg
import Derived.KernelRfl
namespace Go.Proofs.Ytgmhmdmfnmlhmaa.PL
open Go.Proofs
theorem mix : Try.prog.follows .mixedOrders = true := by kernel_rfl
@[simp] theorem sz_1 : szOf Try.prog 1 = some 1 := by kernel_rfl
@[simp] theorem ag_1 : aggOf Try.prog 1 = some false := by kernel_rfl
@[simp] theorem zo_1 : zOf Try.prog 1 = some (.nilf) := by kernel_rfl
@[simp] theorem by_1 : byOf Try.prog 1 = some 8 := by kernel_rfl
@[simp] theorem sz_2 : szOf Try.prog 2 = some 1 := by kernel_rfl
@[simp] theorem ag_2 : aggOf Try.prog 2 = some false := by kernel_rfl
@[simp] theorem zo_2 : zOf Try.prog 2 = some (.int .i64 0) := by kernel_rfl
@[simp] theorem un_2 : Try.prog.underlying 2 = some (.int .i64) := by kernel_rfl
@[simp] theorem by_2 : byOf Try.prog 2 = some 8 := by kernel_rfl
@[simp] theorem sz_3 : szOf Try.prog 3 = some 1 := by kernel_rfl
@[simp] theorem ag_3 : aggOf Try.prog 3 = some false := by kernel_rfl
@[simp] theorem zo_3 : zOf Try.prog 3 = some (.int .i64 0) := by kernel_rfl
@[simp] theorem un_3 : Try.prog.underlying 3 = some (.int .i64) := by kernel_rfl
@[simp] theorem by_3 : byOf Try.prog 3 = some 8 := by kernel_rfl
@[simp] theorem sz_4 : szOf Try.prog 4 = some 1 := by kernel_rfl
@[simp] theorem ag_4 : aggOf Try.prog 4 = some false := by kernel_rfl
@[simp] theorem zo_4 : zOf Try.prog 4 = some (.bool false) := by kernel_rfl
@[simp] theorem un_4 : Try.prog.underlying 4 = some (.bool) := by kernel_rfl
@[simp] theorem by_4 : byOf Try.prog 4 = some 1 := by kernel_rfl
@[simp] theorem sz_5 : szOf Try.prog 5 = some 1 := by kernel_rfl
@[simp] theorem ag_5 : aggOf Try.prog 5 = some false := by kernel_rfl
@[simp] theorem zo_5 : zOf Try.prog 5 = some (.int .u8 0) := by kernel_rfl
@[simp] theorem un_5 : Try.prog.underlying 5 = some (.int .u8) := by kernel_rfl
@[simp] theorem by_5 : byOf Try.prog 5 = some 1 := by kernel_rfl
@[simp] theorem sz_6 : szOf Try.prog 6 = some 1 := by kernel_rfl
@[simp] theorem ag_6 : aggOf Try.prog 6 = some false := by kernel_rfl
@[simp] theorem zo_6 : zOf Try.prog 6 = some (.int .u8 0) := by kernel_rfl
@[simp] theorem un_6 : Try.prog.underlying 6 = some (.int .u8) := by kernel_rfl
@[simp] theorem by_6 : byOf Try.prog 6 = some 1 := by kernel_rfl
@[simp] theorem sz_7 : szOf Try.prog 7 = some 4 := by kernel_rfl
@[simp] theorem ag_7 : aggOf Try.prog 7 = some true := by kernel_rfl
@[simp] theorem zo_7 : zOf Try.prog 7 = some (.agg [.int .i64 0, .int .i64 0, .bool false, .int .u8 0]) := by kernel_rfl
@[simp] theorem ft_7 : ftOf Try.prog 7 = some (4, [(2, 0, 1), (3, 1, 1), (4, 2, 1), (6, 3, 1)]) := by kernel_rfl
@[simp] theorem fd_7_0 : fldOf Try.prog 7 0 = some (0, 1, false) := by kernel_rfl
@[simp] theorem fd_7_1 : fldOf Try.prog 7 1 = some (1, 1, false) := by kernel_rfl
@[simp] theorem fd_7_2 : fldOf Try.prog 7 2 = some (2, 1, false) := by kernel_rfl
@[simp] theorem fd_7_3 : fldOf Try.prog 7 3 = some (3, 1, false) := by kernel_rfl
@[simp] theorem bd_7 : bldOf Try.prog 7 = some ([(0, 1), (1, 1), (2, 1), (3, 1)], [.int .i64 0, .int .i64 0, .bool false, .int .u8 0]) := by kernel_rfl
@[simp] theorem by_7 : byOf Try.prog 7 = some 24 := by kernel_rfl
@[simp] theorem sz_8 : szOf Try.prog 8 = some 4 := by kernel_rfl
@[simp] theorem ag_8 : aggOf Try.prog 8 = some true := by kernel_rfl
@[simp] theorem zo_8 : zOf Try.prog 8 = some (.agg [.int .i64 0, .int .i64 0, .bool false, .int .u8 0]) := by kernel_rfl
@[simp] theorem ft_8 : ftOf Try.prog 8 = some (4, [(2, 0, 1), (3, 1, 1), (4, 2, 1), (6, 3, 1)]) := by kernel_rfl
@[simp] theorem fd_8_0 : fldOf Try.prog 8 0 = some (0, 1, false) := by kernel_rfl
@[simp] theorem fd_8_1 : fldOf Try.prog 8 1 = some (1, 1, false) := by kernel_rfl
@[simp] theorem fd_8_2 : fldOf Try.prog 8 2 = some (2, 1, false) := by kernel_rfl
@[simp] theorem fd_8_3 : fldOf Try.prog 8 3 = some (3, 1, false) := by kernel_rfl
@[simp] theorem bd_8 : bldOf Try.prog 8 = some ([(0, 1), (1, 1), (2, 1), (3, 1)], [.int .i64 0, .int .i64 0, .bool false, .int .u8 0]) := by kernel_rfl
@[simp] theorem by_8 : byOf Try.prog 8 = some 24 := by kernel_rfl
@[simp] theorem sz_9 : szOf Try.prog 9 = some 1 := by kernel_rfl
@[simp] theorem ag_9 : aggOf Try.prog 9 = some false := by kernel_rfl
@[simp] theorem zo_9 : zOf Try.prog 9 = some (.str ⟨#[]⟩) := by kernel_rfl
@[simp] theorem un_9 : Try.prog.underlying 9 = some (.string) := by kernel_rfl
@[simp] theorem by_9 : byOf Try.prog 9 = some 16 := by kernel_rfl
@[simp] theorem sz_10 : szOf Try.prog 10 = some 1 := by kernel_rfl
@[simp] theorem ag_10 : aggOf Try.prog 10 = some false := by kernel_rfl
@[simp] theorem zo_10 : zOf Try.prog 10 = some (.str ⟨#[]⟩) := by kernel_rfl
@[simp] theorem un_10 : Try.prog.underlying 10 = some (.string) := by kernel_rfl
@[simp] theorem by_10 : byOf Try.prog 10 = some 16 := by kernel_rfl
@[simp] theorem sz_11 : szOf Try.prog 11 = some 1 := by kernel_rfl
@[simp] theorem ag_11 : aggOf Try.prog 11 = some false := by kernel_rfl
@[simp] theorem zo_11 : zOf Try.prog 11 = some (.str ⟨#[]⟩) := by kernel_rfl
@[simp] theorem un_11 : Try.prog.underlying 11 = some (.string) := by kernel_rfl
@[simp] theorem by_11 : byOf Try.prog 11 = some 16 := by kernel_rfl
@[simp] theorem sz_12 : szOf Try.prog 12 = some 1 := by kernel_rfl
@[simp] theorem ag_12 : aggOf Try.prog 12 = some false := by kernel_rfl
@[simp] theorem zo_12 : zOf Try.prog 12 = some (.int .u64 0) := by kernel_rfl
@[simp] theorem un_12 : Try.prog.underlying 12 = some (.int .u64) := by kernel_rfl
@[simp] theorem by_12 : byOf Try.prog 12 = some 8 := by kernel_rfl
@[simp] theorem sz_13 : szOf Try.prog 13 = some 2 := by kernel_rfl
@[simp] theorem ag_13 : aggOf Try.prog 13 = some true := by kernel_rfl
@[simp] theorem zo_13 : zOf Try.prog 13 = some (.agg [.str ⟨#[]⟩, .int .u64 0]) := by kernel_rfl
@[simp] theorem ft_13 : ftOf Try.prog 13 = some (2, [(9, 0, 1), (12, 1, 1)]) := by kernel_rfl
@[simp] theorem fd_13_0 : fldOf Try.prog 13 0 = some (0, 1, false) := by kernel_rfl
@[simp] theorem fd_13_1 : fldOf Try.prog 13 1 = some (1, 1, false) := by kernel_rfl
@[simp] theorem bd_13 : bldOf Try.prog 13 = some ([(0, 1), (1, 1)], [.str ⟨#[]⟩, .int .u64 0]) := by kernel_rfl
@[simp] theorem by_13 : byOf Try.prog 13 = some 24 := by kernel_rfl
@[simp] theorem sz_14 : szOf Try.prog 14 = some 2 := by kernel_rfl
@[simp] theorem ag_14 : aggOf Try.prog 14 = some true := by kernel_rfl
@[simp] theorem zo_14 : zOf Try.prog 14 = some (.agg [.str ⟨#[]⟩, .int .u64 0]) := by kernel_rfl
@[simp] theorem ft_14 : ftOf Try.prog 14 = some (2, [(9, 0, 1), (12, 1, 1)]) := by kernel_rfl
@[simp] theorem fd_14_0 : fldOf Try.prog 14 0 = some (0, 1, false) := by kernel_rfl
@[simp] theorem fd_14_1 : fldOf Try.prog 14 1 = some (1, 1, false) := by kernel_rfl
@[simp] theorem bd_14 : bldOf Try.prog 14 = some ([(0, 1), (1, 1)], [.str ⟨#[]⟩, .int .u64 0]) := by kernel_rfl
@[simp] theorem by_14 : byOf Try.prog 14 = some 24 := by kernel_rfl
@[simp] theorem sz_15 : szOf Try.prog 15 = some 1 := by kernel_rfl
@[simp] theorem ag_15 : aggOf Try.prog 15 = some false := by kernel_rfl
@[simp] theorem zo_15 : zOf Try.prog 15 = some (.nilp) := by kernel_rfl
@[simp] theorem un_15 : Try.prog.underlying 15 = some (.pointer 120) := by kernel_rfl
@[simp] theorem by_15 : byOf Try.prog 15 = some 8 := by kernel_rfl
@[simp] theorem sz_16 : szOf Try.prog 16 = some 1 := by kernel_rfl
@[simp] theorem ag_16 : aggOf Try.prog 16 = some false := by kernel_rfl
@[simp] theorem zo_16 : zOf Try.prog 16 = some (.nilp) := by kernel_rfl
@[simp] theorem un_16 : Try.prog.underlying 16 = some (.pointer 123) := by kernel_rfl
@[simp] theorem by_16 : byOf Try.prog 16 = some 8 := by kernel_rfl
@[simp] theorem sz_17 : szOf Try.prog 17 = some 1 := by kernel_rfl
@[simp] theorem ag_17 : aggOf Try.prog 17 = some false := by kernel_rfl
@[simp] theorem zo_17 : zOf Try.prog 17 = some (.nilp) := by kernel_rfl
@[simp] theorem un_17 : Try.prog.underlying 17 = some (.pointer 133) := by kernel_rfl
@[simp] theorem by_17 : byOf Try.prog 17 = some 8 := by kernel_rfl
@[simp] theorem sz_18 : szOf Try.prog 18 = some 1 := by kernel_rfl
@[simp] theorem ag_18 : aggOf Try.prog 18 = some true := by kernel_rfl
@[simp] theorem zo_18 : zOf Try.prog 18 = some (.agg [.nilp]) := by kernel_rfl
@[simp] theorem ft_18 : ftOf Try.prog 18 = some (1, [(17, 0, 1)]) := by kernel_rfl
@[simp] theorem fd_18_0 : fldOf Try.prog 18 0 = some (0, 1, false) := by kernel_rfl
@[simp] theorem bd_18 : bldOf Try.prog 18 = some ([(0, 1)], [.nilp]) := by kernel_rfl
@[simp] theorem by_18 : byOf Try.prog 18 = some 8 := by kernel_rfl
@[simp] theorem sz_19 : szOf Try.prog 19 = some 1 := by kernel_rfl
@[simp] theorem ag_19 : aggOf Try.prog 19 = some true := by kernel_rfl
@[simp] theorem zo_19 : zOf Try.prog 19 = some (.agg [.nilp]) := by kernel_rfl
@[simp] theorem ft_19 : ftOf Try.prog 19 = some (1, [(17, 0, 1)]) := by kernel_rfl
@[simp] theorem fd_19_0 : fldOf Try.prog 19 0 = some (0, 1, false) := by kernel_rfl
@[simp] theorem bd_19 : bldOf Try.prog 19 = some ([(0, 1)], [.nilp]) := by kernel_rfl
@[simp] theorem by_19 : byOf Try.prog 19 = some 8 := by kernel_rfl
@[simp] theorem sz_21 : szOf Try.prog 21 = some 1 := by kernel_rfl
@[simp] theorem ag_21 : aggOf Try.prog 21 = some false := by kernel_rfl
@[simp] theorem zo_21 : zOf Try.prog 21 = some (.int .i32 0) := by kernel_rfl
@[simp] theorem un_21 : Try.prog.underlying 21 = some (.int .i32) := by kernel_rfl
@[simp] theorem by_21 : byOf Try.prog 21 = some 4 := by kernel_rfl
@[simp] theorem sz_22 : szOf Try.prog 22 = some 1 := by kernel_rfl
@[simp] theorem ag_22 : aggOf Try.prog 22 = some false := by kernel_rfl
@[simp] theorem zo_22 : zOf Try.prog 22 = some (.nilf) := by kernel_rfl
@[simp] theorem by_22 : byOf Try.prog 22 = some 8 := by kernel_rfl
@[simp] theorem sz_23 : szOf Try.prog 23 = some 1 := by kernel_rfl
@[simp] theorem ag_23 : aggOf Try.prog 23 = some false := by kernel_rfl
@[simp] theorem zo_23 : zOf Try.prog 23 = some (.nilf) := by kernel_rfl
@[simp] theorem by_23 : byOf Try.prog 23 = some 8 := by kernel_rfl
@[simp] theorem sz_24 : szOf Try.prog 24 = some 3 := by kernel_rfl
@[simp] theorem ag_24 : aggOf Try.prog 24 = some true := by kernel_rfl
@[simp] theorem zo_24 : zOf Try.prog 24 = some (.agg [.int .i64 0, .int .i64 0, .str ⟨#[]⟩]) := by kernel_rfl
@[simp] theorem ft_24 : ftOf Try.prog 24 = some (3, [(3, 0, 1), (3, 1, 1), (9, 2, 1)]) := by kernel_rfl
@[simp] theorem fd_24_0 : fldOf Try.prog 24 0 = some (0, 1, false) := by kernel_rfl
@[simp] theorem fd_24_1 : fldOf Try.prog 24 1 = some (1, 1, false) := by kernel_rfl
@[simp] theorem fd_24_2 : fldOf Try.prog 24 2 = some (2, 1, false) := by kernel_rfl
@[simp] theorem bd_24 : bldOf Try.prog 24 = some ([(0, 1), (1, 1), (2, 1)], [.int .i64 0, .int .i64 0, .str ⟨#[]⟩]) := by kernel_rfl
@[simp] theorem by_24 : byOf Try.prog 24 = some 32 := by kernel_rfl
@[simp] theorem sz_25 : szOf Try.prog 25 = some 3 := by kernel_rfl
@[simp] theorem ag_25 : aggOf Try.prog 25 = some true := by kernel_rfl
@[simp] theorem zo_25 : zOf Try.prog 25 = some (.agg [.int .i64 0, .int .i64 0, .str ⟨#[]⟩]) := by kernel_rfl
@[simp] theorem ft_25 : ftOf Try.prog 25 = some (3, [(3, 0, 1), (3, 1, 1), (9, 2, 1)]) := by kernel_rfl
@[simp] theorem fd_25_0 : fldOf Try.prog 25 0 = some (0, 1, false) := by kernel_rfl
@[simp] theorem fd_25_1 : fldOf Try.prog 25 1 = some (1, 1, false) := by kernel_rfl
@[simp] theorem fd_25_2 : fldOf Try.prog 25 2 = some (2, 1, false) := by kernel_rfl
@[simp] theorem bd_25 : bldOf Try.prog 25 = some ([(0, 1), (1, 1), (2, 1)], [.int .i64 0, .int .i64 0, .str ⟨#[]⟩]) := by kernel_rfl
@[simp] theorem eqt_25 {a0 b0 : Int} {a1 b1 : Int} {a2 b2 : ByteArray} : EqT Try.prog 25 [.int .i64 a0, .int .i64 a1, .str a2] [.int .i64 b0, .int .i64 b1, .str b2] = True := eq_true (EqT.flat [.int, .int, .str] (by kernel_rfl) rfl rfl (by simp [kindsFit]))
@[simp] theorem by_25 : byOf Try.prog 25 = some 32 := by kernel_rfl
@[simp] theorem sz_26 : szOf Try.prog 26 = some 1 := by kernel_rfl
@[simp] theorem ag_26 : aggOf Try.prog 26 = some false := by kernel_rfl
@[simp] theorem zo_26 : zOf Try.prog 26 = some (.nilf) := by kernel_rfl
@[simp] theorem by_26 : byOf Try.prog 26 = some 8 := by kernel_rfl
@[simp] theorem sz_28 : szOf Try.prog 28 = some 1 := by kernel_rfl
@[simp] theorem ag_28 : aggOf Try.prog 28 = some false := by kernel_rfl
@[simp] theorem zo_28 : zOf Try.prog 28 = some (.nilf) := by kernel_rfl
@[simp] theorem by_28 : byOf Try.prog 28 = some 8 := by kernel_rfl
@[simp] theorem sz_29 : szOf Try.prog 29 = some 1 := by kernel_rfl
@[simp] theorem ag_29 : aggOf Try.prog 29 = some false := by kernel_rfl
@[simp] theorem zo_29 : zOf Try.prog 29 = some (.nilf) := by kernel_rfl
@[simp] theorem by_29 : byOf Try.prog 29 = some 8 := by kernel_rfl
@[simp] theorem sz_30 : szOf Try.prog 30 = some 1 := by kernel_rfl
@[simp] theorem ag_30 : aggOf Try.prog 30 = some false := by kernel_rfl
@[simp] theorem zo_30 : zOf Try.prog 30 = some (.nilf) := by kernel_rfl
@[simp] theorem by_30 : byOf Try.prog 30 = some 8 := by kernel_rfl
@[simp] theorem sz_31 : szOf Try.prog 31 = some 1 := by kernel_rfl
@[simp] theorem ag_31 : aggOf Try.prog 31 = some false := by kernel_rfl
@[simp] theorem zo_31 : zOf Try.prog 31 = some (.nilf) := by kernel_rfl
@[simp] theorem by_31 : byOf Try.prog 31 = some 8 := by kernel_rfl
@[simp] theorem sz_32 : szOf Try.prog 32 = some 1 := by kernel_rfl
@[simp] theorem ag_32 : aggOf Try.prog 32 = some false := by kernel_rfl
@[simp] theorem zo_32 : zOf Try.prog 32 = some (.nilf) := by kernel_rfl
@[simp] theorem by_32 : byOf Try.prog 32 = some 8 := by kernel_rfl
@[simp] theorem sz_33 : szOf Try.prog 33 = some 1 := by kernel_rfl
@[simp] theorem ag_33 : aggOf Try.prog 33 = some false := by kernel_rfl
@[simp] theorem zo_33 : zOf Try.prog 33 = some (.nilf) := by kernel_rfl
@[simp] theorem by_33 : byOf Try.prog 33 = some 8 := by kernel_rfl
@[simp] theorem sz_34 : szOf Try.prog 34 = some 1 := by kernel_rfl
@[simp] theorem ag_34 : aggOf Try.prog 34 = some false := by kernel_rfl
@[simp] theorem zo_34 : zOf Try.prog 34 = some (.nilf) := by kernel_rfl
@[simp] theorem by_34 : byOf Try.prog 34 = some 8 := by kernel_rfl
@[simp] theorem sz_35 : szOf Try.prog 35 = some 1 := by kernel_rfl
@[simp] theorem ag_35 : aggOf Try.prog 35 = some false := by kernel_rfl
@[simp] theorem zo_35 : zOf Try.prog 35 = some (.nilf) := by kernel_rfl
@[simp] theorem by_35 : byOf Try.prog 35 = some 8 := by kernel_rfl
@[simp] theorem sz_36 : szOf Try.prog 36 = some 1 := by kernel_rfl
@[simp] theorem ag_36 : aggOf Try.prog 36 = some false := by kernel_rfl
@[simp] theorem zo_36 : zOf Try.prog 36 = some (.nilf) := by kernel_rfl
@[simp] theorem by_36 : byOf Try.prog 36 = some 8 := by kernel_rfl
@[simp] theorem sz_37 : szOf Try.prog 37 = some 1 := by kernel_rfl
@[simp] theorem ag_37 : aggOf Try.prog 37 = some false := by kernel_rfl
@[simp] theorem zo_37 : zOf Try.prog 37 = some (.sl .exact []) := by kernel_rfl
@[simp] theorem sl_37 : slOf Try.prog 37 = some (3, 1) := by kernel_rfl
@[simp] theorem li_37 : litOf Try.prog 37 = some (false, 1, [.int .i64 0]) := by kernel_rfl
@[simp] theorem un_37 : Try.prog.underlying 37 = some (.slice 3) := by kernel_rfl
@[simp] theorem by_37 : byOf Try.prog 37 = some 24 := by kernel_rfl
@[simp] theorem sz_38 : szOf Try.prog 38 = some 1 := by kernel_rfl
@[simp] theorem ag_38 : aggOf Try.prog 38 = some false := by kernel_rfl
@[simp] theorem zo_38 : zOf Try.prog 38 = some (.nilf) := by kernel_rfl
@[simp] theorem by_38 : byOf Try.prog 38 = some 8 := by kernel_rfl
@[simp] theorem sz_39 : szOf Try.prog 39 = some 1 := by kernel_rfl
@[simp] theorem ag_39 : aggOf Try.prog 39 = some false := by kernel_rfl
@[simp] theorem zo_39 : zOf Try.prog 39 = some (.nilf) := by kernel_rfl
@[simp] theorem by_39 : byOf Try.prog 39 = some 8 := by kernel_rfl
@[simp] theorem sz_40 : szOf Try.prog 40 = some 1 := by kernel_rfl
@[simp] theorem ag_40 : aggOf Try.prog 40 = some false := by kernel_rfl
@[simp] theorem zo_40 : zOf Try.prog 40 = some (.nilf) := by kernel_rfl
@[simp] theorem by_40 : byOf Try.prog 40 = some 8 := by kernel_rfl
@[simp] theorem sz_41 : szOf Try.prog 41 = some 1 := by kernel_rfl
@[simp] theorem ag_41 : aggOf Try.prog 41 = some false := by kernel_rfl
@[simp] theorem zo_41 : zOf Try.prog 41 = some (.nilf) := by kernel_rfl
@[simp] theorem by_41 : byOf Try.prog 41 = some 8 := by kernel_rfl
@[simp] theorem sz_42 : szOf Try.prog 42 = some 1 := by kernel_rfl
@[simp] theorem ag_42 : aggOf Try.prog 42 = some false := by kernel_rfl
@[simp] theorem zo_42 : zOf Try.prog 42 = some (.nilf) := by kernel_rfl
@[simp] theorem by_42 : byOf Try.prog 42 = some 8 := by kernel_rfl
@[simp] theorem sz_43 : szOf Try.prog 43 = some 1 := by kernel_rfl
@[simp] theorem ag_43 : aggOf Try.prog 43 = some false := by kernel_rfl
@[simp] theorem zo_43 : zOf Try.prog 43 = some (.nilf) := by kernel_rfl
@[simp] theorem by_43 : byOf Try.prog 43 = some 8 := by kernel_rfl
@[simp] theorem sz_44 : szOf Try.prog 44 = some 1 := by kernel_rfl
@[simp] theorem ag_44 : aggOf Try.prog 44 = some false := by kernel_rfl
@[simp] theorem zo_44 : zOf Try.prog 44 = some (.nilf) := by kernel_rfl
@[simp] theorem by_44 : byOf Try.prog 44 = some 8 := by kernel_rfl
@[simp] theorem sz_45 : szOf Try.prog 45 = some 1 := by kernel_rfl
@[simp] theorem ag_45 : aggOf Try.prog 45 = some false := by kernel_rfl
@[simp] theorem zo_45 : zOf Try.prog 45 = some (.nilf) := by kernel_rfl
@[simp] theorem by_45 : byOf Try.prog 45 = some 8 := by kernel_rfl
@[simp] theorem sz_46 : szOf Try.prog 46 = some 1 := by kernel_rfl
@[simp] theorem ag_46 : aggOf Try.prog 46 = some false := by kernel_rfl
@[simp] theorem zo_46 : zOf Try.prog 46 = some (.nilf) := by kernel_rfl
@[simp] theorem by_46 : byOf Try.prog 46 = some 8 := by kernel_rfl
@[simp] theorem sz_47 : szOf Try.prog 47 = some 1 := by kernel_rfl
@[simp] theorem ag_47 : aggOf Try.prog 47 = some false := by kernel_rfl
@[simp] theorem zo_47 : zOf Try.prog 47 = some (.int .u64 0) := by kernel_rfl
@[simp] theorem un_47 : Try.prog.underlying 47 = some (.int .u64) := by kernel_rfl
@[simp] theorem by_47 : byOf Try.prog 47 = some 8 := by kernel_rfl
@[simp] theorem sz_48 : szOf Try.prog 48 = some 3 := by kernel_rfl
@[simp] theorem ag_48 : aggOf Try.prog 48 = some true := by kernel_rfl
@[simp] theorem zo_48 : zOf Try.prog 48 = some (.agg [.int .u64 0, .int .u64 0, .int .i64 0]) := by kernel_rfl
@[simp] theorem ft_48 : ftOf Try.prog 48 = some (3, [(47, 0, 1), (47, 1, 1), (3, 2, 1)]) := by kernel_rfl
@[simp] theorem fd_48_0 : fldOf Try.prog 48 0 = some (0, 1, false) := by kernel_rfl
@[simp] theorem fd_48_1 : fldOf Try.prog 48 1 = some (1, 1, false) := by kernel_rfl
@[simp] theorem fd_48_2 : fldOf Try.prog 48 2 = some (2, 1, false) := by kernel_rfl
@[simp] theorem bd_48 : bldOf Try.prog 48 = some ([(0, 1), (1, 1), (2, 1)], [.int .u64 0, .int .u64 0, .int .i64 0]) := by kernel_rfl
@[simp] theorem by_48 : byOf Try.prog 48 = some 24 := by kernel_rfl
@[simp] theorem sz_49 : szOf Try.prog 49 = some 3 := by kernel_rfl
@[simp] theorem ag_49 : aggOf Try.prog 49 = some true := by kernel_rfl
@[simp] theorem zo_49 : zOf Try.prog 49 = some (.agg [.int .u64 0, .int .u64 0, .int .i64 0]) := by kernel_rfl
@[simp] theorem ft_49 : ftOf Try.prog 49 = some (3, [(47, 0, 1), (47, 1, 1), (3, 2, 1)]) := by kernel_rfl
@[simp] theorem fd_49_0 : fldOf Try.prog 49 0 = some (0, 1, false) := by kernel_rfl
@[simp] theorem fd_49_1 : fldOf Try.prog 49 1 = some (1, 1, false) := by kernel_rfl
@[simp] theorem fd_49_2 : fldOf Try.prog 49 2 = some (2, 1, false) := by kernel_rfl
@[simp] theorem bd_49 : bldOf Try.prog 49 = some ([(0, 1), (1, 1), (2, 1)], [.int .u64 0, .int .u64 0, .int .i64 0]) := by kernel_rfl
@[simp] theorem eqt_49 {a0 b0 : Int} {a1 b1 : Int} {a2 b2 : Int} : EqT Try.prog 49 [.int .u64 a0, .int .u64 a1, .int .i64 a2] [.int .u64 b0, .int .u64 b1, .int .i64 b2] = True := eq_true (EqT.flat [.int, .int, .int] (by kernel_rfl) rfl rfl (by simp [kindsFit]))
@[simp] theorem by_49 : byOf Try.prog 49 = some 24 := by kernel_rfl
@[simp] theorem sz_50 : szOf Try.prog 50 = some 1 := by kernel_rfl
@[simp] theorem ag_50 : aggOf Try.prog 50 = some false := by kernel_rfl
@[simp] theorem zo_50 : zOf Try.prog 50 = some (.nilf) := by kernel_rfl
@[simp] theorem by_50 : byOf Try.prog 50 = some 8 := by kernel_rfl
@[simp] theorem sz_51 : szOf Try.prog 51 = some 1 := by kernel_rfl
@[simp] theorem ag_51 : aggOf Try.prog 51 = some false := by kernel_rfl
@[simp] theorem zo_51 : zOf Try.prog 51 = some (.int .i64 0) := by kernel_rfl
@[simp] theorem un_51 : Try.prog.underlying 51 = some (.int .i64) := by kernel_rfl
@[simp] theorem by_51 : byOf Try.prog 51 = some 8 := by kernel_rfl
@[simp] theorem sz_53 : szOf Try.prog 53 = some 1 := by kernel_rfl
@[simp] theorem ag_53 : aggOf Try.prog 53 = some false := by kernel_rfl
@[simp] theorem zo_53 : zOf Try.prog 53 = some (.nilf) := by kernel_rfl
@[simp] theorem by_53 : byOf Try.prog 53 = some 8 := by kernel_rfl
@[simp] theorem sz_54 : szOf Try.prog 54 = some 1 := by kernel_rfl
@[simp] theorem ag_54 : aggOf Try.prog 54 = some false := by kernel_rfl
@[simp] theorem zo_54 : zOf Try.prog 54 = some (.nilf) := by kernel_rfl
@[simp] theorem by_54 : byOf Try.prog 54 = some 8 := by kernel_rfl
@[simp] theorem sz_55 : szOf Try.prog 55 = some 1 := by kernel_rfl
@[simp] theorem ag_55 : aggOf Try.prog 55 = some false := by kernel_rfl
@[simp] theorem zo_55 : zOf Try.prog 55 = some (.nilf) := by kernel_rfl
@[simp] theorem by_55 : byOf Try.prog 55 = some 8 := by kernel_rfl
@[simp] theorem sz_56 : szOf Try.prog 56 = some 2 := by kernel_rfl
@[simp] theorem ag_56 : aggOf Try.prog 56 = some true := by kernel_rfl
@[simp] theorem zo_56 : zOf Try.prog 56 = some (.agg [.int .i64 0, .int .i64 0]) := by kernel_rfl
@[simp] theorem ft_56 : ftOf Try.prog 56 = some (2, [(3, 0, 1), (3, 1, 1)]) := by kernel_rfl
@[simp] theorem fd_56_0 : fldOf Try.prog 56 0 = some (0, 1, false) := by kernel_rfl
@[simp] theorem fd_56_1 : fldOf Try.prog 56 1 = some (1, 1, false) := by kernel_rfl
@[simp] theorem bd_56 : bldOf Try.prog 56 = some ([(0, 1), (1, 1)], [.int .i64 0, .int .i64 0]) := by kernel_rfl
@[simp] theorem by_56 : byOf Try.prog 56 = some 16 := by kernel_rfl
@[simp] theorem sz_57 : szOf Try.prog 57 = some 2 := by kernel_rfl
@[simp] theorem ag_57 : aggOf Try.prog 57 = some true := by kernel_rfl
@[simp] theorem zo_57 : zOf Try.prog 57 = some (.agg [.int .i64 0, .int .i64 0]) := by kernel_rfl
@[simp] theorem ft_57 : ftOf Try.prog 57 = some (2, [(3, 0, 1), (3, 1, 1)]) := by kernel_rfl
@[simp] theorem fd_57_0 : fldOf Try.prog 57 0 = some (0, 1, false) := by kernel_rfl
@[simp] theorem fd_57_1 : fldOf Try.prog 57 1 = some (1, 1, false) := by kernel_rfl
@[simp] theorem bd_57 : bldOf Try.prog 57 = some ([(0, 1), (1, 1)], [.int .i64 0, .int .i64 0]) := by kernel_rfl
@[simp] theorem eqt_57 {a0 b0 : Int} {a1 b1 : Int} : EqT Try.prog 57 [.int .i64 a0, .int .i64 a1] [.int .i64 b0, .int .i64 b1] = True := eq_true (EqT.flat [.int, .int] (by kernel_rfl) rfl rfl (by simp [kindsFit]))
@[simp] theorem by_57 : byOf Try.prog 57 = some 16 := by kernel_rfl
@[simp] theorem sz_58 : szOf Try.prog 58 = some 1 := by kernel_rfl
@[simp] theorem ag_58 : aggOf Try.prog 58 = some false := by kernel_rfl
@[simp] theorem zo_58 : zOf Try.prog 58 = some (.nilf) := by kernel_rfl
@[simp] theorem by_58 : byOf Try.prog 58 = some 8 := by kernel_rfl
@[simp] theorem sz_59 : szOf Try.prog 59 = some 1 := by kernel_rfl
@[simp] theorem ag_59 : aggOf Try.prog 59 = some false := by kernel_rfl
@[simp] theorem zo_59 : zOf Try.prog 59 = some (.nilf) := by kernel_rfl
@[simp] theorem by_59 : byOf Try.prog 59 = some 8 := by kernel_rfl
@[simp] theorem sz_60 : szOf Try.prog 60 = some 1 := by kernel_rfl
@[simp] theorem ag_60 : aggOf Try.prog 60 = some false := by kernel_rfl
@[simp] theorem zo_60 : zOf Try.prog 60 = some (.nilf) := by kernel_rfl
@[simp] theorem by_60 : byOf Try.prog 60 = some 8 := by kernel_rfl
@[simp] theorem sz_61 : szOf Try.prog 61 = some 1 := by kernel_rfl
@[simp] theorem ag_61 : aggOf Try.prog 61 = some false := by kernel_rfl
@[simp] theorem zo_61 : zOf Try.prog 61 = some (.nilf) := by kernel_rfl
@[simp] theorem by_61 : byOf Try.prog 61 = some 8 := by kernel_rfl
@[simp] theorem sz_62 : szOf Try.prog 62 = some 1 := by kernel_rfl
@[simp] theorem ag_62 : aggOf Try.prog 62 = some false := by kernel_rfl
@[simp] theorem zo_62 : zOf Try.prog 62 = some (.nilf) := by kernel_rfl
@[simp] theorem by_62 : byOf Try.prog 62 = some 8 := by kernel_rfl
@[simp] theorem sz_64 : szOf Try.prog 64 = some 1 := by kernel_rfl
@[simp] theorem ag_64 : aggOf Try.prog 64 = some false := by kernel_rfl
@[simp] theorem zo_64 : zOf Try.prog 64 = some (.nilf) := by kernel_rfl
@[simp] theorem by_64 : byOf Try.prog 64 = some 8 := by kernel_rfl
@[simp] theorem sz_66 : szOf Try.prog 66 = some 1 := by kernel_rfl
@[simp] theorem ag_66 : aggOf Try.prog 66 = some false := by kernel_rfl
@[simp] theorem zo_66 : zOf Try.prog 66 = some (.nilf) := by kernel_rfl
@[simp] theorem by_66 : byOf Try.prog 66 = some 8 := by kernel_rfl
@[simp] theorem sz_67 : szOf Try.prog 67 = some 1 := by kernel_rfl
@[simp] theorem ag_67 : aggOf Try.prog 67 = some false := by kernel_rfl
@[simp] theorem zo_67 : zOf Try.prog 67 = some (.sl .exact []) := by kernel_rfl
@[simp] theorem sl_67 : slOf Try.prog 67 = some (72, 3) := by kernel_rfl
@[simp] theorem li_67 : litOf Try.prog 67 = some (true, 3, [.str ⟨#[]⟩, .sl .exact [], .sl .exact []]) := by kernel_rfl
@[simp] theorem un_67 : Try.prog.underlying 67 = some (.slice 72) := by kernel_rfl
@[simp] theorem by_67 : byOf Try.prog 67 = some 24 := by kernel_rfl
@[simp] theorem sz_68 : szOf Try.prog 68 = some 1 := by kernel_rfl
@[simp] theorem ag_68 : aggOf Try.prog 68 = some false := by kernel_rfl
@[simp] theorem zo_68 : zOf Try.prog 68 = some (.nilf) := by kernel_rfl
@[simp] theorem by_68 : byOf Try.prog 68 = some 8 := by kernel_rfl
@[simp] theorem sz_69 : szOf Try.prog 69 = some 1 := by kernel_rfl
@[simp] theorem ag_69 : aggOf Try.prog 69 = some false := by kernel_rfl
@[simp] theorem zo_69 : zOf Try.prog 69 = some (.sl .exact []) := by kernel_rfl
@[simp] theorem sl_69 : slOf Try.prog 69 = some (79, 2) := by kernel_rfl
@[simp] theorem li_69 : litOf Try.prog 69 = some (true, 2, [.str ⟨#[]⟩, .int .i64 0]) := by kernel_rfl
@[simp] theorem un_69 : Try.prog.underlying 69 = some (.slice 79) := by kernel_rfl
@[simp] theorem by_69 : byOf Try.prog 69 = some 24 := by kernel_rfl
@[simp] theorem sz_70 : szOf Try.prog 70 = some 1 := by kernel_rfl
@[simp] theorem ag_70 : aggOf Try.prog 70 = some false := by kernel_rfl
@[simp] theorem zo_70 : zOf Try.prog 70 = some (.sl .exact []) := by kernel_rfl
@[simp] theorem sl_70 : slOf Try.prog 70 = some (106, 1) := by kernel_rfl
@[simp] theorem li_70 : litOf Try.prog 70 = some (false, 1, [.sl .exact []]) := by kernel_rfl
@[simp] theorem un_70 : Try.prog.underlying 70 = some (.slice 106) := by kernel_rfl
@[simp] theorem by_70 : byOf Try.prog 70 = some 24 := by kernel_rfl
@[simp] theorem sz_71 : szOf Try.prog 71 = some 3 := by kernel_rfl
@[simp] theorem ag_71 : aggOf Try.prog 71 = some true := by kernel_rfl
@[simp] theorem zo_71 : zOf Try.prog 71 = some (.agg [.str ⟨#[]⟩, .sl .exact [], .sl .exact []]) := by kernel_rfl
@[simp] theorem ft_71 : ftOf Try.prog 71 = some (3, [(9, 0, 1), (69, 1, 1), (70, 2, 1)]) := by kernel_rfl
@[simp] theorem fd_71_0 : fldOf Try.prog 71 0 = some (0, 1, false) := by kernel_rfl
@[simp] theorem fd_71_1 : fldOf Try.prog 71 1 = some (1, 1, false) := by kernel_rfl
@[simp] theorem fd_71_2 : fldOf Try.prog 71 2 = some (2, 1, false) := by kernel_rfl
@[simp] theorem bd_71 : bldOf Try.prog 71 = some ([(0, 1), (1, 1), (2, 1)], [.str ⟨#[]⟩, .sl .exact [], .sl .exact []]) := by kernel_rfl
@[simp] theorem by_71 : byOf Try.prog 71 = some 64 := by kernel_rfl
@[simp] theorem sz_72 : szOf Try.prog 72 = some 3 := by kernel_rfl
@[simp] theorem ag_72 : aggOf Try.prog 72 = some true := by kernel_rfl
@[simp] theorem zo_72 : zOf Try.prog 72 = some (.agg [.str ⟨#[]⟩, .sl .exact [], .sl .exact []]) := by kernel_rfl
@[simp] theorem ft_72 : ftOf Try.prog 72 = some (3, [(9, 0, 1), (69, 1, 1), (70, 2, 1)]) := by kernel_rfl
@[simp] theorem fd_72_0 : fldOf Try.prog 72 0 = some (0, 1, false) := by kernel_rfl
@[simp] theorem fd_72_1 : fldOf Try.prog 72 1 = some (1, 1, false) := by kernel_rfl
@[simp] theorem fd_72_2 : fldOf Try.prog 72 2 = some (2, 1, false) := by kernel_rfl
@[simp] theorem bd_72 : bldOf Try.prog 72 = some ([(0, 1), (1, 1), (2, 1)], [.str ⟨#[]⟩, .sl .exact [], .sl .exact []]) := by kernel_rfl
@[simp] theorem by_72 : byOf Try.prog 72 = some 64 := by kernel_rfl
@[simp] theorem sz_74 : szOf Try.prog 74 = some 1 := by kernel_rfl
@[simp] theorem ag_74 : aggOf Try.prog 74 = some false := by kernel_rfl
@[simp] theorem zo_74 : zOf Try.prog 74 = some (.nilf) := by kernel_rfl
@[simp] theorem by_74 : byOf Try.prog 74 = some 8 := by kernel_rfl
@[simp] theorem sz_75 : szOf Try.prog 75 = some 1 := by kernel_rfl
@[simp] theorem ag_75 : aggOf Try.prog 75 = some false := by kernel_rfl
@[simp] theorem zo_75 : zOf Try.prog 75 = some (.nilf) := by kernel_rfl
@[simp] theorem by_75 : byOf Try.prog 75 = some 8 := by kernel_rfl
@[simp] theorem sz_76 : szOf Try.prog 76 = some 1 := by kernel_rfl
@[simp] theorem ag_76 : aggOf Try.prog 76 = some false := by kernel_rfl
@[simp] theorem zo_76 : zOf Try.prog 76 = some (.nilf) := by kernel_rfl
@[simp] theorem by_76 : byOf Try.prog 76 = some 8 := by kernel_rfl
@[simp] theorem sz_77 : szOf Try.prog 77 = some 1 := by kernel_rfl
@[simp] theorem ag_77 : aggOf Try.prog 77 = some false := by kernel_rfl
@[simp] theorem zo_77 : zOf Try.prog 77 = some (.nilf) := by kernel_rfl
@[simp] theorem by_77 : byOf Try.prog 77 = some 8 := by kernel_rfl
@[simp] theorem sz_78 : szOf Try.prog 78 = some 2 := by kernel_rfl
@[simp] theorem ag_78 : aggOf Try.prog 78 = some true := by kernel_rfl
@[simp] theorem zo_78 : zOf Try.prog 78 = some (.agg [.str ⟨#[]⟩, .int .i64 0]) := by kernel_rfl
@[simp] theorem ft_78 : ftOf Try.prog 78 = some (2, [(9, 0, 1), (3, 1, 1)]) := by kernel_rfl
@[simp] theorem fd_78_0 : fldOf Try.prog 78 0 = some (0, 1, false) := by kernel_rfl
@[simp] theorem fd_78_1 : fldOf Try.prog 78 1 = some (1, 1, false) := by kernel_rfl
@[simp] theorem bd_78 : bldOf Try.prog 78 = some ([(0, 1), (1, 1)], [.str ⟨#[]⟩, .int .i64 0]) := by kernel_rfl
@[simp] theorem by_78 : byOf Try.prog 78 = some 24 := by kernel_rfl
@[simp] theorem sz_79 : szOf Try.prog 79 = some 2 := by kernel_rfl
@[simp] theorem ag_79 : aggOf Try.prog 79 = some true := by kernel_rfl
@[simp] theorem zo_79 : zOf Try.prog 79 = some (.agg [.str ⟨#[]⟩, .int .i64 0]) := by kernel_rfl
@[simp] theorem ft_79 : ftOf Try.prog 79 = some (2, [(9, 0, 1), (3, 1, 1)]) := by kernel_rfl
@[simp] theorem fd_79_0 : fldOf Try.prog 79 0 = some (0, 1, false) := by kernel_rfl
@[simp] theorem fd_79_1 : fldOf Try.prog 79 1 = some (1, 1, false) := by kernel_rfl
@[simp] theorem bd_79 : bldOf Try.prog 79 = some ([(0, 1), (1, 1)], [.str ⟨#[]⟩, .int .i64 0]) := by kernel_rfl
@[simp] theorem eqt_79 {a0 b0 : ByteArray} {a1 b1 : Int} : EqT Try.prog 79 [.str a0, .int .i64 a1] [.str b0, .int .i64 b1] = True := eq_true (EqT.flat [.str, .int] (by kernel_rfl) rfl rfl (by simp [kindsFit]))
@[simp] theorem by_79 : byOf Try.prog 79 = some 24 := by kernel_rfl
@[simp] theorem sz_80 : szOf Try.prog 80 = some 1 := by kernel_rfl
@[simp] theorem ag_80 : aggOf Try.prog 80 = some false := by kernel_rfl
@[simp] theorem zo_80 : zOf Try.prog 80 = some (.nilf) := by kernel_rfl
@[simp] theorem by_80 : byOf Try.prog 80 = some 8 := by kernel_rfl
@[simp] theorem sz_81 : szOf Try.prog 81 = some 1 := by kernel_rfl
@[simp] theorem ag_81 : aggOf Try.prog 81 = some false := by kernel_rfl
@[simp] theorem zo_81 : zOf Try.prog 81 = some (.nilf) := by kernel_rfl
@[simp] theorem by_81 : byOf Try.prog 81 = some 8 := by kernel_rfl
@[simp] theorem sz_82 : szOf Try.prog 82 = some 1 := by kernel_rfl
@[simp] theorem ag_82 : aggOf Try.prog 82 = some false := by kernel_rfl
@[simp] theorem zo_82 : zOf Try.prog 82 = some (.nilf) := by kernel_rfl
@[simp] theorem by_82 : byOf Try.prog 82 = some 8 := by kernel_rfl
@[simp] theorem sz_83 : szOf Try.prog 83 = some 1 := by kernel_rfl
@[simp] theorem ag_83 : aggOf Try.prog 83 = some false := by kernel_rfl
@[simp] theorem zo_83 : zOf Try.prog 83 = some (.nilf) := by kernel_rfl
@[simp] theorem by_83 : byOf Try.prog 83 = some 8 := by kernel_rfl
@[simp] theorem sz_84 : szOf Try.prog 84 = some 1 := by kernel_rfl
@[simp] theorem ag_84 : aggOf Try.prog 84 = some false := by kernel_rfl
@[simp] theorem zo_84 : zOf Try.prog 84 = some (.nilf) := by kernel_rfl
@[simp] theorem by_84 : byOf Try.prog 84 = some 8 := by kernel_rfl
@[simp] theorem sz_85 : szOf Try.prog 85 = some 1 := by kernel_rfl
@[simp] theorem ag_85 : aggOf Try.prog 85 = some false := by kernel_rfl
@[simp] theorem zo_85 : zOf Try.prog 85 = some (.sl .exact []) := by kernel_rfl
@[simp] theorem sl_85 : slOf Try.prog 85 = some (9, 1) := by kernel_rfl
@[simp] theorem li_85 : litOf Try.prog 85 = some (false, 1, [.str ⟨#[]⟩]) := by kernel_rfl
@[simp] theorem un_85 : Try.prog.underlying 85 = some (.slice 9) := by kernel_rfl
@[simp] theorem by_85 : byOf Try.prog 85 = some 24 := by kernel_rfl
@[simp] theorem sz_86 : szOf Try.prog 86 = some 1 := by kernel_rfl
@[simp] theorem ag_86 : aggOf Try.prog 86 = some false := by kernel_rfl
@[simp] theorem zo_86 : zOf Try.prog 86 = some (.nilf) := by kernel_rfl
@[simp] theorem by_86 : byOf Try.prog 86 = some 8 := by kernel_rfl
@[simp] theorem sz_87 : szOf Try.prog 87 = some 1 := by kernel_rfl
@[simp] theorem ag_87 : aggOf Try.prog 87 = some false := by kernel_rfl
@[simp] theorem zo_87 : zOf Try.prog 87 = some (.sl .exact []) := by kernel_rfl
@[simp] theorem sl_87 : slOf Try.prog 87 = some (5, 1) := by kernel_rfl
@[simp] theorem li_87 : litOf Try.prog 87 = some (false, 1, [.int .u8 0]) := by kernel_rfl
@[simp] theorem un_87 : Try.prog.underlying 87 = some (.slice 5) := by kernel_rfl
@[simp] theorem by_87 : byOf Try.prog 87 = some 24 := by kernel_rfl
@[simp] theorem sz_88 : szOf Try.prog 88 = some 1 := by kernel_rfl
@[simp] theorem ag_88 : aggOf Try.prog 88 = some false := by kernel_rfl
@[simp] theorem zo_88 : zOf Try.prog 88 = some (.nilf) := by kernel_rfl
@[simp] theorem by_88 : byOf Try.prog 88 = some 8 := by kernel_rfl
@[simp] theorem sz_89 : szOf Try.prog 89 = some 1 := by kernel_rfl
@[simp] theorem ag_89 : aggOf Try.prog 89 = some false := by kernel_rfl
@[simp] theorem zo_89 : zOf Try.prog 89 = some (.sl .exact []) := by kernel_rfl
@[simp] theorem sl_89 : slOf Try.prog 89 = some (37, 1) := by kernel_rfl
@[simp] theorem li_89 : litOf Try.prog 89 = some (false, 1, [.sl .exact []]) := by kernel_rfl
@[simp] theorem un_89 : Try.prog.underlying 89 = some (.slice 37) := by kernel_rfl
@[simp] theorem by_89 : byOf Try.prog 89 = some 24 := by kernel_rfl
@[simp] theorem sz_90 : szOf Try.prog 90 = some 1 := by kernel_rfl
@[simp] theorem ag_90 : aggOf Try.prog 90 = some false := by kernel_rfl
@[simp] theorem zo_90 : zOf Try.prog 90 = some (.nilf) := by kernel_rfl
@[simp] theorem by_90 : byOf Try.prog 90 = some 8 := by kernel_rfl
@[simp] theorem sz_91 : szOf Try.prog 91 = some 2 := by kernel_rfl
@[simp] theorem ag_91 : aggOf Try.prog 91 = some true := by kernel_rfl
@[simp] theorem zo_91 : zOf Try.prog 91 = some (.agg [.int .u64 0, .int .u64 0]) := by kernel_rfl
@[simp] theorem ar_91 : arrOf Try.prog 91 = some (2, 47, 1, false) := by kernel_rfl
@[simp] theorem bd_91 : bldOf Try.prog 91 = some ([(0, 1), (1, 1)], [.int .u64 0, .int .u64 0]) := by kernel_rfl
@[simp] theorem un_91 : Try.prog.underlying 91 = some (.array 2 47) := by kernel_rfl
@[simp] theorem by_91 : byOf Try.prog 91 = some 16 := by kernel_rfl
@[simp] theorem sz_92 : szOf Try.prog 92 = some 2 := by kernel_rfl
@[simp] theorem ag_92 : aggOf Try.prog 92 = some true := by kernel_rfl
@[simp] theorem zo_92 : zOf Try.prog 92 = some (.agg [.int .u64 0, .int .u64 0]) := by kernel_rfl
@[simp] theorem ar_92 : arrOf Try.prog 92 = some (2, 47, 1, false) := by kernel_rfl
@[simp] theorem bd_92 : bldOf Try.prog 92 = some ([(0, 1), (1, 1)], [.int .u64 0, .int .u64 0]) := by kernel_rfl
@[simp] theorem un_92 : Try.prog.underlying 92 = some (.array 2 47) := by kernel_rfl
@[simp] theorem by_92 : byOf Try.prog 92 = some 16 := by kernel_rfl
@[simp] theorem sz_93 : szOf Try.prog 93 = some 1 := by kernel_rfl
@[simp] theorem ag_93 : aggOf Try.prog 93 = some false := by kernel_rfl
@[simp] theorem zo_93 : zOf Try.prog 93 = some (.nilf) := by kernel_rfl
@[simp] theorem by_93 : byOf Try.prog 93 = some 8 := by kernel_rfl
@[simp] theorem sz_94 : szOf Try.prog 94 = some 1 := by kernel_rfl
@[simp] theorem ag_94 : aggOf Try.prog 94 = some false := by kernel_rfl
@[simp] theorem zo_94 : zOf Try.prog 94 = some (.nilf) := by kernel_rfl
@[simp] theorem by_94 : byOf Try.prog 94 = some 8 := by kernel_rfl
@[simp] theorem sz_95 : szOf Try.prog 95 = some 1 := by kernel_rfl
@[simp] theorem ag_95 : aggOf Try.prog 95 = some false := by kernel_rfl
@[simp] theorem zo_95 : zOf Try.prog 95 = some (.nilf) := by kernel_rfl
@[simp] theorem by_95 : byOf Try.prog 95 = some 8 := by kernel_rfl
@[simp] theorem sz_97 : szOf Try.prog 97 = some 1 := by kernel_rfl
@[simp] theorem ag_97 : aggOf Try.prog 97 = some false := by kernel_rfl
@[simp] theorem zo_97 : zOf Try.prog 97 = some (.nilf) := by kernel_rfl
@[simp] theorem by_97 : byOf Try.prog 97 = some 8 := by kernel_rfl
@[simp] theorem sz_98 : szOf Try.prog 98 = some 1 := by kernel_rfl
@[simp] theorem ag_98 : aggOf Try.prog 98 = some false := by kernel_rfl
@[simp] theorem zo_98 : zOf Try.prog 98 = some (.nilf) := by kernel_rfl
@[simp] theorem by_98 : byOf Try.prog 98 = some 8 := by kernel_rfl
@[simp] theorem sz_99 : szOf Try.prog 99 = some 1 := by kernel_rfl
@[simp] theorem ag_99 : aggOf Try.prog 99 = some false := by kernel_rfl
@[simp] theorem zo_99 : zOf Try.prog 99 = some (.nilf) := by kernel_rfl
@[simp] theorem by_99 : byOf Try.prog 99 = some 8 := by kernel_rfl
@[simp] theorem sz_100 : szOf Try.prog 100 = some 1 := by kernel_rfl
@[simp] theorem ag_100 : aggOf Try.prog 100 = some false := by kernel_rfl
@[simp] theorem zo_100 : zOf Try.prog 100 = some (.nilf) := by kernel_rfl
@[simp] theorem by_100 : byOf Try.prog 100 = some 8 := by kernel_rfl
@[simp] theorem sz_101 : szOf Try.prog 101 = some 1 := by kernel_rfl
@[simp] theorem ag_101 : aggOf Try.prog 101 = some false := by kernel_rfl
@[simp] theorem zo_101 : zOf Try.prog 101 = some (.nilf) := by kernel_rfl
@[simp] theorem by_101 : byOf Try.prog 101 = some 8 := by kernel_rfl
@[simp] theorem sz_102 : szOf Try.prog 102 = some 1 := by kernel_rfl
@[simp] theorem ag_102 : aggOf Try.prog 102 = some false := by kernel_rfl
@[simp] theorem zo_102 : zOf Try.prog 102 = some (.nilf) := by kernel_rfl
@[simp] theorem by_102 : byOf Try.prog 102 = some 8 := by kernel_rfl
@[simp] theorem sz_103 : szOf Try.prog 103 = some 1 := by kernel_rfl
@[simp] theorem ag_103 : aggOf Try.prog 103 = some false := by kernel_rfl
@[simp] theorem zo_103 : zOf Try.prog 103 = some (.nilf) := by kernel_rfl
@[simp] theorem by_103 : byOf Try.prog 103 = some 8 := by kernel_rfl
@[simp] theorem sz_104 : szOf Try.prog 104 = some 1 := by kernel_rfl
@[simp] theorem ag_104 : aggOf Try.prog 104 = some false := by kernel_rfl
@[simp] theorem zo_104 : zOf Try.prog 104 = some (.nilf) := by kernel_rfl
@[simp] theorem by_104 : byOf Try.prog 104 = some 8 := by kernel_rfl
@[simp] theorem sz_105 : szOf Try.prog 105 = some 1 := by kernel_rfl
@[simp] theorem ag_105 : aggOf Try.prog 105 = some false := by kernel_rfl
@[simp] theorem zo_105 : zOf Try.prog 105 = some (.nilf) := by kernel_rfl
@[simp] theorem by_105 : byOf Try.prog 105 = some 8 := by kernel_rfl
@[simp] theorem sz_106 : szOf Try.prog 106 = some 1 := by kernel_rfl
@[simp] theorem ag_106 : aggOf Try.prog 106 = some false := by kernel_rfl
@[simp] theorem zo_106 : zOf Try.prog 106 = some (.sl .exact []) := by kernel_rfl
@[simp] theorem sl_106 : slOf Try.prog 106 = some (25, 3) := by kernel_rfl
@[simp] theorem li_106 : litOf Try.prog 106 = some (true, 3, [.int .i64 0, .int .i64 0, .str ⟨#[]⟩]) := by kernel_rfl
@[simp] theorem un_106 : Try.prog.underlying 106 = some (.slice 25) := by kernel_rfl
@[simp] theorem by_106 : byOf Try.prog 106 = some 24 := by kernel_rfl
@[simp] theorem sz_107 : szOf Try.prog 107 = some 1 := by kernel_rfl
@[simp] theorem ag_107 : aggOf Try.prog 107 = some false := by kernel_rfl
@[simp] theorem zo_107 : zOf Try.prog 107 = some (.nilm) := by kernel_rfl
@[simp] theorem un_107 : Try.prog.underlying 107 = some (.map 9 3) := by kernel_rfl
@[simp] theorem mp_107 : mapOf Try.prog 107 = some (9, .int .i64 0) := by kernel_rfl
@[simp] theorem by_107 : byOf Try.prog 107 = some 8 := by kernel_rfl
@[simp] theorem sz_108 : szOf Try.prog 108 = some 1 := by kernel_rfl
@[simp] theorem ag_108 : aggOf Try.prog 108 = some false := by kernel_rfl
@[simp] theorem zo_108 : zOf Try.prog 108 = some (.nilf) := by kernel_rfl
@[simp] theorem by_108 : byOf Try.prog 108 = some 8 := by kernel_rfl
@[simp] theorem sz_109 : szOf Try.prog 109 = some 1 := by kernel_rfl
@[simp] theorem ag_109 : aggOf Try.prog 109 = some false := by kernel_rfl
@[simp] theorem zo_109 : zOf Try.prog 109 = some (.nilf) := by kernel_rfl
@[simp] theorem by_109 : byOf Try.prog 109 = some 8 := by kernel_rfl
@[simp] theorem sz_110 : szOf Try.prog 110 = some 1 := by kernel_rfl
@[simp] theorem ag_110 : aggOf Try.prog 110 = some false := by kernel_rfl
@[simp] theorem zo_110 : zOf Try.prog 110 = some (.nilf) := by kernel_rfl
@[simp] theorem by_110 : byOf Try.prog 110 = some 8 := by kernel_rfl
@[simp] theorem sz_111 : szOf Try.prog 111 = some 1 := by kernel_rfl
@[simp] theorem ag_111 : aggOf Try.prog 111 = some false := by kernel_rfl
@[simp] theorem zo_111 : zOf Try.prog 111 = some (.nilf) := by kernel_rfl
@[simp] theorem by_111 : byOf Try.prog 111 = some 8 := by kernel_rfl
@[simp] theorem sz_112 : szOf Try.prog 112 = some 1 := by kernel_rfl
@[simp] theorem ag_112 : aggOf Try.prog 112 = some false := by kernel_rfl
@[simp] theorem zo_112 : zOf Try.prog 112 = some (.int .u64 0) := by kernel_rfl
@[simp] theorem un_112 : Try.prog.underlying 112 = some (.int .u64) := by kernel_rfl
@[simp] theorem by_112 : byOf Try.prog 112 = some 8 := by kernel_rfl
@[simp] theorem sz_113 : szOf Try.prog 113 = some 1 := by kernel_rfl
@[simp] theorem ag_113 : aggOf Try.prog 113 = some false := by kernel_rfl
@[simp] theorem zo_113 : zOf Try.prog 113 = some (.nilf) := by kernel_rfl
@[simp] theorem by_113 : byOf Try.prog 113 = some 8 := by kernel_rfl
@[simp] theorem sz_114 : szOf Try.prog 114 = some 1 := by kernel_rfl
@[simp] theorem ag_114 : aggOf Try.prog 114 = some false := by kernel_rfl
@[simp] theorem zo_114 : zOf Try.prog 114 = some (.nilf) := by kernel_rfl
@[simp] theorem by_114 : byOf Try.prog 114 = some 8 := by kernel_rfl
@[simp] theorem sz_115 : szOf Try.prog 115 = some 1 := by kernel_rfl
@[simp] theorem ag_115 : aggOf Try.prog 115 = some false := by kernel_rfl
@[simp] theorem zo_115 : zOf Try.prog 115 = some (.nilf) := by kernel_rfl
@[simp] theorem by_115 : byOf Try.prog 115 = some 8 := by kernel_rfl
@[simp] theorem sz_116 : szOf Try.prog 116 = some 1 := by kernel_rfl
@[simp] theorem ag_116 : aggOf Try.prog 116 = some false := by kernel_rfl
@[simp] theorem zo_116 : zOf Try.prog 116 = some (.nilf) := by kernel_rfl
@[simp] theorem by_116 : byOf Try.prog 116 = some 8 := by kernel_rfl
@[simp] theorem sz_117 : szOf Try.prog 117 = some 1 := by kernel_rfl
@[simp] theorem ag_117 : aggOf Try.prog 117 = some false := by kernel_rfl
@[simp] theorem zo_117 : zOf Try.prog 117 = some (.nilf) := by kernel_rfl
@[simp] theorem by_117 : byOf Try.prog 117 = some 8 := by kernel_rfl
@[simp] theorem sz_118 : szOf Try.prog 118 = some 1 := by kernel_rfl
@[simp] theorem ag_118 : aggOf Try.prog 118 = some false := by kernel_rfl
@[simp] theorem zo_118 : zOf Try.prog 118 = some (.nilf) := by kernel_rfl
@[simp] theorem by_118 : byOf Try.prog 118 = some 8 := by kernel_rfl
@[simp] theorem sz_119 : szOf Try.prog 119 = some 4 := by kernel_rfl
@[simp] theorem ag_119 : aggOf Try.prog 119 = some true := by kernel_rfl
@[simp] theorem zo_119 : zOf Try.prog 119 = some (.agg [.nilp, .nilp, .nilp, .str ⟨#[]⟩]) := by kernel_rfl
@[simp] theorem ft_119 : ftOf Try.prog 119 = some (4, [(17, 0, 1), (17, 1, 1), (17, 2, 1), (9, 3, 1)]) := by kernel_rfl
@[simp] theorem fd_119_0 : fldOf Try.prog 119 0 = some (0, 1, false) := by kernel_rfl
@[simp] theorem fd_119_1 : fldOf Try.prog 119 1 = some (1, 1, false) := by kernel_rfl
@[simp] theorem fd_119_2 : fldOf Try.prog 119 2 = some (2, 1, false) := by kernel_rfl
@[simp] theorem fd_119_3 : fldOf Try.prog 119 3 = some (3, 1, false) := by kernel_rfl
@[simp] theorem bd_119 : bldOf Try.prog 119 = some ([(0, 1), (1, 1), (2, 1), (3, 1)], [.nilp, .nilp, .nilp, .str ⟨#[]⟩]) := by kernel_rfl
@[simp] theorem by_119 : byOf Try.prog 119 = some 40 := by kernel_rfl
@[simp] theorem sz_120 : szOf Try.prog 120 = some 4 := by kernel_rfl
@[simp] theorem ag_120 : aggOf Try.prog 120 = some true := by kernel_rfl
@[simp] theorem zo_120 : zOf Try.prog 120 = some (.agg [.nilp, .nilp, .nilp, .str ⟨#[]⟩]) := by kernel_rfl
@[simp] theorem ft_120 : ftOf Try.prog 120 = some (4, [(17, 0, 1), (17, 1, 1), (17, 2, 1), (9, 3, 1)]) := by kernel_rfl
@[simp] theorem fd_120_0 : fldOf Try.prog 120 0 = some (0, 1, false) := by kernel_rfl
@[simp] theorem fd_120_1 : fldOf Try.prog 120 1 = some (1, 1, false) := by kernel_rfl
@[simp] theorem fd_120_2 : fldOf Try.prog 120 2 = some (2, 1, false) := by kernel_rfl
@[simp] theorem fd_120_3 : fldOf Try.prog 120 3 = some (3, 1, false) := by kernel_rfl
@[simp] theorem bd_120 : bldOf Try.prog 120 = some ([(0, 1), (1, 1), (2, 1), (3, 1)], [.nilp, .nilp, .nilp, .str ⟨#[]⟩]) := by kernel_rfl
@[simp] theorem by_120 : byOf Try.prog 120 = some 40 := by kernel_rfl
@[simp] theorem sz_121 : szOf Try.prog 121 = some 0 := by kernel_rfl
@[simp] theorem ag_121 : aggOf Try.prog 121 = some true := by kernel_rfl
@[simp] theorem zo_121 : zOf Try.prog 121 = some (.agg []) := by kernel_rfl
@[simp] theorem ar_121 : arrOf Try.prog 121 = some (0, 16, 1, false) := by kernel_rfl
@[simp] theorem bd_121 : bldOf Try.prog 121 = some ([], []) := by kernel_rfl
@[simp] theorem un_121 : Try.prog.underlying 121 = some (.array 0 16) := by kernel_rfl
@[simp] theorem by_121 : byOf Try.prog 121 = some 0 := by kernel_rfl
@[simp] theorem sz_122 : szOf Try.prog 122 = some 0 := by kernel_rfl
@[simp] theorem ag_122 : aggOf Try.prog 122 = some true := by kernel_rfl
@[simp] theorem zo_122 : zOf Try.prog 122 = some (.agg []) := by kernel_rfl
@[simp] theorem ft_122 : ftOf Try.prog 122 = some (0, [(121, 0, 0)]) := by kernel_rfl
@[simp] theorem fd_122_0 : fldOf Try.prog 122 0 = some (0, 0, true) := by kernel_rfl
@[simp] theorem bd_122 : bldOf Try.prog 122 = some ([(0, 0)], []) := by kernel_rfl
@[simp] theorem by_122 : byOf Try.prog 122 = some 0 := by kernel_rfl
@[simp] theorem sz_123 : szOf Try.prog 123 = some 0 := by kernel_rfl
@[simp] theorem ag_123 : aggOf Try.prog 123 = some true := by kernel_rfl
@[simp] theorem zo_123 : zOf Try.prog 123 = some (.agg []) := by kernel_rfl
@[simp] theorem ft_123 : ftOf Try.prog 123 = some (0, [(121, 0, 0)]) := by kernel_rfl
@[simp] theorem fd_123_0 : fldOf Try.prog 123 0 = some (0, 0, true) := by kernel_rfl
@[simp] theorem bd_123 : bldOf Try.prog 123 = some ([(0, 0)], []) := by kernel_rfl
@[simp] theorem by_123 : byOf Try.prog 123 = some 0 := by kernel_rfl
@[simp] theorem sz_124 : szOf Try.prog 124 = some 1 := by kernel_rfl
@[simp] theorem ag_124 : aggOf Try.prog 124 = some false := by kernel_rfl
@[simp] theorem zo_124 : zOf Try.prog 124 = some (.nilf) := by kernel_rfl
@[simp] theorem by_124 : byOf Try.prog 124 = some 8 := by kernel_rfl
@[simp] theorem sz_125 : szOf Try.prog 125 = some 1 := by kernel_rfl
@[simp] theorem ag_125 : aggOf Try.prog 125 = some false := by kernel_rfl
@[simp] theorem zo_125 : zOf Try.prog 125 = some (.int .u32 0) := by kernel_rfl
@[simp] theorem un_125 : Try.prog.underlying 125 = some (.int .u32) := by kernel_rfl
@[simp] theorem by_125 : byOf Try.prog 125 = some 4 := by kernel_rfl
@[simp] theorem sz_126 : szOf Try.prog 126 = some 1 := by kernel_rfl
@[simp] theorem ag_126 : aggOf Try.prog 126 = some false := by kernel_rfl
@[simp] theorem zo_126 : zOf Try.prog 126 = some (.int .u8 0) := by kernel_rfl
@[simp] theorem un_126 : Try.prog.underlying 126 = some (.int .u8) := by kernel_rfl
@[simp] theorem by_126 : byOf Try.prog 126 = some 1 := by kernel_rfl
@[simp] theorem sz_127 : szOf Try.prog 127 = some 1 := by kernel_rfl
@[simp] theorem ag_127 : aggOf Try.prog 127 = some false := by kernel_rfl
@[simp] theorem zo_127 : zOf Try.prog 127 = some (.int .u8 0) := by kernel_rfl
@[simp] theorem un_127 : Try.prog.underlying 127 = some (.int .u8) := by kernel_rfl
@[simp] theorem by_127 : byOf Try.prog 127 = some 1 := by kernel_rfl
@[simp] theorem sz_128 : szOf Try.prog 128 = some 1 := by kernel_rfl
@[simp] theorem ag_128 : aggOf Try.prog 128 = some false := by kernel_rfl
@[simp] theorem zo_128 : zOf Try.prog 128 = some (.nilf) := by kernel_rfl
@[simp] theorem by_128 : byOf Try.prog 128 = some 8 := by kernel_rfl
@[simp] theorem sz_129 : szOf Try.prog 129 = some 1 := by kernel_rfl
@[simp] theorem ag_129 : aggOf Try.prog 129 = some false := by kernel_rfl
@[simp] theorem zo_129 : zOf Try.prog 129 = some (.nilp) := by kernel_rfl
@[simp] theorem un_129 : Try.prog.underlying 129 = some (.pointer 5) := by kernel_rfl
@[simp] theorem by_129 : byOf Try.prog 129 = some 8 := by kernel_rfl
@[simp] theorem sz_130 : szOf Try.prog 130 = some 1 := by kernel_rfl
@[simp] theorem ag_130 : aggOf Try.prog 130 = some false := by kernel_rfl
@[simp] theorem zo_130 : zOf Try.prog 130 = some (.int .i32 0) := by kernel_rfl
@[simp] theorem un_130 : Try.prog.underlying 130 = some (.int .i32) := by kernel_rfl
@[simp] theorem by_130 : byOf Try.prog 130 = some 4 := by kernel_rfl
@[simp] theorem sz_131 : szOf Try.prog 131 = some 1 := by kernel_rfl
@[simp] theorem ag_131 : aggOf Try.prog 131 = some false := by kernel_rfl
@[simp] theorem zo_131 : zOf Try.prog 131 = some (.int .i32 0) := by kernel_rfl
@[simp] theorem un_131 : Try.prog.underlying 131 = some (.int .i32) := by kernel_rfl
@[simp] theorem by_131 : byOf Try.prog 131 = some 4 := by kernel_rfl
@[simp] theorem sz_132 : szOf Try.prog 132 = some 11 := by kernel_rfl
@[simp] theorem ag_132 : aggOf Try.prog 132 = some true := by kernel_rfl
@[simp] theorem zo_132 : zOf Try.prog 132 = some (.agg [.int .u64 0, .int .u64 0, .int .u32 0, .int .u8 0, .int .u8 0, .int .u8 0, .int .u8 0, .nilf, .nilp, .int .i32 0, .int .i32 0]) := by kernel_rfl
@[simp] theorem ft_132 : ftOf Try.prog 132 = some (11, [(12, 0, 1), (12, 1, 1), (125, 2, 1), (126, 3, 1), (5, 4, 1), (5, 5, 1), (127, 6, 1), (128, 7, 1), (129, 8, 1), (130, 9, 1), (131, 10, 1)]) := by kernel_rfl
@[simp] theorem fd_132_0 : fldOf Try.prog 132 0 = some (0, 1, false) := by kernel_rfl
@[simp] theorem fd_132_1 : fldOf Try.prog 132 1 = some (1, 1, false) := by kernel_rfl
@[simp] theorem fd_132_2 : fldOf Try.prog 132 2 = some (2, 1, false) := by kernel_rfl
@[simp] theorem fd_132_3 : fldOf Try.prog 132 3 = some (3, 1, false) := by kernel_rfl
@[simp] theorem fd_132_4 : fldOf Try.prog 132 4 = some (4, 1, false) := by kernel_rfl
@[simp] theorem fd_132_5 : fldOf Try.prog 132 5 = some (5, 1, false) := by kernel_rfl
@[simp] theorem fd_132_6 : fldOf Try.prog 132 6 = some (6, 1, false) := by kernel_rfl
@[simp] theorem fd_132_7 : fldOf Try.prog 132 7 = some (7, 1, false) := by kernel_rfl
@[simp] theorem fd_132_8 : fldOf Try.prog 132 8 = some (8, 1, false) := by kernel_rfl
@[simp] theorem fd_132_9 : fldOf Try.prog 132 9 = some (9, 1, false) := by kernel_rfl
@[simp] theorem fd_132_10 : fldOf Try.prog 132 10 = some (10, 1, false) := by kernel_rfl
@[simp] theorem bd_132 : bldOf Try.prog 132 = some ([(0, 1), (1, 1), (2, 1), (3, 1), (4, 1), (5, 1), (6, 1), (7, 1), (8, 1), (9, 1), (10, 1)], [.int .u64 0, .int .u64 0, .int .u32 0, .int .u8 0, .int .u8 0, .int .u8 0, .int .u8 0, .nilf, .nilp, .int .i32 0, .int .i32 0]) := by kernel_rfl
@[simp] theorem by_132 : byOf Try.prog 132 = some 48 := by kernel_rfl
@[simp] theorem sz_133 : szOf Try.prog 133 = some 11 := by kernel_rfl
@[simp] theorem ag_133 : aggOf Try.prog 133 = some true := by kernel_rfl
@[simp] theorem zo_133 : zOf Try.prog 133 = some (.agg [.int .u64 0, .int .u64 0, .int .u32 0, .int .u8 0, .int .u8 0, .int .u8 0, .int .u8 0, .nilf, .nilp, .int .i32 0, .int .i32 0]) := by kernel_rfl
@[simp] theorem ft_133 : ftOf Try.prog 133 = some (11, [(12, 0, 1), (12, 1, 1), (125, 2, 1), (126, 3, 1), (5, 4, 1), (5, 5, 1), (127, 6, 1), (128, 7, 1), (129, 8, 1), (130, 9, 1), (131, 10, 1)]) := by kernel_rfl
@[simp] theorem fd_133_0 : fldOf Try.prog 133 0 = some (0, 1, false) := by kernel_rfl
@[simp] theorem fd_133_1 : fldOf Try.prog 133 1 = some (1, 1, false) := by kernel_rfl
@[simp] theorem fd_133_2 : fldOf Try.prog 133 2 = some (2, 1, false) := by kernel_rfl
@[simp] theorem fd_133_3 : fldOf Try.prog 133 3 = some (3, 1, false) := by kernel_rfl
@[simp] theorem fd_133_4 : fldOf Try.prog 133 4 = some (4, 1, false) := by kernel_rfl
@[simp] theorem fd_133_5 : fldOf Try.prog 133 5 = some (5, 1, false) := by kernel_rfl
@[simp] theorem fd_133_6 : fldOf Try.prog 133 6 = some (6, 1, false) := by kernel_rfl
@[simp] theorem fd_133_7 : fldOf Try.prog 133 7 = some (7, 1, false) := by kernel_rfl
@[simp] theorem fd_133_8 : fldOf Try.prog 133 8 = some (8, 1, false) := by kernel_rfl
@[simp] theorem fd_133_9 : fldOf Try.prog 133 9 = some (9, 1, false) := by kernel_rfl
@[simp] theorem fd_133_10 : fldOf Try.prog 133 10 = some (10, 1, false) := by kernel_rfl
@[simp] theorem bd_133 : bldOf Try.prog 133 = some ([(0, 1), (1, 1), (2, 1), (3, 1), (4, 1), (5, 1), (6, 1), (7, 1), (8, 1), (9, 1), (10, 1)], [.int .u64 0, .int .u64 0, .int .u32 0, .int .u8 0, .int .u8 0, .int .u8 0, .int .u8 0, .nilf, .nilp, .int .i32 0, .int .i32 0]) := by kernel_rfl
@[simp] theorem by_133 : byOf Try.prog 133 = some 48 := by kernel_rfl
def allS : List Nat := [2, 3, 4, 5, 6, 7, 8, 9, 10, 11, 12, 13, 14, 21, 24, 25, 37, 47, 48, 49, 51, 56, 57, 67, 69, 70, 71, 72, 78, 79, 85, 87, 89, 106, 112, 125, 126, 127, 130, 131]
theorem plain_all : plainS Try.prog allS = true := by kernel_rfl
end Go.Proofs.Ytgmhmdmfnmlhmaa.PL
