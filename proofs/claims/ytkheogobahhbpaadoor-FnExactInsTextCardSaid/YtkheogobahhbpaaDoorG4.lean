/- Facts about the types of the program. Names: what the program and the reference compute. Numbers and instructions as text. Numbers and instructions as text: the program's hand. FnExactInsText: the law, told of trees. -/
import Derived.Test.YtkheogobahhbpaaDoorG2
import Derived.Test.YtkheogobahhbpaaDoorProg
import Derived.Test.YtkheogobahhbpaaDoorG3
import Derived.Shelf.Lay
import Derived.Ground.NamesProg
import Derived.Shelf.Strconv.Itoa3
import Derived.WalkKit
namespace Go.T
open Go Go.Proofs
set_option maxRecDepth 10000
@[simp] theorem ld_2 : loadT Tryd.prog 2 = some (1, false) := by kernel_rfl
@[simp] theorem sz_2 : szT Tryd.prog 2 = some 1 := by kernel_rfl
@[simp] theorem ag_2 : aggT Tryd.prog 2 = some false := by kernel_rfl
@[simp] theorem un_2 : Tryd.prog.underlying 2 = some (.int .i64) := by kernel_rfl
@[simp] theorem zt_2 : zeroT Tryd.prog 2 = some (.int .i64 0) := by kernel_rfl
@[simp] theorem zr_2 : zeroE Tryd.prog 2 = some (.int .i64 0) := by kernel_rfl
@[simp] theorem ld_3 : loadT Tryd.prog 3 = some (1, false) := by kernel_rfl
@[simp] theorem sz_3 : szT Tryd.prog 3 = some 1 := by kernel_rfl
@[simp] theorem ag_3 : aggT Tryd.prog 3 = some false := by kernel_rfl
@[simp] theorem un_3 : Tryd.prog.underlying 3 = some (.int .i64) := by kernel_rfl
@[simp] theorem zt_3 : zeroT Tryd.prog 3 = some (.int .i64 0) := by kernel_rfl
@[simp] theorem zr_3 : zeroE Tryd.prog 3 = some (.int .i64 0) := by kernel_rfl
@[simp] theorem ld_4 : loadT Tryd.prog 4 = some (1, false) := by kernel_rfl
@[simp] theorem sz_4 : szT Tryd.prog 4 = some 1 := by kernel_rfl
@[simp] theorem ag_4 : aggT Tryd.prog 4 = some false := by kernel_rfl
@[simp] theorem un_4 : Tryd.prog.underlying 4 = some .bool := by kernel_rfl
@[simp] theorem zt_4 : zeroT Tryd.prog 4 = some (.bool false) := by kernel_rfl
@[simp] theorem zr_4 : zeroE Tryd.prog 4 = some (.bool false) := by kernel_rfl
@[simp] theorem ld_5 : loadT Tryd.prog 5 = some (1, false) := by kernel_rfl
@[simp] theorem sz_5 : szT Tryd.prog 5 = some 1 := by kernel_rfl
@[simp] theorem ag_5 : aggT Tryd.prog 5 = some false := by kernel_rfl
@[simp] theorem un_5 : Tryd.prog.underlying 5 = some (.int .u8) := by kernel_rfl
@[simp] theorem zt_5 : zeroT Tryd.prog 5 = some (.int .u8 0) := by kernel_rfl
@[simp] theorem zr_5 : zeroE Tryd.prog 5 = some (.int .u8 0) := by kernel_rfl
@[simp] theorem ld_9 : loadT Tryd.prog 9 = some (1, false) := by kernel_rfl
@[simp] theorem sz_9 : szT Tryd.prog 9 = some 1 := by kernel_rfl
@[simp] theorem ag_9 : aggT Tryd.prog 9 = some false := by kernel_rfl
@[simp] theorem un_9 : Tryd.prog.underlying 9 = some .string := by kernel_rfl
@[simp] theorem zt_9 : zeroT Tryd.prog 9 = some (.str ByteArray.empty) := by kernel_rfl
@[simp] theorem zr_9 : zeroE Tryd.prog 9 = some (.str ByteArray.empty) := by kernel_rfl
@[simp] theorem ld_12 : loadT Tryd.prog 12 = some (1, false) := by kernel_rfl
@[simp] theorem sz_12 : szT Tryd.prog 12 = some 1 := by kernel_rfl
@[simp] theorem ag_12 : aggT Tryd.prog 12 = some false := by kernel_rfl
@[simp] theorem zt_12 : zeroT Tryd.prog 12 = some (.int .u64 0) := by kernel_rfl
@[simp] theorem zr_12 : zeroE Tryd.prog 12 = some (.int .u64 0) := by kernel_rfl
@[simp] theorem ld_13 : loadT Tryd.prog 13 = some (2, true) := by kernel_rfl
@[simp] theorem sz_13 : szT Tryd.prog 13 = some 2 := by kernel_rfl
@[simp] theorem ag_13 : aggT Tryd.prog 13 = some true := by kernel_rfl
@[simp] theorem fd_13_0 : fieldT Tryd.prog 13 0 = some (0, 1, false) := by kernel_rfl
@[simp] theorem fd_13_1 : fieldT Tryd.prog 13 1 = some (1, 1, false) := by kernel_rfl
@[simp] theorem pl_13 : placesT Tryd.prog 13 = some [(0, 1), (1, 1)] := by kernel_rfl
@[simp] theorem zt_13 : zeroT Tryd.prog 13 = some (.agg [.str ByteArray.empty, .int .u64 0]) := by kernel_rfl
@[simp] theorem zr_13 : zeroE Tryd.prog 13 = some (.agg [.str ByteArray.empty, .int .u64 0]) := by kernel_rfl
@[simp] theorem ld_21 : loadT Tryd.prog 21 = some (1, false) := by kernel_rfl
@[simp] theorem sz_21 : szT Tryd.prog 21 = some 1 := by kernel_rfl
@[simp] theorem ag_21 : aggT Tryd.prog 21 = some false := by kernel_rfl
@[simp] theorem un_21 : Tryd.prog.underlying 21 = some (.int .i32) := by kernel_rfl
@[simp] theorem zt_21 : zeroT Tryd.prog 21 = some (.int .i32 0) := by kernel_rfl
@[simp] theorem zr_21 : zeroE Tryd.prog 21 = some (.int .i32 0) := by kernel_rfl
@[simp] theorem ld_22 : loadT Tryd.prog 22 = some (3, true) := by kernel_rfl
@[simp] theorem sz_22 : szT Tryd.prog 22 = some 3 := by kernel_rfl
@[simp] theorem ag_22 : aggT Tryd.prog 22 = some true := by kernel_rfl
@[simp] theorem fd_22_0 : fieldT Tryd.prog 22 0 = some (0, 1, false) := by kernel_rfl
@[simp] theorem fd_22_1 : fieldT Tryd.prog 22 1 = some (1, 1, false) := by kernel_rfl
@[simp] theorem fd_22_2 : fieldT Tryd.prog 22 2 = some (2, 1, false) := by kernel_rfl
@[simp] theorem pl_22 : placesT Tryd.prog 22 = some [(0, 1), (1, 1), (2, 1)] := by kernel_rfl
@[simp] theorem zt_22 : zeroT Tryd.prog 22 = some (.agg [.int .i64 0, .int .i64 0, .int .i64 0]) := by kernel_rfl
@[simp] theorem zr_22 : zeroE Tryd.prog 22 = some (.agg [.int .i64 0, .int .i64 0, .int .i64 0]) := by kernel_rfl
@[simp] theorem ld_23 : loadT Tryd.prog 23 = some (3, true) := by kernel_rfl
@[simp] theorem sz_23 : szT Tryd.prog 23 = some 3 := by kernel_rfl
@[simp] theorem ag_23 : aggT Tryd.prog 23 = some true := by kernel_rfl
@[simp] theorem fd_23_0 : fieldT Tryd.prog 23 0 = some (0, 1, false) := by kernel_rfl
@[simp] theorem fd_23_1 : fieldT Tryd.prog 23 1 = some (1, 1, false) := by kernel_rfl
@[simp] theorem fd_23_2 : fieldT Tryd.prog 23 2 = some (2, 1, false) := by kernel_rfl
@[simp] theorem pl_23 : placesT Tryd.prog 23 = some [(0, 1), (1, 1), (2, 1)] := by kernel_rfl
@[simp] theorem zt_23 : zeroT Tryd.prog 23 = some (.agg [.int .i64 0, .int .i64 0, .int .i64 0]) := by kernel_rfl
@[simp] theorem zr_23 : zeroE Tryd.prog 23 = some (.agg [.int .i64 0, .int .i64 0, .int .i64 0]) := by kernel_rfl
@[simp] theorem ld_25 : loadT Tryd.prog 25 = some (3, true) := by kernel_rfl
@[simp] theorem sz_25 : szT Tryd.prog 25 = some 3 := by kernel_rfl
@[simp] theorem ag_25 : aggT Tryd.prog 25 = some true := by kernel_rfl
@[simp] theorem fd_25_0 : fieldT Tryd.prog 25 0 = some (0, 1, false) := by kernel_rfl
@[simp] theorem fd_25_1 : fieldT Tryd.prog 25 1 = some (1, 1, false) := by kernel_rfl
@[simp] theorem fd_25_2 : fieldT Tryd.prog 25 2 = some (2, 1, false) := by kernel_rfl
@[simp] theorem pl_25 : placesT Tryd.prog 25 = some [(0, 1), (1, 1), (2, 1)] := by kernel_rfl
@[simp] theorem zt_25 : zeroT Tryd.prog 25 = some (.agg [.int .i64 0, .int .i64 0, .int .i64 0]) := by kernel_rfl
@[simp] theorem zr_25 : zeroE Tryd.prog 25 = some (.agg [.int .i64 0, .int .i64 0, .int .i64 0]) := by kernel_rfl
@[simp] theorem ld_28 : loadT Tryd.prog 28 = some (1, false) := by kernel_rfl
@[simp] theorem sz_28 : szT Tryd.prog 28 = some 1 := by kernel_rfl
@[simp] theorem ag_28 : aggT Tryd.prog 28 = some false := by kernel_rfl
@[simp] theorem es_28 : esz Tryd.prog 28 = some 1 := by kernel_rfl
@[simp] theorem el_28 : elemT Tryd.prog 28 = some 5 := by kernel_rfl
@[simp] theorem un_28 : Tryd.prog.underlying 28 = some (.slice 5) := by kernel_rfl
@[simp] theorem ii_28 : isIntT Tryd.prog 28 = some false := by kernel_rfl
@[simp] theorem by_5 : bytesT Tryd.prog 5 = some 1 := by kernel_rfl
theorem et_28 : ElemT Tryd.prog 28 5 1 1 := ⟨by kernel_rfl, by kernel_rfl, by kernel_rfl, by kernel_rfl, ⟨.int .u8 0, by kernel_rfl, by kernel_rfl⟩, by decide⟩
@[simp] theorem zt_28 : zeroT Tryd.prog 28 = some (.lst true 0 []) := by kernel_rfl
@[simp] theorem zr_28 : zeroE Tryd.prog 28 = some (.lst true 0 []) := by kernel_rfl
@[simp] theorem ld_30 : loadT Tryd.prog 30 = some (1, false) := by kernel_rfl
@[simp] theorem sz_30 : szT Tryd.prog 30 = some 1 := by kernel_rfl
@[simp] theorem ag_30 : aggT Tryd.prog 30 = some false := by kernel_rfl
@[simp] theorem ld_32 : loadT Tryd.prog 32 = some (1, false) := by kernel_rfl
@[simp] theorem sz_32 : szT Tryd.prog 32 = some 1 := by kernel_rfl
@[simp] theorem ag_32 : aggT Tryd.prog 32 = some false := by kernel_rfl
@[simp] theorem es_32 : esz Tryd.prog 32 = some 3 := by kernel_rfl
@[simp] theorem el_32 : elemT Tryd.prog 32 = some 25 := by kernel_rfl
@[simp] theorem un_32 : Tryd.prog.underlying 32 = some (.slice 25) := by kernel_rfl
@[simp] theorem ii_32 : isIntT Tryd.prog 32 = some false := by kernel_rfl
@[simp] theorem by_25 : bytesT Tryd.prog 25 = some 24 := by kernel_rfl
theorem et_32 : ElemT Tryd.prog 32 25 3 24 := ⟨by kernel_rfl, by kernel_rfl, by kernel_rfl, by kernel_rfl, ⟨.agg [.int .i64 0, .int .i64 0, .int .i64 0], by kernel_rfl, by kernel_rfl⟩, by decide⟩
@[simp] theorem zt_32 : zeroT Tryd.prog 32 = some (.lst true 0 []) := by kernel_rfl
@[simp] theorem zr_32 : zeroE Tryd.prog 32 = some (.lst true 0 []) := by kernel_rfl
@[simp] theorem ld_33 : loadT Tryd.prog 33 = some (1, false) := by kernel_rfl
@[simp] theorem sz_33 : szT Tryd.prog 33 = some 1 := by kernel_rfl
@[simp] theorem ag_33 : aggT Tryd.prog 33 = some false := by kernel_rfl
@[simp] theorem ld_38 : loadT Tryd.prog 38 = some (1, false) := by kernel_rfl
@[simp] theorem sz_38 : szT Tryd.prog 38 = some 1 := by kernel_rfl
@[simp] theorem ag_38 : aggT Tryd.prog 38 = some false := by kernel_rfl
@[simp] theorem es_38 : esz Tryd.prog 38 = some 1 := by kernel_rfl
@[simp] theorem el_38 : elemT Tryd.prog 38 = some 9 := by kernel_rfl
@[simp] theorem un_38 : Tryd.prog.underlying 38 = some (.slice 9) := by kernel_rfl
@[simp] theorem ii_38 : isIntT Tryd.prog 38 = some false := by kernel_rfl
@[simp] theorem by_9 : bytesT Tryd.prog 9 = some 16 := by kernel_rfl
theorem et_38 : ElemT Tryd.prog 38 9 1 16 := ⟨by kernel_rfl, by kernel_rfl, by kernel_rfl, by kernel_rfl, ⟨.str ByteArray.empty, by kernel_rfl, by kernel_rfl⟩, by decide⟩
@[simp] theorem zt_38 : zeroT Tryd.prog 38 = some (.lst true 0 []) := by kernel_rfl
@[simp] theorem zr_38 : zeroE Tryd.prog 38 = some (.lst true 0 []) := by kernel_rfl
@[simp] theorem ld_41 : loadT Tryd.prog 41 = some (19, true) := by kernel_rfl
@[simp] theorem sz_41 : szT Tryd.prog 41 = some 19 := by kernel_rfl
@[simp] theorem ag_41 : aggT Tryd.prog 41 = some true := by kernel_rfl
@[simp] theorem un_41 : Tryd.prog.underlying 41 = some (.array 19 9) := by kernel_rfl
@[simp] theorem pl_41 : placesT Tryd.prog 41 = some [(0, 1), (1, 1), (2, 1), (3, 1), (4, 1), (5, 1), (6, 1), (7, 1), (8, 1), (9, 1), (10, 1), (11, 1), (12, 1), (13, 1), (14, 1), (15, 1), (16, 1), (17, 1), (18, 1)] := by kernel_rfl
@[simp] theorem zt_41 : zeroT Tryd.prog 41 = some (.agg [.str ByteArray.empty, .str ByteArray.empty, .str ByteArray.empty, .str ByteArray.empty, .str ByteArray.empty, .str ByteArray.empty, .str ByteArray.empty, .str ByteArray.empty, .str ByteArray.empty, .str ByteArray.empty, .str ByteArray.empty, .str ByteArray.empty, .str ByteArray.empty, .str ByteArray.empty, .str ByteArray.empty, .str ByteArray.empty, .str ByteArray.empty, .str ByteArray.empty, .str ByteArray.empty]) := by kernel_rfl
@[simp] theorem zr_41 : zeroE Tryd.prog 41 = some (.agg [.str ByteArray.empty, .str ByteArray.empty, .str ByteArray.empty, .str ByteArray.empty, .str ByteArray.empty, .str ByteArray.empty, .str ByteArray.empty, .str ByteArray.empty, .str ByteArray.empty, .str ByteArray.empty, .str ByteArray.empty, .str ByteArray.empty, .str ByteArray.empty, .str ByteArray.empty, .str ByteArray.empty, .str ByteArray.empty, .str ByteArray.empty, .str ByteArray.empty, .str ByteArray.empty]) := by kernel_rfl
@[simp] theorem ld_42 : loadT Tryd.prog 42 = some (1, false) := by kernel_rfl
@[simp] theorem sz_42 : szT Tryd.prog 42 = some 1 := by kernel_rfl
@[simp] theorem ag_42 : aggT Tryd.prog 42 = some false := by kernel_rfl
@[simp] theorem un_42 : Tryd.prog.underlying 42 = some (.pointer 51) := by kernel_rfl
@[simp] theorem zt_42 : zeroT Tryd.prog 42 = some (.nilp) := by kernel_rfl
@[simp] theorem zr_42 : zeroE Tryd.prog 42 = some (.nilp) := by kernel_rfl
@[simp] theorem ld_46 : loadT Tryd.prog 46 = some (1, false) := by kernel_rfl
@[simp] theorem sz_46 : szT Tryd.prog 46 = some 1 := by kernel_rfl
@[simp] theorem ag_46 : aggT Tryd.prog 46 = some false := by kernel_rfl
@[simp] theorem es_46 : esz Tryd.prog 46 = some 1 := by kernel_rfl
@[simp] theorem el_46 : elemT Tryd.prog 46 = some 3 := by kernel_rfl
@[simp] theorem un_46 : Tryd.prog.underlying 46 = some (.slice 3) := by kernel_rfl
@[simp] theorem ii_46 : isIntT Tryd.prog 46 = some false := by kernel_rfl
@[simp] theorem by_3 : bytesT Tryd.prog 3 = some 8 := by kernel_rfl
theorem et_46 : ElemT Tryd.prog 46 3 1 8 := ⟨by kernel_rfl, by kernel_rfl, by kernel_rfl, by kernel_rfl, ⟨.int .i64 0, by kernel_rfl, by kernel_rfl⟩, by decide⟩
@[simp] theorem zt_46 : zeroT Tryd.prog 46 = some (.lst true 0 []) := by kernel_rfl
@[simp] theorem zr_46 : zeroE Tryd.prog 46 = some (.lst true 0 []) := by kernel_rfl
@[simp] theorem ld_50 : loadT Tryd.prog 50 = some (3, true) := by kernel_rfl
@[simp] theorem sz_50 : szT Tryd.prog 50 = some 3 := by kernel_rfl
@[simp] theorem ag_50 : aggT Tryd.prog 50 = some true := by kernel_rfl
@[simp] theorem fd_50_0 : fieldT Tryd.prog 50 0 = some (0, 1, false) := by kernel_rfl
@[simp] theorem fd_50_1 : fieldT Tryd.prog 50 1 = some (1, 1, false) := by kernel_rfl
@[simp] theorem fd_50_2 : fieldT Tryd.prog 50 2 = some (2, 1, false) := by kernel_rfl
@[simp] theorem pl_50 : placesT Tryd.prog 50 = some [(0, 1), (1, 1), (2, 1)] := by kernel_rfl
@[simp] theorem zt_50 : zeroT Tryd.prog 50 = some (.agg [.lst true 0 [], .int .i64 0, .int .i64 0]) := by kernel_rfl
@[simp] theorem zr_50 : zeroE Tryd.prog 50 = some (.agg [.lst true 0 [], .int .i64 0, .int .i64 0]) := by kernel_rfl
@[simp] theorem ld_51 : loadT Tryd.prog 51 = some (3, true) := by kernel_rfl
@[simp] theorem sz_51 : szT Tryd.prog 51 = some 3 := by kernel_rfl
@[simp] theorem ag_51 : aggT Tryd.prog 51 = some true := by kernel_rfl
@[simp] theorem fd_51_0 : fieldT Tryd.prog 51 0 = some (0, 1, false) := by kernel_rfl
@[simp] theorem fd_51_1 : fieldT Tryd.prog 51 1 = some (1, 1, false) := by kernel_rfl
@[simp] theorem fd_51_2 : fieldT Tryd.prog 51 2 = some (2, 1, false) := by kernel_rfl
@[simp] theorem pl_51 : placesT Tryd.prog 51 = some [(0, 1), (1, 1), (2, 1)] := by kernel_rfl
@[simp] theorem zt_51 : zeroT Tryd.prog 51 = some (.agg [.lst true 0 [], .int .i64 0, .int .i64 0]) := by kernel_rfl
@[simp] theorem zr_51 : zeroE Tryd.prog 51 = some (.agg [.lst true 0 [], .int .i64 0, .int .i64 0]) := by kernel_rfl
@[simp] theorem ld_53 : loadT Tryd.prog 53 = some (1, false) := by kernel_rfl
@[simp] theorem sz_53 : szT Tryd.prog 53 = some 1 := by kernel_rfl
@[simp] theorem ag_53 : aggT Tryd.prog 53 = some false := by kernel_rfl
@[simp] theorem un_53 : Tryd.prog.underlying 53 = some (.int .u64) := by kernel_rfl
@[simp] theorem zt_53 : zeroT Tryd.prog 53 = some (.int .u64 0) := by kernel_rfl
@[simp] theorem zr_53 : zeroE Tryd.prog 53 = some (.int .u64 0) := by kernel_rfl
@[simp] theorem ld_55 : loadT Tryd.prog 55 = some (24, true) := by kernel_rfl
@[simp] theorem sz_55 : szT Tryd.prog 55 = some 24 := by kernel_rfl
@[simp] theorem ag_55 : aggT Tryd.prog 55 = some true := by kernel_rfl
@[simp] theorem un_55 : Tryd.prog.underlying 55 = some (.array 24 5) := by kernel_rfl
@[simp] theorem pl_55 : placesT Tryd.prog 55 = some [(0, 1), (1, 1), (2, 1), (3, 1), (4, 1), (5, 1), (6, 1), (7, 1), (8, 1), (9, 1), (10, 1), (11, 1), (12, 1), (13, 1), (14, 1), (15, 1), (16, 1), (17, 1), (18, 1), (19, 1), (20, 1), (21, 1), (22, 1), (23, 1)] := by kernel_rfl
@[simp] theorem zt_55 : zeroT Tryd.prog 55 = some (.agg [.int .u8 0, .int .u8 0, .int .u8 0, .int .u8 0, .int .u8 0, .int .u8 0, .int .u8 0, .int .u8 0, .int .u8 0, .int .u8 0, .int .u8 0, .int .u8 0, .int .u8 0, .int .u8 0, .int .u8 0, .int .u8 0, .int .u8 0, .int .u8 0, .int .u8 0, .int .u8 0, .int .u8 0, .int .u8 0, .int .u8 0, .int .u8 0]) := by kernel_rfl
@[simp] theorem zr_55 : zeroE Tryd.prog 55 = some (.agg [.int .u8 0, .int .u8 0, .int .u8 0, .int .u8 0, .int .u8 0, .int .u8 0, .int .u8 0, .int .u8 0, .int .u8 0, .int .u8 0, .int .u8 0, .int .u8 0, .int .u8 0, .int .u8 0, .int .u8 0, .int .u8 0, .int .u8 0, .int .u8 0, .int .u8 0, .int .u8 0, .int .u8 0, .int .u8 0, .int .u8 0, .int .u8 0]) := by kernel_rfl
@[simp] theorem ld_56 : loadT Tryd.prog 56 = some (1, false) := by kernel_rfl
@[simp] theorem sz_56 : szT Tryd.prog 56 = some 1 := by kernel_rfl
@[simp] theorem ag_56 : aggT Tryd.prog 56 = some false := by kernel_rfl
@[simp] theorem un_56 : Tryd.prog.underlying 56 = some (.int .u64) := by kernel_rfl
@[simp] theorem zt_56 : zeroT Tryd.prog 56 = some (.int .u64 0) := by kernel_rfl
@[simp] theorem zr_56 : zeroE Tryd.prog 56 = some (.int .u64 0) := by kernel_rfl
@[simp] theorem ld_59 : loadT Tryd.prog 59 = some (1, false) := by kernel_rfl
@[simp] theorem sz_59 : szT Tryd.prog 59 = some 1 := by kernel_rfl
@[simp] theorem ag_59 : aggT Tryd.prog 59 = some false := by kernel_rfl
@[simp] theorem ld_63 : loadT Tryd.prog 63 = some (20, true) := by kernel_rfl
@[simp] theorem sz_63 : szT Tryd.prog 63 = some 20 := by kernel_rfl
@[simp] theorem ag_63 : aggT Tryd.prog 63 = some true := by kernel_rfl
@[simp] theorem un_63 : Tryd.prog.underlying 63 = some (.array 20 56) := by kernel_rfl
@[simp] theorem pl_63 : placesT Tryd.prog 63 = some [(0, 1), (1, 1), (2, 1), (3, 1), (4, 1), (5, 1), (6, 1), (7, 1), (8, 1), (9, 1), (10, 1), (11, 1), (12, 1), (13, 1), (14, 1), (15, 1), (16, 1), (17, 1), (18, 1), (19, 1)] := by kernel_rfl
@[simp] theorem zt_63 : zeroT Tryd.prog 63 = some (.agg [.int .u64 0, .int .u64 0, .int .u64 0, .int .u64 0, .int .u64 0, .int .u64 0, .int .u64 0, .int .u64 0, .int .u64 0, .int .u64 0, .int .u64 0, .int .u64 0, .int .u64 0, .int .u64 0, .int .u64 0, .int .u64 0, .int .u64 0, .int .u64 0, .int .u64 0, .int .u64 0]) := by kernel_rfl
@[simp] theorem zr_63 : zeroE Tryd.prog 63 = some (.agg [.int .u64 0, .int .u64 0, .int .u64 0, .int .u64 0, .int .u64 0, .int .u64 0, .int .u64 0, .int .u64 0, .int .u64 0, .int .u64 0, .int .u64 0, .int .u64 0, .int .u64 0, .int .u64 0, .int .u64 0, .int .u64 0, .int .u64 0, .int .u64 0, .int .u64 0, .int .u64 0]) := by kernel_rfl
@[simp] theorem ld_64 : loadT Tryd.prog 64 = some (1, false) := by kernel_rfl
@[simp] theorem sz_64 : szT Tryd.prog 64 = some 1 := by kernel_rfl
@[simp] theorem ag_64 : aggT Tryd.prog 64 = some false := by kernel_rfl
@[simp] theorem un_64 : Tryd.prog.underlying 64 = some (.int .u32) := by kernel_rfl
@[simp] theorem zt_64 : zeroT Tryd.prog 64 = some (.int .u32 0) := by kernel_rfl
@[simp] theorem zr_64 : zeroE Tryd.prog 64 = some (.int .u32 0) := by kernel_rfl
@[simp] theorem ld_65 : loadT Tryd.prog 65 = some (65, true) := by kernel_rfl
@[simp] theorem sz_65 : szT Tryd.prog 65 = some 65 := by kernel_rfl
@[simp] theorem ag_65 : aggT Tryd.prog 65 = some true := by kernel_rfl
@[simp] theorem un_65 : Tryd.prog.underlying 65 = some (.array 65 5) := by kernel_rfl
@[simp] theorem pl_65 : placesT Tryd.prog 65 = some [(0, 1), (1, 1), (2, 1), (3, 1), (4, 1), (5, 1), (6, 1), (7, 1), (8, 1), (9, 1), (10, 1), (11, 1), (12, 1), (13, 1), (14, 1), (15, 1), (16, 1), (17, 1), (18, 1), (19, 1), (20, 1), (21, 1), (22, 1), (23, 1), (24, 1), (25, 1), (26, 1), (27, 1), (28, 1), (29, 1), (30, 1), (31, 1), (32, 1), (33, 1), (34, 1), (35, 1), (36, 1), (37, 1), (38, 1), (39, 1), (40, 1), (41, 1), (42, 1), (43, 1), (44, 1), (45, 1), (46, 1), (47, 1), (48, 1), (49, 1), (50, 1), (51, 1), (52, 1), (53, 1), (54, 1), (55, 1), (56, 1), (57, 1), (58, 1), (59, 1), (60, 1), (61, 1), (62, 1), (63, 1), (64, 1)] := by kernel_rfl
@[simp] theorem zt_65 : zeroT Tryd.prog 65 = some (.agg [.int .u8 0, .int .u8 0, .int .u8 0, .int .u8 0, .int .u8 0, .int .u8 0, .int .u8 0, .int .u8 0, .int .u8 0, .int .u8 0, .int .u8 0, .int .u8 0, .int .u8 0, .int .u8 0, .int .u8 0, .int .u8 0, .int .u8 0, .int .u8 0, .int .u8 0, .int .u8 0, .int .u8 0, .int .u8 0, .int .u8 0, .int .u8 0, .int .u8 0, .int .u8 0, .int .u8 0, .int .u8 0, .int .u8 0, .int .u8 0, .int .u8 0, .int .u8 0, .int .u8 0, .int .u8 0, .int .u8 0, .int .u8 0, .int .u8 0, .int .u8 0, .int .u8 0, .int .u8 0, .int .u8 0, .int .u8 0, .int .u8 0, .int .u8 0, .int .u8 0, .int .u8 0, .int .u8 0, .int .u8 0, .int .u8 0, .int .u8 0, .int .u8 0, .int .u8 0, .int .u8 0, .int .u8 0, .int .u8 0, .int .u8 0, .int .u8 0, .int .u8 0, .int .u8 0, .int .u8 0, .int .u8 0, .int .u8 0, .int .u8 0, .int .u8 0, .int .u8 0]) := by kernel_rfl
@[simp] theorem zr_65 : zeroE Tryd.prog 65 = some (.agg [.int .u8 0, .int .u8 0, .int .u8 0, .int .u8 0, .int .u8 0, .int .u8 0, .int .u8 0, .int .u8 0, .int .u8 0, .int .u8 0, .int .u8 0, .int .u8 0, .int .u8 0, .int .u8 0, .int .u8 0, .int .u8 0, .int .u8 0, .int .u8 0, .int .u8 0, .int .u8 0, .int .u8 0, .int .u8 0, .int .u8 0, .int .u8 0, .int .u8 0, .int .u8 0, .int .u8 0, .int .u8 0, .int .u8 0, .int .u8 0, .int .u8 0, .int .u8 0, .int .u8 0, .int .u8 0, .int .u8 0, .int .u8 0, .int .u8 0, .int .u8 0, .int .u8 0, .int .u8 0, .int .u8 0, .int .u8 0, .int .u8 0, .int .u8 0, .int .u8 0, .int .u8 0, .int .u8 0, .int .u8 0, .int .u8 0, .int .u8 0, .int .u8 0, .int .u8 0, .int .u8 0, .int .u8 0, .int .u8 0, .int .u8 0, .int .u8 0, .int .u8 0, .int .u8 0, .int .u8 0, .int .u8 0, .int .u8 0, .int .u8 0, .int .u8 0, .int .u8 0]) := by kernel_rfl
@[simp] theorem ld_68 : loadT Tryd.prog 68 = some (32, true) := by kernel_rfl
@[simp] theorem sz_68 : szT Tryd.prog 68 = some 32 := by kernel_rfl
@[simp] theorem ag_68 : aggT Tryd.prog 68 = some true := by kernel_rfl
@[simp] theorem un_68 : Tryd.prog.underlying 68 = some (.array 32 5) := by kernel_rfl
@[simp] theorem pl_68 : placesT Tryd.prog 68 = some [(0, 1), (1, 1), (2, 1), (3, 1), (4, 1), (5, 1), (6, 1), (7, 1), (8, 1), (9, 1), (10, 1), (11, 1), (12, 1), (13, 1), (14, 1), (15, 1), (16, 1), (17, 1), (18, 1), (19, 1), (20, 1), (21, 1), (22, 1), (23, 1), (24, 1), (25, 1), (26, 1), (27, 1), (28, 1), (29, 1), (30, 1), (31, 1)] := by kernel_rfl
@[simp] theorem zt_68 : zeroT Tryd.prog 68 = some (.agg [.int .u8 0, .int .u8 0, .int .u8 0, .int .u8 0, .int .u8 0, .int .u8 0, .int .u8 0, .int .u8 0, .int .u8 0, .int .u8 0, .int .u8 0, .int .u8 0, .int .u8 0, .int .u8 0, .int .u8 0, .int .u8 0, .int .u8 0, .int .u8 0, .int .u8 0, .int .u8 0, .int .u8 0, .int .u8 0, .int .u8 0, .int .u8 0, .int .u8 0, .int .u8 0, .int .u8 0, .int .u8 0, .int .u8 0, .int .u8 0, .int .u8 0, .int .u8 0]) := by kernel_rfl
@[simp] theorem zr_68 : zeroE Tryd.prog 68 = some (.agg [.int .u8 0, .int .u8 0, .int .u8 0, .int .u8 0, .int .u8 0, .int .u8 0, .int .u8 0, .int .u8 0, .int .u8 0, .int .u8 0, .int .u8 0, .int .u8 0, .int .u8 0, .int .u8 0, .int .u8 0, .int .u8 0, .int .u8 0, .int .u8 0, .int .u8 0, .int .u8 0, .int .u8 0, .int .u8 0, .int .u8 0, .int .u8 0, .int .u8 0, .int .u8 0, .int .u8 0, .int .u8 0, .int .u8 0, .int .u8 0, .int .u8 0, .int .u8 0]) := by kernel_rfl
@[simp] theorem ld_69 : loadT Tryd.prog 69 = some (64, true) := by kernel_rfl
@[simp] theorem sz_69 : szT Tryd.prog 69 = some 64 := by kernel_rfl
@[simp] theorem ag_69 : aggT Tryd.prog 69 = some true := by kernel_rfl
@[simp] theorem un_69 : Tryd.prog.underlying 69 = some (.array 64 5) := by kernel_rfl
@[simp] theorem pl_69 : placesT Tryd.prog 69 = some [(0, 1), (1, 1), (2, 1), (3, 1), (4, 1), (5, 1), (6, 1), (7, 1), (8, 1), (9, 1), (10, 1), (11, 1), (12, 1), (13, 1), (14, 1), (15, 1), (16, 1), (17, 1), (18, 1), (19, 1), (20, 1), (21, 1), (22, 1), (23, 1), (24, 1), (25, 1), (26, 1), (27, 1), (28, 1), (29, 1), (30, 1), (31, 1), (32, 1), (33, 1), (34, 1), (35, 1), (36, 1), (37, 1), (38, 1), (39, 1), (40, 1), (41, 1), (42, 1), (43, 1), (44, 1), (45, 1), (46, 1), (47, 1), (48, 1), (49, 1), (50, 1), (51, 1), (52, 1), (53, 1), (54, 1), (55, 1), (56, 1), (57, 1), (58, 1), (59, 1), (60, 1), (61, 1), (62, 1), (63, 1)] := by kernel_rfl
@[simp] theorem zt_69 : zeroT Tryd.prog 69 = some (.agg [.int .u8 0, .int .u8 0, .int .u8 0, .int .u8 0, .int .u8 0, .int .u8 0, .int .u8 0, .int .u8 0, .int .u8 0, .int .u8 0, .int .u8 0, .int .u8 0, .int .u8 0, .int .u8 0, .int .u8 0, .int .u8 0, .int .u8 0, .int .u8 0, .int .u8 0, .int .u8 0, .int .u8 0, .int .u8 0, .int .u8 0, .int .u8 0, .int .u8 0, .int .u8 0, .int .u8 0, .int .u8 0, .int .u8 0, .int .u8 0, .int .u8 0, .int .u8 0, .int .u8 0, .int .u8 0, .int .u8 0, .int .u8 0, .int .u8 0, .int .u8 0, .int .u8 0, .int .u8 0, .int .u8 0, .int .u8 0, .int .u8 0, .int .u8 0, .int .u8 0, .int .u8 0, .int .u8 0, .int .u8 0, .int .u8 0, .int .u8 0, .int .u8 0, .int .u8 0, .int .u8 0, .int .u8 0, .int .u8 0, .int .u8 0, .int .u8 0, .int .u8 0, .int .u8 0, .int .u8 0, .int .u8 0, .int .u8 0, .int .u8 0, .int .u8 0]) := by kernel_rfl
@[simp] theorem zr_69 : zeroE Tryd.prog 69 = some (.agg [.int .u8 0, .int .u8 0, .int .u8 0, .int .u8 0, .int .u8 0, .int .u8 0, .int .u8 0, .int .u8 0, .int .u8 0, .int .u8 0, .int .u8 0, .int .u8 0, .int .u8 0, .int .u8 0, .int .u8 0, .int .u8 0, .int .u8 0, .int .u8 0, .int .u8 0, .int .u8 0, .int .u8 0, .int .u8 0, .int .u8 0, .int .u8 0, .int .u8 0, .int .u8 0, .int .u8 0, .int .u8 0, .int .u8 0, .int .u8 0, .int .u8 0, .int .u8 0, .int .u8 0, .int .u8 0, .int .u8 0, .int .u8 0, .int .u8 0, .int .u8 0, .int .u8 0, .int .u8 0, .int .u8 0, .int .u8 0, .int .u8 0, .int .u8 0, .int .u8 0, .int .u8 0, .int .u8 0, .int .u8 0, .int .u8 0, .int .u8 0, .int .u8 0, .int .u8 0, .int .u8 0, .int .u8 0, .int .u8 0, .int .u8 0, .int .u8 0, .int .u8 0, .int .u8 0, .int .u8 0, .int .u8 0, .int .u8 0, .int .u8 0, .int .u8 0]) := by kernel_rfl
@[simp] theorem ld_80 : loadT Tryd.prog 80 = some (1, false) := by kernel_rfl
@[simp] theorem sz_80 : szT Tryd.prog 80 = some 1 := by kernel_rfl
@[simp] theorem ag_80 : aggT Tryd.prog 80 = some false := by kernel_rfl
@[simp] theorem un_80 : Tryd.prog.underlying 80 = some (.pointer 5) := by kernel_rfl
@[simp] theorem zt_80 : zeroT Tryd.prog 80 = some (.nilp) := by kernel_rfl
@[simp] theorem zr_80 : zeroE Tryd.prog 80 = some (.nilp) := by kernel_rfl
@[simp] theorem ld_85 : loadT Tryd.prog 85 = some (1, false) := by kernel_rfl
@[simp] theorem sz_85 : szT Tryd.prog 85 = some 1 := by kernel_rfl
@[simp] theorem ag_85 : aggT Tryd.prog 85 = some false := by kernel_rfl
end Go.T
namespace Go.T
open Go Go.Proofs
set_option maxRecDepth 10000
set_option maxHeartbeats 1000000
set_option linter.unusedSimpArgs false
theorem c_l1In (a b c : Int) : PCall Tryd.prog 16 [.int .i64 a, .int .i64 b, .int .i64 c] (.bool (inR a b c)) := by
  refine pcall_of Tryd.func16 (by kernel_rfl) rfl (by simp [Tryd.f16]) ?_
  (repeat refine AWp.seq ?_); refine AWp.region noP (by kernel_rfl) ?_
  simp
  (repeat refine AWp.seq ?_); refine AWp.region noP (by kernel_rfl) ?_
  by_cases h : b ≤ a
  · simp [h]
    exact AWp.ret (post_ret1 rfl (by simp [inR, h]))
  · simp [h]
    exact AWp.ret (post_ret1 rfl (by simp [inR, h]))
theorem c_inRange (a b c : Int) : PCall Tryd.prog 18 [.int .i64 a, .int .i64 b, .int .i64 c] (.bool (inR a b c)) := by
  refine pcall_of Tryd.func18 (by kernel_rfl) rfl (by simp [Tryd.f18]) ?_
  (repeat refine AWp.seq ?_); refine AWp.region noP (by kernel_rfl) ?_
  simp
  (repeat refine AWp.seq ?_); refine AWp.region noP (by kernel_rfl) ?_
  by_cases h : b ≤ a
  · simp [h]
    exact AWp.ret (post_ret1 rfl (by simp [inR, h]))
  · simp [h]
    exact AWp.ret (post_ret1 rfl (by simp [inR, h]))
end Go.T
namespace Go.T
open Go Go.Proofs
set_option maxRecDepth 10000
set_option maxHeartbeats 1000000
set_option linter.unusedSimpArgs false
set_option linter.unusedVariables false
open Go Go.Sort
theorem c_spec_NumText (n : Int) (h0 : -9223372036854775808 ≤ n) (h1 : n ≤ 9223372036854775807) : PCall Tryd.prog 17 [.int .i64 n] (.str (numB n)) := by
  refine pcall_of Tryd.func17 (by kernel_rfl) rfl (by simp [Tryd.f17]) ?_
  (repeat refine AWp.seq ?_); refine AWp.region noP (by kernel_rfl) ?_
  try simp
  (repeat refine AWp.seq ?_); refine AWp.region noP (by kernel_rfl) ?_
  simp
  by_cases hz : n = 0
  · (repeat refine AWp.seq ?_); refine AWp.condT (by simp [hz]) ?_
    (repeat refine AWp.seq ?_); refine AWp.region noP (by kernel_rfl) ?_
    simp
    refine AWp.ret (post_ret1 rfl ?_)
    subst hz
    simp [numB, itoa_zero]
    try rfl
  (repeat refine AWp.seq ?_); refine AWp.condF (by simp [hz]) ?_
  refine AWp.skip ?_
  try simp
  (repeat refine AWp.seq ?_); refine AWp.region noP (by kernel_rfl) ?_
  simp
  (repeat refine AWp.seq ?_); refine AWp.region noP (by kernel_rfl) ?_
  simp
  (try refine AWp.seq ?_)
  refine AWp.cutA (fun st => st.slots 0 = .int .i64 n ∧ st.slots 3 = .str ⟨(dig n.natAbs).toArray⟩) ?_ ?_
  · refine AWp.block (AWp.rounds (fun k st => ∃ (v : Int) (s : List UInt8), k = v.natAbs ∧ v.natAbs ≤ n.natAbs ∧ (-9223372036854775808 ≤ v ∧ v ≤ 9223372036854775807) ∧ dig v.natAbs ++ s = dig n.natAbs ∧ st.slots 0 = .int .i64 n ∧ st.slots 3 = .str ⟨s.toArray⟩ ∧ st.slots 4 = .int .i64 v) n.natAbs ⟨n, [], rfl, Nat.le_refl _, ⟨h0, h1⟩, by simp, by simp, by simp; try rfl, by simp⟩ ?_)
    rintro RR k st hR ⟨v, s, rfl, hvn, hvb, hd, s0, s3, s4⟩
    by_cases hv : v = 0
    · (repeat refine AWp.seq ?_); refine AWp.region noP (by kernel_rfl) ?_
      simp [s4, hv]
      (repeat refine AWp.seq ?_); refine AWp.condF (by simp) ?_
      refine AWp.exit ?_
      subst hv
      simp [dig] at hd
      simp [s0, s3, hd, dig]
    · have e1 := tmod10 v
      have e2 := tdiv10 v
      have hne : v.natAbs ≠ 0 := by omega
      have hstep := dig_step hne
      have hlt : v.natAbs % 10 < 10 := Nat.mod_lt _ (by omega)
      (repeat refine AWp.seq ?_); refine AWp.region noP (by kernel_rfl) ?_
      simp [s4, hv]
      (repeat refine AWp.seq ?_); refine AWp.condT (by simp) ?_
      refine AWp.skip ?_
      try simp
      (repeat refine AWp.seq ?_); refine AWp.block ?_
      (repeat refine AWp.seq ?_); refine AWp.region noP (by kernel_rfl) ?_
      simp [s4]
      generalize v.tmod 10 = t at *
      (repeat refine AWp.seq ?_); refine AWp.region noP (by kernel_rfl) ?_
      simp
      (try refine AWp.seq ?_)
      refine AWp.cutA (fun st' => st'.slots 0 = .int .i64 n ∧ st'.slots 3 = .str ⟨s.toArray⟩ ∧ st'.slots 4 = .int .i64 v ∧ st'.slots 5 = .int .i64 (v.natAbs % 10 : Nat)) ?_ ?_
      · by_cases ht : t < 0
        · have hw : IntKind.wrap .i64 (0 - t) = ((v.natAbs % 10 : Nat) : Int) := by rw [wrap64 (by omega) (by omega)]; omega
          have hw' : IntKind.wrap .i64 (-t) = ((v.natAbs % 10 : Nat) : Int) := by rw [wrap64 (by omega) (by omega)]; omega
          refine AWp.condT (by simp [ht]) ?_
          (repeat refine AWp.seq ?_); refine AWp.region noP (by kernel_rfl) ?_
          simp [s0, s3, s4, hw, hw']
        · have ht' : t = ((v.natAbs % 10 : Nat) : Int) := by omega
          refine AWp.condF (by simp [ht]) ?_
          refine AWp.skip ?_
          simp [s0, s3, s4, ht']
      rintro st' ⟨q0, q3, q4, q5⟩
      have hb1 := bytes_one (v.natAbs % 10) hlt
      generalize v.natAbs % 10 = d at *
      have hw : IntKind.wrap .i64 (48 + (d : Int)) = 48 + (d : Int) := wrap64 (by omega) (by omega)
      have hw8 : IntKind.wrap .u8 (48 + (d : Int)) = 48 + (d : Int) := by rw [IntKind.wrap_u8]; omega
      have hlen : s.length ≤ 19 := by
        have := dig_word h0 h1
        rw [← hd] at this
        simp at this
        omega
      (repeat refine AWp.seq ?_); refine AWp.region noP (by kernel_rfl) ?_
      have hle : 1 + s.length ≤ 9223372036854775807 := by omega
      simp [q5, q3, hw, hw8, hb1, numsA, binA, strA, convA, cat1, size_mk, hle]
      have hwq : IntKind.wrap .i64 (v.tdiv 10) = v.tdiv 10 := wrap64 (by omega) (by omega)
      (repeat refine AWp.seq ?_); refine AWp.region noP (by kernel_rfl) ?_
      simp [q4, hwq]
      exact hR _ (v.tdiv 10).natAbs (by omega) ⟨v.tdiv 10, UInt8.ofNat (48 + d) :: s, rfl, by omega, by omega, by rw [e2, ← hd, hstep]; simp, by simp [q0], by simp, by simp⟩
  rintro st ⟨s0, s3⟩
  (repeat refine AWp.seq ?_); refine AWp.region noP (by kernel_rfl) ?_
  simp [s0]
  have hlen := dig_word h0 h1
  by_cases hneg : n < 0
  · (repeat refine AWp.seq ?_); refine AWp.condT (by simp [hneg]) ?_
    (repeat refine AWp.seq ?_); refine AWp.region noP (by kernel_rfl) ?_
    have hle : 1 + (dig n.natAbs).length ≤ 9223372036854775807 := by omega
    simp [s3, binA, strA, cat1, size_mk, hle]
    refine AWp.ret (post_ret1 rfl ?_)
    simp [numB, itoa_neg hneg]
  · (repeat refine AWp.seq ?_); refine AWp.condF (by simp [hneg]) ?_
    refine AWp.skip ?_
    try simp
    (repeat refine AWp.seq ?_); refine AWp.region noP (by kernel_rfl) ?_
    simp [s3]
    refine AWp.ret (post_ret1 rfl ?_)
    simp [numB, itoa_pos (show 0 < n by omega)]

def insNms : List ByteArray := [⟨#[112, 117, 115, 104]⟩, ⟨#[103, 101, 116]⟩, ⟨#[115, 101, 116]⟩, ⟨#[108, 111, 97, 100]⟩, ⟨#[115, 116, 111, 114, 101]⟩, ⟨#[108, 111, 97, 100, 99]⟩, ⟨#[115, 116, 111, 114, 101, 99]⟩, ⟨#[97, 100, 100]⟩, ⟨#[115, 117, 98]⟩, ⟨#[109, 117, 108]⟩, ⟨#[109, 105, 110]⟩, ⟨#[109, 97, 120]⟩, ⟨#[106, 117, 109, 112]⟩, ⟨#[106, 117, 109, 112, 103, 116]⟩, ⟨#[112, 114, 105, 110, 116]⟩, ⟨#[98, 97, 114]⟩, ⟨#[112, 111, 115, 116]⟩, ⟨#[119, 97, 105, 116]⟩, ⟨#[104, 97, 108, 116]⟩]
def insNm (op : Int) : ByteArray := insNms.getD (op.toNat - 1) ⟨#[]⟩
def one1 (op : Int) : Bool := decide (op = 1 ∨ op = 2 ∨ op = 3 ∨ op = 6 ∨ op = 7 ∨ op = 13 ∨ op = 14 ∨ op = 17 ∨ op = 18)
def two2 (op : Int) : Bool := decide (op = 4 ∨ op = 5)
def insT (op a b : Int) : ByteArray :=
  if 1 ≤ op ∧ op ≤ 19 then (if one1 op then insNm op ++ ⟨#[32]⟩ ++ numB a else if two2 op then insNm op ++ ⟨#[32]⟩ ++ numB a ++ ⟨#[32]⟩ ++ numB b else insNm op) else ⟨#[]⟩
theorem insNm_get {op : Int} (h0 : 1 ≤ op) (h1 : op ≤ 19) : insNms[op.toNat - 1]? = some (insNm op) := by
  unfold insNm
  rw [List.getD_eq_getElem?_getD, List.getElem?_eq_getElem (by simp [insNms]; omega)]
  rfl
theorem insNm_size {op : Int} : (insNm op).size ≤ 6 := by
  have : ∀ x ∈ insNms, x.size ≤ 6 := by decide
  unfold insNm
  rw [List.getD_eq_getElem?_getD]
  cases h : insNms[op.toNat - 1]? with
  | none => exact Nat.zero_le _
  | some x => exact this x (List.mem_of_getElem? h)
theorem numB_size {n : Int} (h0 : -9223372036854775808 ≤ n) (h1 : n ≤ 9223372036854775807) : (numB n).size ≤ 20 := by
  have := dig_word h0 h1
  unfold numB
  rw [size_mk]
  by_cases h : n < 0
  · rw [itoa_neg h]; simp; omega
  · by_cases hz : n = 0
    · rw [hz, itoa_zero]; simp
    · rw [itoa_pos (by omega)]; omega
def insA (op a b : Int) : List AV := [.int .i64 op, .int .i64 a, .int .i64 b]
theorem c_toIns (op a b : Int) : PCall Tryd.prog 6 [.agg (insA op a b)] (.agg (insA op a b)) := by
  unfold insA
  refine pcall_of Tryd.func6 (by kernel_rfl) rfl (by simp [Tryd.f6]) ?_
  (repeat refine AWp.seq ?_); refine AWp.region noP (by kernel_rfl) ?_
  simp [set_at]
  intro g1 g2 h2
  (repeat refine AWp.seq ?_); refine AWp.region noP (by kernel_rfl) ?_
  simp [set_at]
  intro g3 h3
  have n21 : g2 ≠ g1 := fun e => by simp [e] at h2
  have m12 := n21.symm
  have n32 : g3 ≠ g2 := fun e => by simp [e] at h3
  have n31 : g3 ≠ g1 := fun e => by simp [e, m12] at h3
  have m23 := n32.symm
  have m13 := n31.symm
  (repeat refine AWp.seq ?_); refine AWp.region noP (by kernel_rfl) ?_
  simp [set_at, n21, n32, n31, m12, m23, m13]
  (repeat refine AWp.seq ?_); refine AWp.region noP (by kernel_rfl) ?_
  simp [set_at, n21, n32, n31, m12, m23, m13]
  (repeat refine AWp.seq ?_); refine AWp.region noP (by kernel_rfl) ?_
  simp [set_at, n21, n32, n31, m12, m23, m13]
  (repeat refine AWp.seq ?_); refine AWp.region noP (by kernel_rfl) ?_
  simp [set_at, n21, n32, n31, m12, m23, m13]
  exact AWp.ret (post_cell (.inl rfl) rfl (by simp [set_at, n21, n32, n31, m12, m23, m13]))
theorem c_spec_InsText (op a b : Int) (ha0 : -9223372036854775808 ≤ a) (ha1 : a ≤ 9223372036854775807) (hb0 : -9223372036854775808 ≤ b) (hb1 : b ≤ 9223372036854775807) : PCall Tryd.prog 5 [.agg (insA op a b)] (.str (insT op a b)) := by
  refine pcall_of Tryd.func5 (by kernel_rfl) rfl (by simp [Tryd.f5]) ?_
  (repeat refine AWp.seq ?_); refine AWp.region noP (by kernel_rfl) ?_
  unfold insA
  simp
  intro g
  refine AWp.sees (Sees.view (t := 1) (View.freezeB (g := g) (cs := insA op a b) (by simp [set_at, insA]))) ?_
  unfold insA
  (repeat refine AWp.seq ?_); refine AWp.region noP (by kernel_rfl) ?_
  simp [literalA]
  (repeat refine AWp.seq ?_); refine AWp.region noP (by kernel_rfl) ?_
  simp
  refine aop_call _ _ _ _ _ _ _ _ (c_l1In op 1 19) ?_
  simp [inR]
  by_cases h0 : 1 ≤ op ∧ op ≤ 19
  · have hget := insNm_get h0.1 h0.2
    have hk : ((.str ⟨#[]⟩ : AV) :: insNms.map .str)[op.toNat]? = some (.str (insNm op)) := by
      have e : op.toNat = (op.toNat - 1) + 1 := by omega
      rw [e, List.getElem?_cons_succ, List.getElem?_map, hget]
      rfl
    have hq : ∀ m, idxA Tryd.prog m 38 (.lst true 1 (.str ⟨#[]⟩ :: insNms.map .str)) (.int .i64 op) = some (.ref [.str (insNm op)]) := by
      intro m
      have hlt : ¬ op < 0 := by omega
      unfold idxA
      simp only [es_38, hlt, if_false, if_true, hk]
      rfl
    simp only [insNms, List.map_cons, List.map_nil] at hq
    (repeat refine AWp.seq ?_); refine AWp.condF (by simp [h0]) ?_
    refine AWp.skip ?_
    try simp
    (repeat refine AWp.seq ?_); refine AWp.region noP (by kernel_rfl) ?_
    simp [hq]
    (repeat refine AWp.seq ?_); refine AWp.region noP (by kernel_rfl) ?_
    simp
    refine AWp.gen (fun st => st.slots 1 = .ref (insA op a b) ∧ st.slots 4 = .str (insNm op) ∧ st.slots 16 = .int .i64 op) ⟨by simp [insA], by simp, by simp⟩ ?_
    unfold insA
    rintro st ⟨s1, s4, s16⟩
    have z1 := @insNm_size op
    have z2 := numB_size ha0 ha1
    have z3 := numB_size hb0 hb1
    have zs : (⟨#[32]⟩ : ByteArray).size = 1 := rfl
    have e1 : binA .add (.str (insNm op)) (.str ⟨#[32]⟩) = some (.str (insNm op ++ ⟨#[32]⟩)) := by rw [strCat, if_pos (by simp only [ByteArray.size_append, zs]; omega)]
    have e2 : binA .add (.str (insNm op ++ ⟨#[32]⟩)) (.str (numB a)) = some (.str (insNm op ++ ⟨#[32]⟩ ++ numB a)) := by rw [strCat, if_pos (by simp only [ByteArray.size_append, zs]; omega)]
    have e3 : binA .add (.str (insNm op ++ ⟨#[32]⟩ ++ numB a)) (.str ⟨#[32]⟩) = some (.str (insNm op ++ ⟨#[32]⟩ ++ numB a ++ ⟨#[32]⟩)) := by rw [strCat, if_pos (by simp only [ByteArray.size_append, zs]; omega)]
    have e4 : binA .add (.str (insNm op ++ ⟨#[32]⟩ ++ numB a ++ ⟨#[32]⟩)) (.str (numB b)) = some (.str (insNm op ++ ⟨#[32]⟩ ++ numB a ++ ⟨#[32]⟩ ++ numB b)) := by rw [strCat, if_pos (by simp only [ByteArray.size_append, zs]; omega)]
    (repeat refine AWp.seq ?_); refine AWp.block ?_
    refine AWp.seq ?_
    refine AWp.cutA (fun st => st.slots 1 = .ref [.int .i64 op, .int .i64 a, .int .i64 b] ∧ st.slots 4 = .str (insNm op) ∧ st.slots 16 = .int .i64 op ∧ st.slots 17 = .bool (one1 op)) ?_ ?_
    · unfold one1
      (repeat refine AWp.seq ?_); refine AWp.region noP (by kernel_rfl) ?_
      simp [s16]
      by_cases hn1 : op = 1
      · (repeat refine AWp.seq ?_); refine AWp.condT (by simp [hn1]) ?_
        refine AWp.skip ?_
        simp [*]
      (repeat refine AWp.seq ?_); refine AWp.condF (by simp [hn1]) ?_
      (repeat refine AWp.seq ?_); refine AWp.region noP (by kernel_rfl) ?_
      simp [s16, hn1]
      by_cases hn2 : op = 2
      · (repeat refine AWp.seq ?_); refine AWp.condT (by simp [hn2]) ?_
        refine AWp.skip ?_
        simp [*]
      (repeat refine AWp.seq ?_); refine AWp.condF (by simp [hn2]) ?_
      (repeat refine AWp.seq ?_); refine AWp.region noP (by kernel_rfl) ?_
      simp [s16, hn1, hn2]
      by_cases hn3 : op = 3
      · (repeat refine AWp.seq ?_); refine AWp.condT (by simp [hn3]) ?_
        refine AWp.skip ?_
        simp [*]
      (repeat refine AWp.seq ?_); refine AWp.condF (by simp [hn3]) ?_
      (repeat refine AWp.seq ?_); refine AWp.region noP (by kernel_rfl) ?_
      simp [s16, hn1, hn2, hn3]
      by_cases hn6 : op = 6
      · (repeat refine AWp.seq ?_); refine AWp.condT (by simp [hn6]) ?_
        refine AWp.skip ?_
        simp [*]
      (repeat refine AWp.seq ?_); refine AWp.condF (by simp [hn6]) ?_
      (repeat refine AWp.seq ?_); refine AWp.region noP (by kernel_rfl) ?_
      simp [s16, hn1, hn2, hn3, hn6]
      by_cases hn7 : op = 7
      · (repeat refine AWp.seq ?_); refine AWp.condT (by simp [hn7]) ?_
        refine AWp.skip ?_
        simp [*]
      (repeat refine AWp.seq ?_); refine AWp.condF (by simp [hn7]) ?_
      (repeat refine AWp.seq ?_); refine AWp.region noP (by kernel_rfl) ?_
      simp [s16, hn1, hn2, hn3, hn6, hn7]
      by_cases hn13 : op = 13
      · (repeat refine AWp.seq ?_); refine AWp.condT (by simp [hn13]) ?_
        refine AWp.skip ?_
        simp [*]
      (repeat refine AWp.seq ?_); refine AWp.condF (by simp [hn13]) ?_
      (repeat refine AWp.seq ?_); refine AWp.region noP (by kernel_rfl) ?_
      simp [s16, hn1, hn2, hn3, hn6, hn7, hn13]
      by_cases hn14 : op = 14
      · (repeat refine AWp.seq ?_); refine AWp.condT (by simp [hn14]) ?_
        refine AWp.skip ?_
        simp [*]
      (repeat refine AWp.seq ?_); refine AWp.condF (by simp [hn14]) ?_
      (repeat refine AWp.seq ?_); refine AWp.region noP (by kernel_rfl) ?_
      simp [s16, hn1, hn2, hn3, hn6, hn7, hn13, hn14]
      by_cases hn17 : op = 17
      · (repeat refine AWp.seq ?_); refine AWp.condT (by simp [hn17]) ?_
        refine AWp.skip ?_
        simp [*]
      (repeat refine AWp.seq ?_); refine AWp.condF (by simp [hn17]) ?_
      (repeat refine AWp.seq ?_); refine AWp.region noP (by kernel_rfl) ?_
      simp [s16, hn1, hn2, hn3, hn6, hn7, hn13, hn14, hn17]
      by_cases hn18 : op = 18 <;> simp [*]
    clear s1 s4 s16
    rintro st ⟨s1, s4, s16, s17⟩
    by_cases ho : one1 op = true
    · (repeat refine AWp.seq ?_); refine AWp.condT (by simp [s17, ho]) ?_
      (repeat refine AWp.seq ?_); refine AWp.region noP (by kernel_rfl) ?_
      simp [s1, s4, e1]
      refine aop_call _ _ _ _ _ _ _ _ (c_spec_NumText a ha0 ha1) ?_
      simp [e2, s1]
      refine AWp.ret (post_ret1 rfl ?_)
      simp [insT, h0, ho]
    (repeat refine AWp.seq ?_); refine AWp.condF (by simp [s17, ho]) ?_
    refine AWp.seq ?_
    refine AWp.cutA (fun st => st.slots 1 = .ref [.int .i64 op, .int .i64 a, .int .i64 b] ∧ st.slots 4 = .str (insNm op) ∧ st.slots 33 = .bool (two2 op)) ?_ ?_
    · unfold two2
      (repeat refine AWp.seq ?_); refine AWp.region noP (by kernel_rfl) ?_
      simp [s16]
      by_cases hn4 : op = 4
      · (repeat refine AWp.seq ?_); refine AWp.condT (by simp [hn4]) ?_
        refine AWp.skip ?_
        simp [*]
      (repeat refine AWp.seq ?_); refine AWp.condF (by simp [hn4]) ?_
      (repeat refine AWp.seq ?_); refine AWp.region noP (by kernel_rfl) ?_
      simp [s16, hn4]
      by_cases hn5 : op = 5 <;> simp [*]
    clear s1 s4 s16 s17
    rintro st ⟨s1, s4, s33⟩
    by_cases ht : two2 op = true
    · (repeat refine AWp.seq ?_); refine AWp.condT (by simp [s33, ht]) ?_
      (repeat refine AWp.seq ?_); refine AWp.region allP (by kernel_rfl) ?_
      simp [s1, s4, e1]
      refine aop_call' (c_spec_NumText a ha0 ha1) ?_
      simp [e2, e3, s1]
      refine aop_call' (c_spec_NumText b hb0 hb1) ?_
      simp [e4]
      refine AWp.ret (post_ret1 rfl ?_)
      simp [insT, h0, ho, ht]
    (repeat refine AWp.seq ?_); refine AWp.condF (by simp [s33, ht]) ?_
    refine AWp.skip ?_
    try simp
    (repeat refine AWp.seq ?_); refine AWp.region noP (by kernel_rfl) ?_
    simp [s4]
    refine AWp.ret (post_ret1 rfl ?_)
    simp [insT, h0, ho, ht]
  · (repeat refine AWp.seq ?_); refine AWp.condT (by simp; omega) ?_
    (repeat refine AWp.seq ?_); refine AWp.region noP (by kernel_rfl) ?_
    simp
    refine AWp.ret (post_ret1 rfl ?_)
    simp [insT, h0]
end Go.T
namespace Go.Proofs
open Go.Shelf
shelf_lay LaysM.n171 Nm 171 at Tryd as Tryd.laysItoa -- 27
end Go.Proofs
namespace Go.T
open Go Go.Proofs
set_option maxRecDepth 10000
set_option maxHeartbeats 1000000
set_option linter.unusedSimpArgs false
set_option linter.unusedVariables false
open Go Go.Sort Go.Shelf
/-- The table of the powers of ten. -/
def TB : Nat := 0
theorem tb_named : Tryd.prog.globalNamed "internal/strconv.uint64pow10" = some TB := by kernel_rfl
theorem c_Itoa (n : Int) (h0 : -9223372036854775808 ≤ n) (h1 : n ≤ 9223372036854775807) {T : TypeId} {m : Mem} (hm : m TB = some (tabBlk T)) {k : AV → Mem → Prop} (hk : k (.str (numB n)) m) : WCall Tryd.prog 27 [.int .i64 n] m k :=
  wc_itoa ⟨Tryd.f27, Tryd.func27, by kernel_rfl, by kernel_rfl⟩ tb_named (fun n h0 h1 w htab => Any.strconv_Itoa Tryd.laysItoa n h0 h1 w htab) n h0 h1 hm hk
theorem c_impl_NumText (n : Int) (h0 : -9223372036854775808 ≤ n) (h1 : n ≤ 9223372036854775807) {T : TypeId} {m : Mem} (hm : m TB = some (tabBlk T)) {K : AV → Mem → Prop} (hK : K (.str (numB n)) m) : WCall Tryd.prog 19 [.int .i64 n] m K := by
  refine wcall_of Tryd.func19 (by kernel_rfl) rfl (by simp [Tryd.f19]) ?_
  (repeat refine AWp.seq ?_); refine AWp.region noP (by kernel_rfl) ?_
  try simp
  (repeat refine AWp.seq ?_); refine AWp.region noP (by kernel_rfl) ?_
  simp
  refine aop_wcall _ _ _ _ _ _ _ _ rfl (eval_func _ _) ?_
  try simp
  refine c_Itoa n h0 h1 hm ?_
  try simp
  refine AWp.ret (post_retW rfl ⟨_, _, View.refl _ _, ?_⟩)
  simp
  exact hK
theorem c_impl_InsText (op a b : Int) (ha0 : -9223372036854775808 ≤ a) (ha1 : a ≤ 9223372036854775807) (hb0 : -9223372036854775808 ≤ b) (hb1 : b ≤ 9223372036854775807) {T : TypeId} {m : Mem} (hm : m TB = some (tabBlk T)) {K : AV → Mem → Prop} (hK : K (.str (insT op a b)) m) : WCall Tryd.prog 7 [.agg (insA op a b)] m K := by
  refine wcall_of Tryd.func7 (by kernel_rfl) rfl (by simp [Tryd.f7]) ?_
  (repeat refine AWp.seq ?_); refine AWp.region noP (by kernel_rfl) ?_
  unfold insA
  simp
  intro g hg
  have hgT : TB ≠ g := fun e => by rw [← e, hm] at hg; cases hg
  refine AWp.sees (Sees.view (t := 1) (View.freezeB (g := g) (cs := insA op a b) (by simp [set_at, insA]))) ?_
  unfold insA
  have hE : Ext m ((m.set g (.box [.int .i64 op, .int .i64 a, .int .i64 b])).del g) := by
    intro k x hk
    unfold Mem.del
    have hne : k ≠ g := by rintro rfl; rw [hg] at hk; cases hk
    rw [if_neg hne, Mem.set_other hne, hk]
  (repeat refine AWp.seq ?_); refine AWp.region noP (by kernel_rfl) ?_
  simp
  refine aop_call _ _ _ _ _ _ _ _ (c_inRange op 1 19) ?_
  simp [inR]
  by_cases h0 : 1 ≤ op ∧ op ≤ 19
  · have hget := insNm_get h0.1 h0.2
    (repeat refine AWp.seq ?_); refine AWp.condF (by simp [h0]) ?_
    refine AWp.skip ?_
    try simp
    (repeat refine AWp.seq ?_); refine AWp.region noP (by kernel_rfl) ?_
    simp
    intro g2 hg2
    refine AWp.gen (fun st => st.slots 1 = .ref [.int .i64 op, .int .i64 a, .int .i64 b] ∧ st.slots 3 = .ptr g2 0 ∧ st.mem g2 = some (.box (insNms.map .str)) ∧ Ext m st.mem) ⟨by simp, by simp, by simp [insNms], ?_⟩ ?_
    · intro k x hk
      have hk2 := hE k x hk
      have hne : k ≠ g2 := by rintro rfl; rw [hk2] at hg2; cases hg2
      simp [set_at, hne]
      exact hk2
    rintro st ⟨s1, s3, sg, hE⟩
    have hw : IntKind.wrap .i64 (op - 1) = op - 1 := wrap64 (by omega) (by omega)
    have hk : op.toNat - 1 < insNms.length := (List.getElem?_eq_some_iff.1 hget).1
    have hx : idxA Tryd.prog st.mem 41 (.ptr g2 0) (.int .i64 (op - 1)) = some (.ptr g2 (op.toNat - 1)) := by
      have hz : esz Tryd.prog 41 = none := by kernel_rfl
      have ha : arrT Tryd.prog 41 = some (19, 1) := by kernel_rfl
      have h1 : ¬ op - 1 < 0 := by omega
      have h2 : op - 1 < 19 := by omega
      have h3 : (op - 1).toNat = op.toNat - 1 := by omega
      simp [idxA, hz, ha, h1, h2, h3]
    have hd : (insNms.map AV.str).drop (op.toNat - 1) = .str (insNm op) :: (insNms.map AV.str).drop (op.toNat - 1 + 1) := by
      rw [List.drop_eq_getElem_cons (by simpa using hk)]
      congr 1
      have := (List.getElem?_eq_some_iff.1 hget).2
      simp [this]
    (repeat refine AWp.seq ?_); refine AWp.region noP (by kernel_rfl) ?_
    simp [s1, s3, hw, hx, sg, hd]
    (repeat refine AWp.seq ?_); refine AWp.region noP (by kernel_rfl) ?_
    simp [s1]
    refine AWp.gen (fun st => st.slots 1 = .ref [.int .i64 op, .int .i64 a, .int .i64 b] ∧ st.slots 4 = .str (insNm op) ∧ st.slots 16 = .int .i64 op ∧ Ext m st.mem) ⟨by simp [s1], by simp, by simp, by simpa using hE⟩ ?_
    clear hx sg s3 s1 hE
    rintro st ⟨s1, s4, s16, hE⟩
    have z1 := @insNm_size op
    have z2 := numB_size ha0 ha1
    have z3 := numB_size hb0 hb1
    have zs : (⟨#[32]⟩ : ByteArray).size = 1 := rfl
    have e1 : binA .add (.str (insNm op)) (.str ⟨#[32]⟩) = some (.str (insNm op ++ ⟨#[32]⟩)) := by rw [strCat, if_pos (by simp only [ByteArray.size_append, zs]; omega)]
    have e2 : binA .add (.str (insNm op ++ ⟨#[32]⟩)) (.str (numB a)) = some (.str (insNm op ++ ⟨#[32]⟩ ++ numB a)) := by rw [strCat, if_pos (by simp only [ByteArray.size_append, zs]; omega)]
    have e3 : binA .add (.str (insNm op ++ ⟨#[32]⟩ ++ numB a)) (.str ⟨#[32]⟩) = some (.str (insNm op ++ ⟨#[32]⟩ ++ numB a ++ ⟨#[32]⟩)) := by rw [strCat, if_pos (by simp only [ByteArray.size_append, zs]; omega)]
    have e4 : binA .add (.str (insNm op ++ ⟨#[32]⟩ ++ numB a ++ ⟨#[32]⟩)) (.str (numB b)) = some (.str (insNm op ++ ⟨#[32]⟩ ++ numB a ++ ⟨#[32]⟩ ++ numB b)) := by rw [strCat, if_pos (by simp only [ByteArray.size_append, zs]; omega)]
    (repeat refine AWp.seq ?_); refine AWp.block ?_
    refine AWp.seq ?_
    refine AWp.cutA (fun st => st.slots 1 = .ref [.int .i64 op, .int .i64 a, .int .i64 b] ∧ st.slots 4 = .str (insNm op) ∧ st.slots 16 = .int .i64 op ∧ st.slots 17 = .bool (two2 op) ∧ Ext m st.mem) ?_ ?_
    · unfold two2
      (repeat refine AWp.seq ?_); refine AWp.region noP (by kernel_rfl) ?_
      simp [s16]
      by_cases hn4 : op = 4
      · (repeat refine AWp.seq ?_); refine AWp.condT (by simp [hn4]) ?_
        refine AWp.skip ?_
        simp [*]
      (repeat refine AWp.seq ?_); refine AWp.condF (by simp [hn4]) ?_
      (repeat refine AWp.seq ?_); refine AWp.region noP (by kernel_rfl) ?_
      simp [s16, hn4]
      by_cases hn5 : op = 5 <;> simp [*]
    clear s1 s4 s16 hE
    rintro st ⟨s1, s4, s16, s17, hE⟩
    have hT := hE _ _ hm
    by_cases ht : two2 op = true
    · have ho : one1 op = false := by
        simp [two2] at ht
        rcases ht with rfl | rfl <;> decide
      (repeat refine AWp.seq ?_); refine AWp.condT (by simp [s17, ht]) ?_
      (repeat refine AWp.seq ?_); refine AWp.regionG (fun _ => false) (fun i => i == 3 || i == 8) [0, 1, 2, 3, 7, 8, 4, 5, 6, 9, 10, 11] [0, 1, 2, 3, 4, 5, 6, 7, 8, 9, 10, 11] (by kernel_rfl) ?_
      simp [s1, s4, e1]
      refine aop_wcall _ _ _ _ _ _ _ _ rfl (eval_func _ _) ?_
      try simp
      refine c_impl_NumText a ha0 ha1 (by simpa using hT) ?_
      simp [e2, e3, s1]
      refine aop_wcall _ _ _ _ _ _ _ _ rfl (eval_func _ _) ?_
      try simp
      refine c_impl_NumText b hb0 hb1 (by simpa using hT) ?_
      simp [e4]
      refine AWp.ret (post_retW rfl ⟨_, _, View.forget hE _, ?_⟩)
      simp [insT, h0, ho, ht] at hK ⊢
      exact hK
    (repeat refine AWp.seq ?_); refine AWp.condF (by simp [s17, ht]) ?_
    refine AWp.seq ?_
    refine AWp.cutA (fun st => st.slots 1 = .ref [.int .i64 op, .int .i64 a, .int .i64 b] ∧ st.slots 4 = .str (insNm op) ∧ st.slots 31 = .bool (one1 op) ∧ Ext m st.mem) ?_ ?_
    · unfold one1
      (repeat refine AWp.seq ?_); refine AWp.region noP (by kernel_rfl) ?_
      simp [s16]
      by_cases hn1 : op = 1
      · (repeat refine AWp.seq ?_); refine AWp.condT (by simp [hn1]) ?_
        refine AWp.skip ?_
        simp [*]
      (repeat refine AWp.seq ?_); refine AWp.condF (by simp [hn1]) ?_
      (repeat refine AWp.seq ?_); refine AWp.region noP (by kernel_rfl) ?_
      simp [s16, hn1]
      by_cases hn2 : op = 2
      · (repeat refine AWp.seq ?_); refine AWp.condT (by simp [hn2]) ?_
        refine AWp.skip ?_
        simp [*]
      (repeat refine AWp.seq ?_); refine AWp.condF (by simp [hn2]) ?_
      (repeat refine AWp.seq ?_); refine AWp.region noP (by kernel_rfl) ?_
      simp [s16, hn1, hn2]
      by_cases hn3 : op = 3
      · (repeat refine AWp.seq ?_); refine AWp.condT (by simp [hn3]) ?_
        refine AWp.skip ?_
        simp [*]
      (repeat refine AWp.seq ?_); refine AWp.condF (by simp [hn3]) ?_
      (repeat refine AWp.seq ?_); refine AWp.region noP (by kernel_rfl) ?_
      simp [s16, hn1, hn2, hn3]
      by_cases hn6 : op = 6
      · (repeat refine AWp.seq ?_); refine AWp.condT (by simp [hn6]) ?_
        refine AWp.skip ?_
        simp [*]
      (repeat refine AWp.seq ?_); refine AWp.condF (by simp [hn6]) ?_
      (repeat refine AWp.seq ?_); refine AWp.region noP (by kernel_rfl) ?_
      simp [s16, hn1, hn2, hn3, hn6]
      by_cases hn7 : op = 7
      · (repeat refine AWp.seq ?_); refine AWp.condT (by simp [hn7]) ?_
        refine AWp.skip ?_
        simp [*]
      (repeat refine AWp.seq ?_); refine AWp.condF (by simp [hn7]) ?_
      (repeat refine AWp.seq ?_); refine AWp.region noP (by kernel_rfl) ?_
      simp [s16, hn1, hn2, hn3, hn6, hn7]
      by_cases hn13 : op = 13
      · (repeat refine AWp.seq ?_); refine AWp.condT (by simp [hn13]) ?_
        refine AWp.skip ?_
        simp [*]
      (repeat refine AWp.seq ?_); refine AWp.condF (by simp [hn13]) ?_
      (repeat refine AWp.seq ?_); refine AWp.region noP (by kernel_rfl) ?_
      simp [s16, hn1, hn2, hn3, hn6, hn7, hn13]
      by_cases hn14 : op = 14
      · (repeat refine AWp.seq ?_); refine AWp.condT (by simp [hn14]) ?_
        refine AWp.skip ?_
        simp [*]
      (repeat refine AWp.seq ?_); refine AWp.condF (by simp [hn14]) ?_
      (repeat refine AWp.seq ?_); refine AWp.region noP (by kernel_rfl) ?_
      simp [s16, hn1, hn2, hn3, hn6, hn7, hn13, hn14]
      by_cases hn17 : op = 17
      · (repeat refine AWp.seq ?_); refine AWp.condT (by simp [hn17]) ?_
        refine AWp.skip ?_
        simp [*]
      (repeat refine AWp.seq ?_); refine AWp.condF (by simp [hn17]) ?_
      (repeat refine AWp.seq ?_); refine AWp.region noP (by kernel_rfl) ?_
      simp [s16, hn1, hn2, hn3, hn6, hn7, hn13, hn14, hn17]
      by_cases hn18 : op = 18 <;> simp [*]
    clear s1 s4 s16 s17 hE hT
    rintro st ⟨s1, s4, s31, hE⟩
    have hT := hE _ _ hm
    by_cases ho : one1 op = true
    · (repeat refine AWp.seq ?_); refine AWp.condT (by simp [s31, ho]) ?_
      (repeat refine AWp.seq ?_); refine AWp.region noP (by kernel_rfl) ?_
      simp [s1, s4, e1]
      refine aop_wcall _ _ _ _ _ _ _ _ rfl (eval_func _ _) ?_
      try simp
      refine c_impl_NumText a ha0 ha1 (by simpa using hT) ?_
      simp [e2]
      refine AWp.ret (post_retW rfl ⟨_, _, View.forget hE _, ?_⟩)
      simp [insT, h0, ho] at hK ⊢
      exact hK
    (repeat refine AWp.seq ?_); refine AWp.condF (by simp [s31, ho]) ?_
    refine AWp.skip ?_
    try simp
    (repeat refine AWp.seq ?_); refine AWp.region noP (by kernel_rfl) ?_
    simp [s4]
    refine AWp.ret (post_retW rfl ⟨_, _, View.forget hE _, ?_⟩)
    simp [insT, h0, ho, ht] at hK ⊢
    exact hK
  · (repeat refine AWp.seq ?_); refine AWp.condT (by simp; omega) ?_
    (repeat refine AWp.seq ?_); refine AWp.region noP (by kernel_rfl) ?_
    simp
    refine AWp.ret (post_retW rfl ⟨_, _, View.forget hE _, ?_⟩)
    simp [insT, h0] at hK ⊢
    exact hK
end Go.T
namespace Go.T
open Go Go.Proofs
set_option maxRecDepth 10000
set_option maxHeartbeats 1000000
set_option linter.unusedSimpArgs false
set_option linter.unusedVariables false
open Go Go.Sort
theorem c_FnExactInsText (op a b : Int) (ha0 : -9223372036854775808 ≤ a) (ha1 : a ≤ 9223372036854775807) (hb0 : -9223372036854775808 ≤ b) (hb1 : b ≤ 9223372036854775807) (T : TypeId) : WCall Tryd.prog 3 [.agg (insA op a b)] (tabMem TB T) fun r m' => r = .bool true ∧ m' TB = some (tabBlk T) := by
  have hm : tabMem TB T TB = some (tabBlk T) := by simp [tabMem]
  generalize tabMem TB T = m at *
  have c1 := c_toIns op a b
  have c2 := c_spec_InsText op a b ha0 ha1 hb0 hb1
  unfold insA at c1 c2
  refine wcall_of Tryd.func3 (by kernel_rfl) rfl (by simp [Tryd.f3]) ?_
  (repeat refine AWp.seq ?_); refine AWp.region noP (by kernel_rfl) ?_
  unfold insA
  try simp
  intro g hg
  have hgT : TB ≠ g := fun e => by rw [← e, hm] at hg; cases hg
  (repeat refine AWp.seq ?_); refine AWp.region noP (by kernel_rfl) ?_
  simp [set_at]
  refine aop_call _ _ _ _ _ _ _ _ c1 ?_
  try simp
  refine aop_call _ _ _ _ _ _ _ _ c2 ?_
  try simp
  (repeat refine AWp.seq ?_); refine AWp.region noP (by kernel_rfl) ?_
  simp [set_at]
  refine aop_call _ _ _ _ _ _ _ _ c1 ?_
  try simp
  refine aop_wcall _ _ _ _ _ _ _ _ rfl (eval_func _ _) ?_
  try simp
  have h := @c_impl_InsText op a b ha0 ha1 hb0 hb1 T (m.set g (.box [.int .i64 op, .int .i64 a, .int .i64 b])) (by rw [Mem.set_other hgT]; exact hm)
  unfold insA at h
  refine h ?_
  try simp
  (repeat refine AWp.seq ?_); refine AWp.region noP (by kernel_rfl) ?_
  try simp
  (repeat refine AWp.seq ?_); refine AWp.condF (by simp) ?_
  refine AWp.skip ?_
  try simp
  (repeat refine AWp.seq ?_); refine AWp.region noP (by kernel_rfl) ?_
  try simp
  refine AWp.ret (post_retW rfl ⟨_, _, View.refl _ _, ?_⟩)
  simp [Mem.set_other hgT]
  exact hm
section
open Go.RowKit Go.ChangeShapes
variable {H : Type} {enc : TypeId × Value → H} {W : World}
def insFit (x : Int × Int × Int × Unit) : Prop := in64 x.1 ∧ in64 x.2.1 ∧ in64 x.2.2.1
theorem o_Ins (fuel : Nat) : Opens enc Tryd.prog W 23 (fun x : Int × Int × Int × Unit => insA x.1 x.2.1 x.2.2.1) insFit fuel := by
  cases fuel with
  | zero => exact opens_zero
  | succ k =>
    exact Opens.map (opens_struct Tryd.underlying23 (N := 3) (by kernel_rfl) (fields_cons (n := 1) rfl (by kernel_rfl) (opens_int Tryd.underlying3 _) (fields_cons (n := 1) rfl (by kernel_rfl) (opens_int Tryd.underlying3 _) (fields_cons (n := 1) rfl (by kernel_rfl) (opens_int Tryd.underlying3 _) (fields_nil rfl)))))
      (fun x => x) fun x hx => ⟨⟨hx.1, hx.2.1, hx.2.2.1⟩, Les.refl _⟩
theorem insA_any {w : World} {S S' : Nat → Prop} {op a b : Int} {vs : List Value} (h : Reps w S (insA op a b) vs) : Reps w S' (insA op a b) vs := by
  unfold insA at *
  cases h with
  | cons h1 h =>
  cases h with
  | cons h2 h =>
  cases h with
  | cons h3 h =>
  cases h
  cases h1
  cases h2
  cases h3
  exact .cons (.int _ _) (.cons (.int _ _) (.cons (.int _ _) .nil))
end
end Go.T
