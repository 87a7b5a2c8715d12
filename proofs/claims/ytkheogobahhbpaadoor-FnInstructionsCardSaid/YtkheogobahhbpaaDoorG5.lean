/- Facts about the types of the program. Names: what the program and the reference compute. Numbers and instructions as text. Numbers and instructions as text: the program's hand. The cursor over a draw's bytes: what its functions may answer. Numbers that go round: what the program and the reference compute; the law's function. Drawn instructions. -/
import Derived.Test.YtkheogobahhbpaaDoorG4
import Derived.Test.YtkheogobahhbpaaDoorG2
import Derived.Test.YtkheogobahhbpaaDoorProg
import Derived.Test.YtkheogobahhbpaaDoorG3
import Derived.Shelf.Lay
import Derived.Ground.NamesProg
import Derived.Shelf.Strconv.Itoa3
import Derived.WalkKit
namespace Go.T
open Go Go.Proofs
set_option maxRecDepth 10000
@[simp] theorem ld_2 : loadT Tryd.prog 2 = some (1, false) := by kernel_rfl
@[simp] theorem sz_2 : szT Tryd.prog 2 = some 1 := by kernel_rfl
@[simp] theorem ag_2 : aggT Tryd.prog 2 = some false := by kernel_rfl
@[simp] theorem un_2 : Tryd.prog.underlying 2 = some (.int .i64) := by kernel_rfl
@[simp] theorem zt_2 : zeroT Tryd.prog 2 = some (.int .i64 0) := by kernel_rfl
@[simp] theorem zr_2 : zeroE Tryd.prog 2 = some (.int .i64 0) := by kernel_rfl
@[simp] theorem ld_3 : loadT Tryd.prog 3 = some (1, false) := by kernel_rfl
@[simp] theorem sz_3 : szT Tryd.prog 3 = some 1 := by kernel_rfl
@[simp] theorem ag_3 : aggT Tryd.prog 3 = some false := by kernel_rfl
@[simp] theorem un_3 : Tryd.prog.underlying 3 = some (.int .i64) := by kernel_rfl
@[simp] theorem zt_3 : zeroT Tryd.prog 3 = some (.int .i64 0) := by kernel_rfl
@[simp] theorem zr_3 : zeroE Tryd.prog 3 = some (.int .i64 0) := by kernel_rfl
@[simp] theorem ld_4 : loadT Tryd.prog 4 = some (1, false) := by kernel_rfl
@[simp] theorem sz_4 : szT Tryd.prog 4 = some 1 := by kernel_rfl
@[simp] theorem ag_4 : aggT Tryd.prog 4 = some false := by kernel_rfl
@[simp] theorem un_4 : Tryd.prog.underlying 4 = some .bool := by kernel_rfl
@[simp] theorem zt_4 : zeroT Tryd.prog 4 = some (.bool false) := by kernel_rfl
@[simp] theorem zr_4 : zeroE Tryd.prog 4 = some (.bool false) := by kernel_rfl
@[simp] theorem ld_5 : loadT Tryd.prog 5 = some (1, false) := by kernel_rfl
@[simp] theorem sz_5 : szT Tryd.prog 5 = some 1 := by kernel_rfl
@[simp] theorem ag_5 : aggT Tryd.prog 5 = some false := by kernel_rfl
@[simp] theorem un_5 : Tryd.prog.underlying 5 = some (.int .u8) := by kernel_rfl
@[simp] theorem zt_5 : zeroT Tryd.prog 5 = some (.int .u8 0) := by kernel_rfl
@[simp] theorem zr_5 : zeroE Tryd.prog 5 = some (.int .u8 0) := by kernel_rfl
@[simp] theorem ld_9 : loadT Tryd.prog 9 = some (1, false) := by kernel_rfl
@[simp] theorem sz_9 : szT Tryd.prog 9 = some 1 := by kernel_rfl
@[simp] theorem ag_9 : aggT Tryd.prog 9 = some false := by kernel_rfl
@[simp] theorem un_9 : Tryd.prog.underlying 9 = some .string := by kernel_rfl
@[simp] theorem zt_9 : zeroT Tryd.prog 9 = some (.str ByteArray.empty) := by kernel_rfl
@[simp] theorem zr_9 : zeroE Tryd.prog 9 = some (.str ByteArray.empty) := by kernel_rfl
@[simp] theorem ld_12 : loadT Tryd.prog 12 = some (1, false) := by kernel_rfl
@[simp] theorem sz_12 : szT Tryd.prog 12 = some 1 := by kernel_rfl
@[simp] theorem ag_12 : aggT Tryd.prog 12 = some false := by kernel_rfl
@[simp] theorem zt_12 : zeroT Tryd.prog 12 = some (.int .u64 0) := by kernel_rfl
@[simp] theorem zr_12 : zeroE Tryd.prog 12 = some (.int .u64 0) := by kernel_rfl
@[simp] theorem ld_13 : loadT Tryd.prog 13 = some (2, true) := by kernel_rfl
@[simp] theorem sz_13 : szT Tryd.prog 13 = some 2 := by kernel_rfl
@[simp] theorem ag_13 : aggT Tryd.prog 13 = some true := by kernel_rfl
@[simp] theorem fd_13_0 : fieldT Tryd.prog 13 0 = some (0, 1, false) := by kernel_rfl
@[simp] theorem fd_13_1 : fieldT Tryd.prog 13 1 = some (1, 1, false) := by kernel_rfl
@[simp] theorem pl_13 : placesT Tryd.prog 13 = some [(0, 1), (1, 1)] := by kernel_rfl
@[simp] theorem zt_13 : zeroT Tryd.prog 13 = some (.agg [.str ByteArray.empty, .int .u64 0]) := by kernel_rfl
@[simp] theorem zr_13 : zeroE Tryd.prog 13 = some (.agg [.str ByteArray.empty, .int .u64 0]) := by kernel_rfl
@[simp] theorem ld_21 : loadT Tryd.prog 21 = some (1, false) := by kernel_rfl
@[simp] theorem sz_21 : szT Tryd.prog 21 = some 1 := by kernel_rfl
@[simp] theorem ag_21 : aggT Tryd.prog 21 = some false := by kernel_rfl
@[simp] theorem un_21 : Tryd.prog.underlying 21 = some (.int .i32) := by kernel_rfl
@[simp] theorem zt_21 : zeroT Tryd.prog 21 = some (.int .i32 0) := by kernel_rfl
@[simp] theorem zr_21 : zeroE Tryd.prog 21 = some (.int .i32 0) := by kernel_rfl
@[simp] theorem ld_22 : loadT Tryd.prog 22 = some (3, true) := by kernel_rfl
@[simp] theorem sz_22 : szT Tryd.prog 22 = some 3 := by kernel_rfl
@[simp] theorem ag_22 : aggT Tryd.prog 22 = some true := by kernel_rfl
@[simp] theorem fd_22_0 : fieldT Tryd.prog 22 0 = some (0, 1, false) := by kernel_rfl
@[simp] theorem fd_22_1 : fieldT Tryd.prog 22 1 = some (1, 1, false) := by kernel_rfl
@[simp] theorem fd_22_2 : fieldT Tryd.prog 22 2 = some (2, 1, false) := by kernel_rfl
@[simp] theorem pl_22 : placesT Tryd.prog 22 = some [(0, 1), (1, 1), (2, 1)] := by kernel_rfl
@[simp] theorem zt_22 : zeroT Tryd.prog 22 = some (.agg [.int .i64 0, .int .i64 0, .int .i64 0]) := by kernel_rfl
@[simp] theorem zr_22 : zeroE Tryd.prog 22 = some (.agg [.int .i64 0, .int .i64 0, .int .i64 0]) := by kernel_rfl
@[simp] theorem ld_23 : loadT Tryd.prog 23 = some (3, true) := by kernel_rfl
@[simp] theorem sz_23 : szT Tryd.prog 23 = some 3 := by kernel_rfl
@[simp] theorem ag_23 : aggT Tryd.prog 23 = some true := by kernel_rfl
@[simp] theorem fd_23_0 : fieldT Tryd.prog 23 0 = some (0, 1, false) := by kernel_rfl
@[simp] theorem fd_23_1 : fieldT Tryd.prog 23 1 = some (1, 1, false) := by kernel_rfl
@[simp] theorem fd_23_2 : fieldT Tryd.prog 23 2 = some (2, 1, false) := by kernel_rfl
@[simp] theorem pl_23 : placesT Tryd.prog 23 = some [(0, 1), (1, 1), (2, 1)] := by kernel_rfl
@[simp] theorem zt_23 : zeroT Tryd.prog 23 = some (.agg [.int .i64 0, .int .i64 0, .int .i64 0]) := by kernel_rfl
@[simp] theorem zr_23 : zeroE Tryd.prog 23 = some (.agg [.int .i64 0, .int .i64 0, .int .i64 0]) := by kernel_rfl
@[simp] theorem ld_25 : loadT Tryd.prog 25 = some (3, true) := by kernel_rfl
@[simp] theorem sz_25 : szT Tryd.prog 25 = some 3 := by kernel_rfl
@[simp] theorem ag_25 : aggT Tryd.prog 25 = some true := by kernel_rfl
@[simp] theorem fd_25_0 : fieldT Tryd.prog 25 0 = some (0, 1, false) := by kernel_rfl
@[simp] theorem fd_25_1 : fieldT Tryd.prog 25 1 = some (1, 1, false) := by kernel_rfl
@[simp] theorem fd_25_2 : fieldT Tryd.prog 25 2 = some (2, 1, false) := by kernel_rfl
@[simp] theorem pl_25 : placesT Tryd.prog 25 = some [(0, 1), (1, 1), (2, 1)] := by kernel_rfl
@[simp] theorem zt_25 : zeroT Tryd.prog 25 = some (.agg [.int .i64 0, .int .i64 0, .int .i64 0]) := by kernel_rfl
@[simp] theorem zr_25 : zeroE Tryd.prog 25 = some (.agg [.int .i64 0, .int .i64 0, .int .i64 0]) := by kernel_rfl
@[simp] theorem ld_28 : loadT Tryd.prog 28 = some (1, false) := by kernel_rfl
@[simp] theorem sz_28 : szT Tryd.prog 28 = some 1 := by kernel_rfl
@[simp] theorem ag_28 : aggT Tryd.prog 28 = some false := by kernel_rfl
@[simp] theorem es_28 : esz Tryd.prog 28 = some 1 := by kernel_rfl
@[simp] theorem el_28 : elemT Tryd.prog 28 = some 5 := by kernel_rfl
@[simp] theorem un_28 : Tryd.prog.underlying 28 = some (.slice 5) := by kernel_rfl
@[simp] theorem ii_28 : isIntT Tryd.prog 28 = some false := by kernel_rfl
@[simp] theorem by_5 : bytesT Tryd.prog 5 = some 1 := by kernel_rfl
theorem et_28 : ElemT Tryd.prog 28 5 1 1 := ⟨by kernel_rfl, by kernel_rfl, by kernel_rfl, by kernel_rfl, ⟨.int .u8 0, by kernel_rfl, by kernel_rfl⟩, by decide⟩
@[simp] theorem zt_28 : zeroT Tryd.prog 28 = some (.lst true 0 []) := by kernel_rfl
@[simp] theorem zr_28 : zeroE Tryd.prog 28 = some (.lst true 0 []) := by kernel_rfl
@[simp] theorem ld_30 : loadT Tryd.prog 30 = some (1, false) := by kernel_rfl
@[simp] theorem sz_30 : szT Tryd.prog 30 = some 1 := by kernel_rfl
@[simp] theorem ag_30 : aggT Tryd.prog 30 = some false := by kernel_rfl
@[simp] theorem ld_32 : loadT Tryd.prog 32 = some (1, false) := by kernel_rfl
@[simp] theorem sz_32 : szT Tryd.prog 32 = some 1 := by kernel_rfl
@[simp] theorem ag_32 : aggT Tryd.prog 32 = some false := by kernel_rfl
@[simp] theorem es_32 : esz Tryd.prog 32 = some 3 := by kernel_rfl
@[simp] theorem el_32 : elemT Tryd.prog 32 = some 25 := by kernel_rfl
@[simp] theorem un_32 : Tryd.prog.underlying 32 = some (.slice 25) := by kernel_rfl
@[simp] theorem ii_32 : isIntT Tryd.prog 32 = some false := by kernel_rfl
@[simp] theorem by_25 : bytesT Tryd.prog 25 = some 24 := by kernel_rfl
theorem et_32 : ElemT Tryd.prog 32 25 3 24 := ⟨by kernel_rfl, by kernel_rfl, by kernel_rfl, by kernel_rfl, ⟨.agg [.int .i64 0, .int .i64 0, .int .i64 0], by kernel_rfl, by kernel_rfl⟩, by decide⟩
@[simp] theorem zt_32 : zeroT Tryd.prog 32 = some (.lst true 0 []) := by kernel_rfl
@[simp] theorem zr_32 : zeroE Tryd.prog 32 = some (.lst true 0 []) := by kernel_rfl
@[simp] theorem ld_33 : loadT Tryd.prog 33 = some (1, false) := by kernel_rfl
@[simp] theorem sz_33 : szT Tryd.prog 33 = some 1 := by kernel_rfl
@[simp] theorem ag_33 : aggT Tryd.prog 33 = some false := by kernel_rfl
@[simp] theorem ld_38 : loadT Tryd.prog 38 = some (1, false) := by kernel_rfl
@[simp] theorem sz_38 : szT Tryd.prog 38 = some 1 := by kernel_rfl
@[simp] theorem ag_38 : aggT Tryd.prog 38 = some false := by kernel_rfl
@[simp] theorem es_38 : esz Tryd.prog 38 = some 1 := by kernel_rfl
@[simp] theorem el_38 : elemT Tryd.prog 38 = some 9 := by kernel_rfl
@[simp] theorem un_38 : Tryd.prog.underlying 38 = some (.slice 9) := by kernel_rfl
@[simp] theorem ii_38 : isIntT Tryd.prog 38 = some false := by kernel_rfl
@[simp] theorem by_9 : bytesT Tryd.prog 9 = some 16 := by kernel_rfl
theorem et_38 : ElemT Tryd.prog 38 9 1 16 := ⟨by kernel_rfl, by kernel_rfl, by kernel_rfl, by kernel_rfl, ⟨.str ByteArray.empty, by kernel_rfl, by kernel_rfl⟩, by decide⟩
@[simp] theorem zt_38 : zeroT Tryd.prog 38 = some (.lst true 0 []) := by kernel_rfl
@[simp] theorem zr_38 : zeroE Tryd.prog 38 = some (.lst true 0 []) := by kernel_rfl
@[simp] theorem ld_41 : loadT Tryd.prog 41 = some (19, true) := by kernel_rfl
@[simp] theorem sz_41 : szT Tryd.prog 41 = some 19 := by kernel_rfl
@[simp] theorem ag_41 : aggT Tryd.prog 41 = some true := by kernel_rfl
@[simp] theorem un_41 : Tryd.prog.underlying 41 = some (.array 19 9) := by kernel_rfl
@[simp] theorem pl_41 : placesT Tryd.prog 41 = some [(0, 1), (1, 1), (2, 1), (3, 1), (4, 1), (5, 1), (6, 1), (7, 1), (8, 1), (9, 1), (10, 1), (11, 1), (12, 1), (13, 1), (14, 1), (15, 1), (16, 1), (17, 1), (18, 1)] := by kernel_rfl
@[simp] theorem zt_41 : zeroT Tryd.prog 41 = some (.agg [.str ByteArray.empty, .str ByteArray.empty, .str ByteArray.empty, .str ByteArray.empty, .str ByteArray.empty, .str ByteArray.empty, .str ByteArray.empty, .str ByteArray.empty, .str ByteArray.empty, .str ByteArray.empty, .str ByteArray.empty, .str ByteArray.empty, .str ByteArray.empty, .str ByteArray.empty, .str ByteArray.empty, .str ByteArray.empty, .str ByteArray.empty, .str ByteArray.empty, .str ByteArray.empty]) := by kernel_rfl
@[simp] theorem zr_41 : zeroE Tryd.prog 41 = some (.agg [.str ByteArray.empty, .str ByteArray.empty, .str ByteArray.empty, .str ByteArray.empty, .str ByteArray.empty, .str ByteArray.empty, .str ByteArray.empty, .str ByteArray.empty, .str ByteArray.empty, .str ByteArray.empty, .str ByteArray.empty, .str ByteArray.empty, .str ByteArray.empty, .str ByteArray.empty, .str ByteArray.empty, .str ByteArray.empty, .str ByteArray.empty, .str ByteArray.empty, .str ByteArray.empty]) := by kernel_rfl
@[simp] theorem ld_42 : loadT Tryd.prog 42 = some (1, false) := by kernel_rfl
@[simp] theorem sz_42 : szT Tryd.prog 42 = some 1 := by kernel_rfl
@[simp] theorem ag_42 : aggT Tryd.prog 42 = some false := by kernel_rfl
@[simp] theorem un_42 : Tryd.prog.underlying 42 = some (.pointer 51) := by kernel_rfl
@[simp] theorem zt_42 : zeroT Tryd.prog 42 = some (.nilp) := by kernel_rfl
@[simp] theorem zr_42 : zeroE Tryd.prog 42 = some (.nilp) := by kernel_rfl
@[simp] theorem ld_46 : loadT Tryd.prog 46 = some (1, false) := by kernel_rfl
@[simp] theorem sz_46 : szT Tryd.prog 46 = some 1 := by kernel_rfl
@[simp] theorem ag_46 : aggT Tryd.prog 46 = some false := by kernel_rfl
@[simp] theorem es_46 : esz Tryd.prog 46 = some 1 := by kernel_rfl
@[simp] theorem el_46 : elemT Tryd.prog 46 = some 3 := by kernel_rfl
@[simp] theorem un_46 : Tryd.prog.underlying 46 = some (.slice 3) := by kernel_rfl
@[simp] theorem ii_46 : isIntT Tryd.prog 46 = some false := by kernel_rfl
@[simp] theorem by_3 : bytesT Tryd.prog 3 = some 8 := by kernel_rfl
theorem et_46 : ElemT Tryd.prog 46 3 1 8 := ⟨by kernel_rfl, by kernel_rfl, by kernel_rfl, by kernel_rfl, ⟨.int .i64 0, by kernel_rfl, by kernel_rfl⟩, by decide⟩
@[simp] theorem zt_46 : zeroT Tryd.prog 46 = some (.lst true 0 []) := by kernel_rfl
@[simp] theorem zr_46 : zeroE Tryd.prog 46 = some (.lst true 0 []) := by kernel_rfl
@[simp] theorem ld_50 : loadT Tryd.prog 50 = some (3, true) := by kernel_rfl
@[simp] theorem sz_50 : szT Tryd.prog 50 = some 3 := by kernel_rfl
@[simp] theorem ag_50 : aggT Tryd.prog 50 = some true := by kernel_rfl
@[simp] theorem fd_50_0 : fieldT Tryd.prog 50 0 = some (0, 1, false) := by kernel_rfl
@[simp] theorem fd_50_1 : fieldT Tryd.prog 50 1 = some (1, 1, false) := by kernel_rfl
@[simp] theorem fd_50_2 : fieldT Tryd.prog 50 2 = some (2, 1, false) := by kernel_rfl
@[simp] theorem pl_50 : placesT Tryd.prog 50 = some [(0, 1), (1, 1), (2, 1)] := by kernel_rfl
@[simp] theorem zt_50 : zeroT Tryd.prog 50 = some (.agg [.lst true 0 [], .int .i64 0, .int .i64 0]) := by kernel_rfl
@[simp] theorem zr_50 : zeroE Tryd.prog 50 = some (.agg [.lst true 0 [], .int .i64 0, .int .i64 0]) := by kernel_rfl
@[simp] theorem ld_51 : loadT Tryd.prog 51 = some (3, true) := by kernel_rfl
@[simp] theorem sz_51 : szT Tryd.prog 51 = some 3 := by kernel_rfl
@[simp] theorem ag_51 : aggT Tryd.prog 51 = some true := by kernel_rfl
@[simp] theorem fd_51_0 : fieldT Tryd.prog 51 0 = some (0, 1, false) := by kernel_rfl
@[simp] theorem fd_51_1 : fieldT Tryd.prog 51 1 = some (1, 1, false) := by kernel_rfl
@[simp] theorem fd_51_2 : fieldT Tryd.prog 51 2 = some (2, 1, false) := by kernel_rfl
@[simp] theorem pl_51 : placesT Tryd.prog 51 = some [(0, 1), (1, 1), (2, 1)] := by kernel_rfl
@[simp] theorem zt_51 : zeroT Tryd.prog 51 = some (.agg [.lst true 0 [], .int .i64 0, .int .i64 0]) := by kernel_rfl
@[simp] theorem zr_51 : zeroE Tryd.prog 51 = some (.agg [.lst true 0 [], .int .i64 0, .int .i64 0]) := by kernel_rfl
@[simp] theorem ld_53 : loadT Tryd.prog 53 = some (1, false) := by kernel_rfl
@[simp] theorem sz_53 : szT Tryd.prog 53 = some 1 := by kernel_rfl
@[simp] theorem ag_53 : aggT Tryd.prog 53 = some false := by kernel_rfl
@[simp] theorem un_53 : Tryd.prog.underlying 53 = some (.int .u64) := by kernel_rfl
@[simp] theorem zt_53 : zeroT Tryd.prog 53 = some (.int .u64 0) := by kernel_rfl
@[simp] theorem zr_53 : zeroE Tryd.prog 53 = some (.int .u64 0) := by kernel_rfl
@[simp] theorem ld_55 : loadT Tryd.prog 55 = some (24, true) := by kernel_rfl
@[simp] theorem sz_55 : szT Tryd.prog 55 = some 24 := by kernel_rfl
@[simp] theorem ag_55 : aggT Tryd.prog 55 = some true := by kernel_rfl
@[simp] theorem un_55 : Tryd.prog.underlying 55 = some (.array 24 5) := by kernel_rfl
@[simp] theorem pl_55 : placesT Tryd.prog 55 = some [(0, 1), (1, 1), (2, 1), (3, 1), (4, 1), (5, 1), (6, 1), (7, 1), (8, 1), (9, 1), (10, 1), (11, 1), (12, 1), (13, 1), (14, 1), (15, 1), (16, 1), (17, 1), (18, 1), (19, 1), (20, 1), (21, 1), (22, 1), (23, 1)] := by kernel_rfl
@[simp] theorem zt_55 : zeroT Tryd.prog 55 = some (.agg [.int .u8 0, .int .u8 0, .int .u8 0, .int .u8 0, .int .u8 0, .int .u8 0, .int .u8 0, .int .u8 0, .int .u8 0, .int .u8 0, .int .u8 0, .int .u8 0, .int .u8 0, .int .u8 0, .int .u8 0, .int .u8 0, .int .u8 0, .int .u8 0, .int .u8 0, .int .u8 0, .int .u8 0, .int .u8 0, .int .u8 0, .int .u8 0]) := by kernel_rfl
@[simp] theorem zr_55 : zeroE Tryd.prog 55 = some (.agg [.int .u8 0, .int .u8 0, .int .u8 0, .int .u8 0, .int .u8 0, .int .u8 0, .int .u8 0, .int .u8 0, .int .u8 0, .int .u8 0, .int .u8 0, .int .u8 0, .int .u8 0, .int .u8 0, .int .u8 0, .int .u8 0, .int .u8 0, .int .u8 0, .int .u8 0, .int .u8 0, .int .u8 0, .int .u8 0, .int .u8 0, .int .u8 0]) := by kernel_rfl
@[simp] theorem ld_56 : loadT Tryd.prog 56 = some (1, false) := by kernel_rfl
@[simp] theorem sz_56 : szT Tryd.prog 56 = some 1 := by kernel_rfl
@[simp] theorem ag_56 : aggT Tryd.prog 56 = some false := by kernel_rfl
@[simp] theorem un_56 : Tryd.prog.underlying 56 = some (.int .u64) := by kernel_rfl
@[simp] theorem zt_56 : zeroT Tryd.prog 56 = some (.int .u64 0) := by kernel_rfl
@[simp] theorem zr_56 : zeroE Tryd.prog 56 = some (.int .u64 0) := by kernel_rfl
@[simp] theorem ld_59 : loadT Tryd.prog 59 = some (1, false) := by kernel_rfl
@[simp] theorem sz_59 : szT Tryd.prog 59 = some 1 := by kernel_rfl
@[simp] theorem ag_59 : aggT Tryd.prog 59 = some false := by kernel_rfl
@[simp] theorem ld_63 : loadT Tryd.prog 63 = some (20, true) := by kernel_rfl
@[simp] theorem sz_63 : szT Tryd.prog 63 = some 20 := by kernel_rfl
@[simp] theorem ag_63 : aggT Tryd.prog 63 = some true := by kernel_rfl
@[simp] theorem un_63 : Tryd.prog.underlying 63 = some (.array 20 56) := by kernel_rfl
@[simp] theorem pl_63 : placesT Tryd.prog 63 = some [(0, 1), (1, 1), (2, 1), (3, 1), (4, 1), (5, 1), (6, 1), (7, 1), (8, 1), (9, 1), (10, 1), (11, 1), (12, 1), (13, 1), (14, 1), (15, 1), (16, 1), (17, 1), (18, 1), (19, 1)] := by kernel_rfl
@[simp] theorem zt_63 : zeroT Tryd.prog 63 = some (.agg [.int .u64 0, .int .u64 0, .int .u64 0, .int .u64 0, .int .u64 0, .int .u64 0, .int .u64 0, .int .u64 0, .int .u64 0, .int .u64 0, .int .u64 0, .int .u64 0, .int .u64 0, .int .u64 0, .int .u64 0, .int .u64 0, .int .u64 0, .int .u64 0, .int .u64 0, .int .u64 0]) := by kernel_rfl
@[simp] theorem zr_63 : zeroE Tryd.prog 63 = some (.agg [.int .u64 0, .int .u64 0, .int .u64 0, .int .u64 0, .int .u64 0, .int .u64 0, .int .u64 0, .int .u64 0, .int .u64 0, .int .u64 0, .int .u64 0, .int .u64 0, .int .u64 0, .int .u64 0, .int .u64 0, .int .u64 0, .int .u64 0, .int .u64 0, .int .u64 0, .int .u64 0]) := by kernel_rfl
@[simp] theorem ld_64 : loadT Tryd.prog 64 = some (1, false) := by kernel_rfl
@[simp] theorem sz_64 : szT Tryd.prog 64 = some 1 := by kernel_rfl
@[simp] theorem ag_64 : aggT Tryd.prog 64 = some false := by kernel_rfl
@[simp] theorem un_64 : Tryd.prog.underlying 64 = some (.int .u32) := by kernel_rfl
@[simp] theorem zt_64 : zeroT Tryd.prog 64 = some (.int .u32 0) := by kernel_rfl
@[simp] theorem zr_64 : zeroE Tryd.prog 64 = some (.int .u32 0) := by kernel_rfl
@[simp] theorem ld_65 : loadT Tryd.prog 65 = some (65, true) := by kernel_rfl
@[simp] theorem sz_65 : szT Tryd.prog 65 = some 65 := by kernel_rfl
@[simp] theorem ag_65 : aggT Tryd.prog 65 = some true := by kernel_rfl
@[simp] theorem un_65 : Tryd.prog.underlying 65 = some (.array 65 5) := by kernel_rfl
@[simp] theorem pl_65 : placesT Tryd.prog 65 = some [(0, 1), (1, 1), (2, 1), (3, 1), (4, 1), (5, 1), (6, 1), (7, 1), (8, 1), (9, 1), (10, 1), (11, 1), (12, 1), (13, 1), (14, 1), (15, 1), (16, 1), (17, 1), (18, 1), (19, 1), (20, 1), (21, 1), (22, 1), (23, 1), (24, 1), (25, 1), (26, 1), (27, 1), (28, 1), (29, 1), (30, 1), (31, 1), (32, 1), (33, 1), (34, 1), (35, 1), (36, 1), (37, 1), (38, 1), (39, 1), (40, 1), (41, 1), (42, 1), (43, 1), (44, 1), (45, 1), (46, 1), (47, 1), (48, 1), (49, 1), (50, 1), (51, 1), (52, 1), (53, 1), (54, 1), (55, 1), (56, 1), (57, 1), (58, 1), (59, 1), (60, 1), (61, 1), (62, 1), (63, 1), (64, 1)] := by kernel_rfl
@[simp] theorem zt_65 : zeroT Tryd.prog 65 = some (.agg [.int .u8 0, .int .u8 0, .int .u8 0, .int .u8 0, .int .u8 0, .int .u8 0, .int .u8 0, .int .u8 0, .int .u8 0, .int .u8 0, .int .u8 0, .int .u8 0, .int .u8 0, .int .u8 0, .int .u8 0, .int .u8 0, .int .u8 0, .int .u8 0, .int .u8 0, .int .u8 0, .int .u8 0, .int .u8 0, .int .u8 0, .int .u8 0, .int .u8 0, .int .u8 0, .int .u8 0, .int .u8 0, .int .u8 0, .int .u8 0, .int .u8 0, .int .u8 0, .int .u8 0, .int .u8 0, .int .u8 0, .int .u8 0, .int .u8 0, .int .u8 0, .int .u8 0, .int .u8 0, .int .u8 0, .int .u8 0, .int .u8 0, .int .u8 0, .int .u8 0, .int .u8 0, .int .u8 0, .int .u8 0, .int .u8 0, .int .u8 0, .int .u8 0, .int .u8 0, .int .u8 0, .int .u8 0, .int .u8 0, .int .u8 0, .int .u8 0, .int .u8 0, .int .u8 0, .int .u8 0, .int .u8 0, .int .u8 0, .int .u8 0, .int .u8 0, .int .u8 0]) := by kernel_rfl
@[simp] theorem zr_65 : zeroE Tryd.prog 65 = some (.agg [.int .u8 0, .int .u8 0, .int .u8 0, .int .u8 0, .int .u8 0, .int .u8 0, .int .u8 0, .int .u8 0, .int .u8 0, .int .u8 0, .int .u8 0, .int .u8 0, .int .u8 0, .int .u8 0, .int .u8 0, .int .u8 0, .int .u8 0, .int .u8 0, .int .u8 0, .int .u8 0, .int .u8 0, .int .u8 0, .int .u8 0, .int .u8 0, .int .u8 0, .int .u8 0, .int .u8 0, .int .u8 0, .int .u8 0, .int .u8 0, .int .u8 0, .int .u8 0, .int .u8 0, .int .u8 0, .int .u8 0, .int .u8 0, .int .u8 0, .int .u8 0, .int .u8 0, .int .u8 0, .int .u8 0, .int .u8 0, .int .u8 0, .int .u8 0, .int .u8 0, .int .u8 0, .int .u8 0, .int .u8 0, .int .u8 0, .int .u8 0, .int .u8 0, .int .u8 0, .int .u8 0, .int .u8 0, .int .u8 0, .int .u8 0, .int .u8 0, .int .u8 0, .int .u8 0, .int .u8 0, .int .u8 0, .int .u8 0, .int .u8 0, .int .u8 0, .int .u8 0]) := by kernel_rfl
@[simp] theorem ld_68 : loadT Tryd.prog 68 = some (32, true) := by kernel_rfl
@[simp] theorem sz_68 : szT Tryd.prog 68 = some 32 := by kernel_rfl
@[simp] theorem ag_68 : aggT Tryd.prog 68 = some true := by kernel_rfl
@[simp] theorem un_68 : Tryd.prog.underlying 68 = some (.array 32 5) := by kernel_rfl
@[simp] theorem pl_68 : placesT Tryd.prog 68 = some [(0, 1), (1, 1), (2, 1), (3, 1), (4, 1), (5, 1), (6, 1), (7, 1), (8, 1), (9, 1), (10, 1), (11, 1), (12, 1), (13, 1), (14, 1), (15, 1), (16, 1), (17, 1), (18, 1), (19, 1), (20, 1), (21, 1), (22, 1), (23, 1), (24, 1), (25, 1), (26, 1), (27, 1), (28, 1), (29, 1), (30, 1), (31, 1)] := by kernel_rfl
@[simp] theorem zt_68 : zeroT Tryd.prog 68 = some (.agg [.int .u8 0, .int .u8 0, .int .u8 0, .int .u8 0, .int .u8 0, .int .u8 0, .int .u8 0, .int .u8 0, .int .u8 0, .int .u8 0, .int .u8 0, .int .u8 0, .int .u8 0, .int .u8 0, .int .u8 0, .int .u8 0, .int .u8 0, .int .u8 0, .int .u8 0, .int .u8 0, .int .u8 0, .int .u8 0, .int .u8 0, .int .u8 0, .int .u8 0, .int .u8 0, .int .u8 0, .int .u8 0, .int .u8 0, .int .u8 0, .int .u8 0, .int .u8 0]) := by kernel_rfl
@[simp] theorem zr_68 : zeroE Tryd.prog 68 = some (.agg [.int .u8 0, .int .u8 0, .int .u8 0, .int .u8 0, .int .u8 0, .int .u8 0, .int .u8 0, .int .u8 0, .int .u8 0, .int .u8 0, .int .u8 0, .int .u8 0, .int .u8 0, .int .u8 0, .int .u8 0, .int .u8 0, .int .u8 0, .int .u8 0, .int .u8 0, .int .u8 0, .int .u8 0, .int .u8 0, .int .u8 0, .int .u8 0, .int .u8 0, .int .u8 0, .int .u8 0, .int .u8 0, .int .u8 0, .int .u8 0, .int .u8 0, .int .u8 0]) := by kernel_rfl
@[simp] theorem ld_69 : loadT Tryd.prog 69 = some (64, true) := by kernel_rfl
@[simp] theorem sz_69 : szT Tryd.prog 69 = some 64 := by kernel_rfl
@[simp] theorem ag_69 : aggT Tryd.prog 69 = some true := by kernel_rfl
@[simp] theorem un_69 : Tryd.prog.underlying 69 = some (.array 64 5) := by kernel_rfl
@[simp] theorem pl_69 : placesT Tryd.prog 69 = some [(0, 1), (1, 1), (2, 1), (3, 1), (4, 1), (5, 1), (6, 1), (7, 1), (8, 1), (9, 1), (10, 1), (11, 1), (12, 1), (13, 1), (14, 1), (15, 1), (16, 1), (17, 1), (18, 1), (19, 1), (20, 1), (21, 1), (22, 1), (23, 1), (24, 1), (25, 1), (26, 1), (27, 1), (28, 1), (29, 1), (30, 1), (31, 1), (32, 1), (33, 1), (34, 1), (35, 1), (36, 1), (37, 1), (38, 1), (39, 1), (40, 1), (41, 1), (42, 1), (43, 1), (44, 1), (45, 1), (46, 1), (47, 1), (48, 1), (49, 1), (50, 1), (51, 1), (52, 1), (53, 1), (54, 1), (55, 1), (56, 1), (57, 1), (58, 1), (59, 1), (60, 1), (61, 1), (62, 1), (63, 1)] := by kernel_rfl
@[simp] theorem zt_69 : zeroT Tryd.prog 69 = some (.agg [.int .u8 0, .int .u8 0, .int .u8 0, .int .u8 0, .int .u8 0, .int .u8 0, .int .u8 0, .int .u8 0, .int .u8 0, .int .u8 0, .int .u8 0, .int .u8 0, .int .u8 0, .int .u8 0, .int .u8 0, .int .u8 0, .int .u8 0, .int .u8 0, .int .u8 0, .int .u8 0, .int .u8 0, .int .u8 0, .int .u8 0, .int .u8 0, .int .u8 0, .int .u8 0, .int .u8 0, .int .u8 0, .int .u8 0, .int .u8 0, .int .u8 0, .int .u8 0, .int .u8 0, .int .u8 0, .int .u8 0, .int .u8 0, .int .u8 0, .int .u8 0, .int .u8 0, .int .u8 0, .int .u8 0, .int .u8 0, .int .u8 0, .int .u8 0, .int .u8 0, .int .u8 0, .int .u8 0, .int .u8 0, .int .u8 0, .int .u8 0, .int .u8 0, .int .u8 0, .int .u8 0, .int .u8 0, .int .u8 0, .int .u8 0, .int .u8 0, .int .u8 0, .int .u8 0, .int .u8 0, .int .u8 0, .int .u8 0, .int .u8 0, .int .u8 0]) := by kernel_rfl
@[simp] theorem zr_69 : zeroE Tryd.prog 69 = some (.agg [.int .u8 0, .int .u8 0, .int .u8 0, .int .u8 0, .int .u8 0, .int .u8 0, .int .u8 0, .int .u8 0, .int .u8 0, .int .u8 0, .int .u8 0, .int .u8 0, .int .u8 0, .int .u8 0, .int .u8 0, .int .u8 0, .int .u8 0, .int .u8 0, .int .u8 0, .int .u8 0, .int .u8 0, .int .u8 0, .int .u8 0, .int .u8 0, .int .u8 0, .int .u8 0, .int .u8 0, .int .u8 0, .int .u8 0, .int .u8 0, .int .u8 0, .int .u8 0, .int .u8 0, .int .u8 0, .int .u8 0, .int .u8 0, .int .u8 0, .int .u8 0, .int .u8 0, .int .u8 0, .int .u8 0, .int .u8 0, .int .u8 0, .int .u8 0, .int .u8 0, .int .u8 0, .int .u8 0, .int .u8 0, .int .u8 0, .int .u8 0, .int .u8 0, .int .u8 0, .int .u8 0, .int .u8 0, .int .u8 0, .int .u8 0, .int .u8 0, .int .u8 0, .int .u8 0, .int .u8 0, .int .u8 0, .int .u8 0, .int .u8 0, .int .u8 0]) := by kernel_rfl
@[simp] theorem ld_80 : loadT Tryd.prog 80 = some (1, false) := by kernel_rfl
@[simp] theorem sz_80 : szT Tryd.prog 80 = some 1 := by kernel_rfl
@[simp] theorem ag_80 : aggT Tryd.prog 80 = some false := by kernel_rfl
@[simp] theorem un_80 : Tryd.prog.underlying 80 = some (.pointer 5) := by kernel_rfl
@[simp] theorem zt_80 : zeroT Tryd.prog 80 = some (.nilp) := by kernel_rfl
@[simp] theorem zr_80 : zeroE Tryd.prog 80 = some (.nilp) := by kernel_rfl
@[simp] theorem ld_85 : loadT Tryd.prog 85 = some (1, false) := by kernel_rfl
@[simp] theorem sz_85 : szT Tryd.prog 85 = some 1 := by kernel_rfl
@[simp] theorem ag_85 : aggT Tryd.prog 85 = some false := by kernel_rfl
end Go.T
namespace Go.T
open Go Go.Proofs
set_option maxRecDepth 10000
set_option maxHeartbeats 1000000
set_option linter.unusedSimpArgs false
theorem c_l1In (a b c : Int) : PCall Tryd.prog 16 [.int .i64 a, .int .i64 b, .int .i64 c] (.bool (inR a b c)) := by
  refine pcall_of Tryd.func16 (by kernel_rfl) rfl (by simp [Tryd.f16]) ?_
  (repeat refine AWp.seq ?_); refine AWp.region noP (by kernel_rfl) ?_
  simp
  (repeat refine AWp.seq ?_); refine AWp.region noP (by kernel_rfl) ?_
  by_cases h : b ≤ a
  · simp [h]
    exact AWp.ret (post_ret1 rfl (by simp [inR, h]))
  · simp [h]
    exact AWp.ret (post_ret1 rfl (by simp [inR, h]))
theorem c_inRange (a b c : Int) : PCall Tryd.prog 18 [.int .i64 a, .int .i64 b, .int .i64 c] (.bool (inR a b c)) := by
  refine pcall_of Tryd.func18 (by kernel_rfl) rfl (by simp [Tryd.f18]) ?_
  (repeat refine AWp.seq ?_); refine AWp.region noP (by kernel_rfl) ?_
  simp
  (repeat refine AWp.seq ?_); refine AWp.region noP (by kernel_rfl) ?_
  by_cases h : b ≤ a
  · simp [h]
    exact AWp.ret (post_ret1 rfl (by simp [inR, h]))
  · simp [h]
    exact AWp.ret (post_ret1 rfl (by simp [inR, h]))
end Go.T
namespace Go.T
open Go Go.Proofs
set_option maxRecDepth 10000
set_option maxHeartbeats 1000000
set_option linter.unusedSimpArgs false
set_option linter.unusedVariables false
open Go Go.Sort
theorem c_spec_NumText (n : Int) (h0 : -9223372036854775808 ≤ n) (h1 : n ≤ 9223372036854775807) : PCall Tryd.prog 17 [.int .i64 n] (.str (numB n)) := by
  refine pcall_of Tryd.func17 (by kernel_rfl) rfl (by simp [Tryd.f17]) ?_
  (repeat refine AWp.seq ?_); refine AWp.region noP (by kernel_rfl) ?_
  try simp
  (repeat refine AWp.seq ?_); refine AWp.region noP (by kernel_rfl) ?_
  simp
  by_cases hz : n = 0
  · (repeat refine AWp.seq ?_); refine AWp.condT (by simp [hz]) ?_
    (repeat refine AWp.seq ?_); refine AWp.region noP (by kernel_rfl) ?_
    simp
    refine AWp.ret (post_ret1 rfl ?_)
    subst hz
    simp [numB, itoa_zero]
    try rfl
  (repeat refine AWp.seq ?_); refine AWp.condF (by simp [hz]) ?_
  refine AWp.skip ?_
  try simp
  (repeat refine AWp.seq ?_); refine AWp.region noP (by kernel_rfl) ?_
  simp
  (repeat refine AWp.seq ?_); refine AWp.region noP (by kernel_rfl) ?_
  simp
  (try refine AWp.seq ?_)
  refine AWp.cutA (fun st => st.slots 0 = .int .i64 n ∧ st.slots 3 = .str ⟨(dig n.natAbs).toArray⟩) ?_ ?_
  · refine AWp.block (AWp.rounds (fun k st => ∃ (v : Int) (s : List UInt8), k = v.natAbs ∧ v.natAbs ≤ n.natAbs ∧ (-9223372036854775808 ≤ v ∧ v ≤ 9223372036854775807) ∧ dig v.natAbs ++ s = dig n.natAbs ∧ st.slots 0 = .int .i64 n ∧ st.slots 3 = .str ⟨s.toArray⟩ ∧ st.slots 4 = .int .i64 v) n.natAbs ⟨n, [], rfl, Nat.le_refl _, ⟨h0, h1⟩, by simp, by simp, by simp; try rfl, by simp⟩ ?_)
    rintro RR k st hR ⟨v, s, rfl, hvn, hvb, hd, s0, s3, s4⟩
    by_cases hv : v = 0
    · (repeat refine AWp.seq ?_); refine AWp.region noP (by kernel_rfl) ?_
      simp [s4, hv]
      (repeat refine AWp.seq ?_); refine AWp.condF (by simp) ?_
      refine AWp.exit ?_
      subst hv
      simp [dig] at hd
      simp [s0, s3, hd, dig]
    · have e1 := tmod10 v
      have e2 := tdiv10 v
      have hne : v.natAbs ≠ 0 := by omega
      have hstep := dig_step hne
      have hlt : v.natAbs % 10 < 10 := Nat.mod_lt _ (by omega)
      (repeat refine AWp.seq ?_); refine AWp.region noP (by kernel_rfl) ?_
      simp [s4, hv]
      (repeat refine AWp.seq ?_); refine AWp.condT (by simp) ?_
      refine AWp.skip ?_
      try simp
      (repeat refine AWp.seq ?_); refine AWp.block ?_
      (repeat refine AWp.seq ?_); refine AWp.region noP (by kernel_rfl) ?_
      simp [s4]
      generalize v.tmod 10 = t at *
      (repeat refine AWp.seq ?_); refine AWp.region noP (by kernel_rfl) ?_
      simp
      (try refine AWp.seq ?_)
      refine AWp.cutA (fun st' => st'.slots 0 = .int .i64 n ∧ st'.slots 3 = .str ⟨s.toArray⟩ ∧ st'.slots 4 = .int .i64 v ∧ st'.slots 5 = .int .i64 (v.natAbs % 10 : Nat)) ?_ ?_
      · by_cases ht : t < 0
        · have hw : IntKind.wrap .i64 (0 - t) = ((v.natAbs % 10 : Nat) : Int) := by rw [wrap64 (by omega) (by omega)]; omega
          have hw' : IntKind.wrap .i64 (-t) = ((v.natAbs % 10 : Nat) : Int) := by rw [wrap64 (by omega) (by omega)]; omega
          refine AWp.condT (by simp [ht]) ?_
          (repeat refine AWp.seq ?_); refine AWp.region noP (by kernel_rfl) ?_
          simp [s0, s3, s4, hw, hw']
        · have ht' : t = ((v.natAbs % 10 : Nat) : Int) := by omega
          refine AWp.condF (by simp [ht]) ?_
          refine AWp.skip ?_
          simp [s0, s3, s4, ht']
      rintro st' ⟨q0, q3, q4, q5⟩
      have hb1 := bytes_one (v.natAbs % 10) hlt
      generalize v.natAbs % 10 = d at *
      have hw : IntKind.wrap .i64 (48 + (d : Int)) = 48 + (d : Int) := wrap64 (by omega) (by omega)
      have hw8 : IntKind.wrap .u8 (48 + (d : Int)) = 48 + (d : Int) := by rw [IntKind.wrap_u8]; omega
      have hlen : s.length ≤ 19 := by
        have := dig_word h0 h1
        rw [← hd] at this
        simp at this
        omega
      (repeat refine AWp.seq ?_); refine AWp.region noP (by kernel_rfl) ?_
      have hle : 1 + s.length ≤ 9223372036854775807 := by omega
      simp [q5, q3, hw, hw8, hb1, numsA, binA, strA, convA, cat1, size_mk, hle]
      have hwq : IntKind.wrap .i64 (v.tdiv 10) = v.tdiv 10 := wrap64 (by omega) (by omega)
      (repeat refine AWp.seq ?_); refine AWp.region noP (by kernel_rfl) ?_
      simp [q4, hwq]
      exact hR _ (v.tdiv 10).natAbs (by omega) ⟨v.tdiv 10, UInt8.ofNat (48 + d) :: s, rfl, by omega, by omega, by rw [e2, ← hd, hstep]; simp, by simp [q0], by simp, by simp⟩
  rintro st ⟨s0, s3⟩
  (repeat refine AWp.seq ?_); refine AWp.region noP (by kernel_rfl) ?_
  simp [s0]
  have hlen := dig_word h0 h1
  by_cases hneg : n < 0
  · (repeat refine AWp.seq ?_); refine AWp.condT (by simp [hneg]) ?_
    (repeat refine AWp.seq ?_); refine AWp.region noP (by kernel_rfl) ?_
    have hle : 1 + (dig n.natAbs).length ≤ 9223372036854775807 := by omega
    simp [s3, binA, strA, cat1, size_mk, hle]
    refine AWp.ret (post_ret1 rfl ?_)
    simp [numB, itoa_neg hneg]
  · (repeat refine AWp.seq ?_); refine AWp.condF (by simp [hneg]) ?_
    refine AWp.skip ?_
    try simp
    (repeat refine AWp.seq ?_); refine AWp.region noP (by kernel_rfl) ?_
    simp [s3]
    refine AWp.ret (post_ret1 rfl ?_)
    simp [numB, itoa_pos (show 0 < n by omega)]

def insNms : List ByteArray := [⟨#[112, 117, 115, 104]⟩, ⟨#[103, 101, 116]⟩, ⟨#[115, 101, 116]⟩, ⟨#[108, 111, 97, 100]⟩, ⟨#[115, 116, 111, 114, 101]⟩, ⟨#[108, 111, 97, 100, 99]⟩, ⟨#[115, 116, 111, 114, 101, 99]⟩, ⟨#[97, 100, 100]⟩, ⟨#[115, 117, 98]⟩, ⟨#[109, 117, 108]⟩, ⟨#[109, 105, 110]⟩, ⟨#[109, 97, 120]⟩, ⟨#[106, 117, 109, 112]⟩, ⟨#[106, 117, 109, 112, 103, 116]⟩, ⟨#[112, 114, 105, 110, 116]⟩, ⟨#[98, 97, 114]⟩, ⟨#[112, 111, 115, 116]⟩, ⟨#[119, 97, 105, 116]⟩, ⟨#[104, 97, 108, 116]⟩]
def insNm (op : Int) : ByteArray := insNms.getD (op.toNat - 1) ⟨#[]⟩
def one1 (op : Int) : Bool := decide (op = 1 ∨ op = 2 ∨ op = 3 ∨ op = 6 ∨ op = 7 ∨ op = 13 ∨ op = 14 ∨ op = 17 ∨ op = 18)
def two2 (op : Int) : Bool := decide (op = 4 ∨ op = 5)
def insT (op a b : Int) : ByteArray :=
  if 1 ≤ op ∧ op ≤ 19 then (if one1 op then insNm op ++ ⟨#[32]⟩ ++ numB a else if two2 op then insNm op ++ ⟨#[32]⟩ ++ numB a ++ ⟨#[32]⟩ ++ numB b else insNm op) else ⟨#[]⟩
theorem insNm_get {op : Int} (h0 : 1 ≤ op) (h1 : op ≤ 19) : insNms[op.toNat - 1]? = some (insNm op) := by
  unfold insNm
  rw [List.getD_eq_getElem?_getD, List.getElem?_eq_getElem (by simp [insNms]; omega)]
  rfl
theorem insNm_size {op : Int} : (insNm op).size ≤ 6 := by
  have : ∀ x ∈ insNms, x.size ≤ 6 := by decide
  unfold insNm
  rw [List.getD_eq_getElem?_getD]
  cases h : insNms[op.toNat - 1]? with
  | none => exact Nat.zero_le _
  | some x => exact this x (List.mem_of_getElem? h)
theorem numB_size {n : Int} (h0 : -9223372036854775808 ≤ n) (h1 : n ≤ 9223372036854775807) : (numB n).size ≤ 20 := by
  have := dig_word h0 h1
  unfold numB
  rw [size_mk]
  by_cases h : n < 0
  · rw [itoa_neg h]; simp; omega
  · by_cases hz : n = 0
    · rw [hz, itoa_zero]; simp
    · rw [itoa_pos (by omega)]; omega
def insA (op a b : Int) : List AV := [.int .i64 op, .int .i64 a, .int .i64 b]
theorem c_spec_InsText (op a b : Int) (ha0 : -9223372036854775808 ≤ a) (ha1 : a ≤ 9223372036854775807) (hb0 : -9223372036854775808 ≤ b) (hb1 : b ≤ 9223372036854775807) : PCall Tryd.prog 5 [.agg (insA op a b)] (.str (insT op a b)) := by
  refine pcall_of Tryd.func5 (by kernel_rfl) rfl (by simp [Tryd.f5]) ?_
  (repeat refine AWp.seq ?_); refine AWp.region noP (by kernel_rfl) ?_
  unfold insA
  simp
  intro g
  refine AWp.sees (Sees.view (t := 1) (View.freezeB (g := g) (cs := insA op a b) (by simp [set_at, insA]))) ?_
  unfold insA
  (repeat refine AWp.seq ?_); refine AWp.region noP (by kernel_rfl) ?_
  simp [literalA]
  (repeat refine AWp.seq ?_); refine AWp.region noP (by kernel_rfl) ?_
  simp
  refine aop_call _ _ _ _ _ _ _ _ (c_l1In op 1 19) ?_
  simp [inR]
  by_cases h0 : 1 ≤ op ∧ op ≤ 19
  · have hget := insNm_get h0.1 h0.2
    have hk : ((.str ⟨#[]⟩ : AV) :: insNms.map .str)[op.toNat]? = some (.str (insNm op)) := by
      have e : op.toNat = (op.toNat - 1) + 1 := by omega
      rw [e, List.getElem?_cons_succ, List.getElem?_map, hget]
      rfl
    have hq : ∀ m, idxA Tryd.prog m 38 (.lst true 1 (.str ⟨#[]⟩ :: insNms.map .str)) (.int .i64 op) = some (.ref [.str (insNm op)]) := by
      intro m
      have hlt : ¬ op < 0 := by omega
      unfold idxA
      simp only [es_38, hlt, if_false, if_true, hk]
      rfl
    simp only [insNms, List.map_cons, List.map_nil] at hq
    (repeat refine AWp.seq ?_); refine AWp.condF (by simp [h0]) ?_
    refine AWp.skip ?_
    try simp
    (repeat refine AWp.seq ?_); refine AWp.region noP (by kernel_rfl) ?_
    simp [hq]
    (repeat refine AWp.seq ?_); refine AWp.region noP (by kernel_rfl) ?_
    simp
    refine AWp.gen (fun st => st.slots 1 = .ref (insA op a b) ∧ st.slots 4 = .str (insNm op) ∧ st.slots 16 = .int .i64 op) ⟨by simp [insA], by simp, by simp⟩ ?_
    unfold insA
    rintro st ⟨s1, s4, s16⟩
    have z1 := @insNm_size op
    have z2 := numB_size ha0 ha1
    have z3 := numB_size hb0 hb1
    have zs : (⟨#[32]⟩ : ByteArray).size = 1 := rfl
    have e1 : binA .add (.str (insNm op)) (.str ⟨#[32]⟩) = some (.str (insNm op ++ ⟨#[32]⟩)) := by rw [strCat, if_pos (by simp only [ByteArray.size_append, zs]; omega)]
    have e2 : binA .add (.str (insNm op ++ ⟨#[32]⟩)) (.str (numB a)) = some (.str (insNm op ++ ⟨#[32]⟩ ++ numB a)) := by rw [strCat, if_pos (by simp only [ByteArray.size_append, zs]; omega)]
    have e3 : binA .add (.str (insNm op ++ ⟨#[32]⟩ ++ numB a)) (.str ⟨#[32]⟩) = some (.str (insNm op ++ ⟨#[32]⟩ ++ numB a ++ ⟨#[32]⟩)) := by rw [strCat, if_pos (by simp only [ByteArray.size_append, zs]; omega)]
    have e4 : binA .add (.str (insNm op ++ ⟨#[32]⟩ ++ numB a ++ ⟨#[32]⟩)) (.str (numB b)) = some (.str (insNm op ++ ⟨#[32]⟩ ++ numB a ++ ⟨#[32]⟩ ++ numB b)) := by rw [strCat, if_pos (by simp only [ByteArray.size_append, zs]; omega)]
    (repeat refine AWp.seq ?_); refine AWp.block ?_
    refine AWp.seq ?_
    refine AWp.cutA (fun st => st.slots 1 = .ref [.int .i64 op, .int .i64 a, .int .i64 b] ∧ st.slots 4 = .str (insNm op) ∧ st.slots 16 = .int .i64 op ∧ st.slots 17 = .bool (one1 op)) ?_ ?_
    · unfold one1
      (repeat refine AWp.seq ?_); refine AWp.region noP (by kernel_rfl) ?_
      simp [s16]
      by_cases hn1 : op = 1
      · (repeat refine AWp.seq ?_); refine AWp.condT (by simp [hn1]) ?_
        refine AWp.skip ?_
        simp [*]
      (repeat refine AWp.seq ?_); refine AWp.condF (by simp [hn1]) ?_
      (repeat refine AWp.seq ?_); refine AWp.region noP (by kernel_rfl) ?_
      simp [s16, hn1]
      by_cases hn2 : op = 2
      · (repeat refine AWp.seq ?_); refine AWp.condT (by simp [hn2]) ?_
        refine AWp.skip ?_
        simp [*]
      (repeat refine AWp.seq ?_); refine AWp.condF (by simp [hn2]) ?_
      (repeat refine AWp.seq ?_); refine AWp.region noP (by kernel_rfl) ?_
      simp [s16, hn1, hn2]
      by_cases hn3 : op = 3
      · (repeat refine AWp.seq ?_); refine AWp.condT (by simp [hn3]) ?_
        refine AWp.skip ?_
        simp [*]
      (repeat refine AWp.seq ?_); refine AWp.condF (by simp [hn3]) ?_
      (repeat refine AWp.seq ?_); refine AWp.region noP (by kernel_rfl) ?_
      simp [s16, hn1, hn2, hn3]
      by_cases hn6 : op = 6
      · (repeat refine AWp.seq ?_); refine AWp.condT (by simp [hn6]) ?_
        refine AWp.skip ?_
        simp [*]
      (repeat refine AWp.seq ?_); refine AWp.condF (by simp [hn6]) ?_
      (repeat refine AWp.seq ?_); refine AWp.region noP (by kernel_rfl) ?_
      simp [s16, hn1, hn2, hn3, hn6]
      by_cases hn7 : op = 7
      · (repeat refine AWp.seq ?_); refine AWp.condT (by simp [hn7]) ?_
        refine AWp.skip ?_
        simp [*]
      (repeat refine AWp.seq ?_); refine AWp.condF (by simp [hn7]) ?_
      (repeat refine AWp.seq ?_); refine AWp.region noP (by kernel_rfl) ?_
      simp [s16, hn1, hn2, hn3, hn6, hn7]
      by_cases hn13 : op = 13
      · (repeat refine AWp.seq ?_); refine AWp.condT (by simp [hn13]) ?_
        refine AWp.skip ?_
        simp [*]
      (repeat refine AWp.seq ?_); refine AWp.condF (by simp [hn13]) ?_
      (repeat refine AWp.seq ?_); refine AWp.region noP (by kernel_rfl) ?_
      simp [s16, hn1, hn2, hn3, hn6, hn7, hn13]
      by_cases hn14 : op = 14
      · (repeat refine AWp.seq ?_); refine AWp.condT (by simp [hn14]) ?_
        refine AWp.skip ?_
        simp [*]
      (repeat refine AWp.seq ?_); refine AWp.condF (by simp [hn14]) ?_
      (repeat refine AWp.seq ?_); refine AWp.region noP (by kernel_rfl) ?_
      simp [s16, hn1, hn2, hn3, hn6, hn7, hn13, hn14]
      by_cases hn17 : op = 17
      · (repeat refine AWp.seq ?_); refine AWp.condT (by simp [hn17]) ?_
        refine AWp.skip ?_
        simp [*]
      (repeat refine AWp.seq ?_); refine AWp.condF (by simp [hn17]) ?_
      (repeat refine AWp.seq ?_); refine AWp.region noP (by kernel_rfl) ?_
      simp [s16, hn1, hn2, hn3, hn6, hn7, hn13, hn14, hn17]
      by_cases hn18 : op = 18 <;> simp [*]
    clear s1 s4 s16
    rintro st ⟨s1, s4, s16, s17⟩
    by_cases ho : one1 op = true
    · (repeat refine AWp.seq ?_); refine AWp.condT (by simp [s17, ho]) ?_
      (repeat refine AWp.seq ?_); refine AWp.region noP (by kernel_rfl) ?_
      simp [s1, s4, e1]
      refine aop_call _ _ _ _ _ _ _ _ (c_spec_NumText a ha0 ha1) ?_
      simp [e2, s1]
      refine AWp.ret (post_ret1 rfl ?_)
      simp [insT, h0, ho]
    (repeat refine AWp.seq ?_); refine AWp.condF (by simp [s17, ho]) ?_
    refine AWp.seq ?_
    refine AWp.cutA (fun st => st.slots 1 = .ref [.int .i64 op, .int .i64 a, .int .i64 b] ∧ st.slots 4 = .str (insNm op) ∧ st.slots 33 = .bool (two2 op)) ?_ ?_
    · unfold two2
      (repeat refine AWp.seq ?_); refine AWp.region noP (by kernel_rfl) ?_
      simp [s16]
      by_cases hn4 : op = 4
      · (repeat refine AWp.seq ?_); refine AWp.condT (by simp [hn4]) ?_
        refine AWp.skip ?_
        simp [*]
      (repeat refine AWp.seq ?_); refine AWp.condF (by simp [hn4]) ?_
      (repeat refine AWp.seq ?_); refine AWp.region noP (by kernel_rfl) ?_
      simp [s16, hn4]
      by_cases hn5 : op = 5 <;> simp [*]
    clear s1 s4 s16 s17
    rintro st ⟨s1, s4, s33⟩
    by_cases ht : two2 op = true
    · (repeat refine AWp.seq ?_); refine AWp.condT (by simp [s33, ht]) ?_
      (repeat refine AWp.seq ?_); refine AWp.region allP (by kernel_rfl) ?_
      simp [s1, s4, e1]
      refine aop_call' (c_spec_NumText a ha0 ha1) ?_
      simp [e2, e3, s1]
      refine aop_call' (c_spec_NumText b hb0 hb1) ?_
      simp [e4]
      refine AWp.ret (post_ret1 rfl ?_)
      simp [insT, h0, ho, ht]
    (repeat refine AWp.seq ?_); refine AWp.condF (by simp [s33, ht]) ?_
    refine AWp.skip ?_
    try simp
    (repeat refine AWp.seq ?_); refine AWp.region noP (by kernel_rfl) ?_
    simp [s4]
    refine AWp.ret (post_ret1 rfl ?_)
    simp [insT, h0, ho, ht]
  · (repeat refine AWp.seq ?_); refine AWp.condT (by simp; omega) ?_
    (repeat refine AWp.seq ?_); refine AWp.region noP (by kernel_rfl) ?_
    simp
    refine AWp.ret (post_ret1 rfl ?_)
    simp [insT, h0]
end Go.T
namespace Go.Proofs
open Go.Shelf
shelf_lay LaysM.n171 Nm 171 at Tryd as Tryd.laysItoa -- 27
end Go.Proofs
namespace Go.T
open Go Go.Proofs
set_option maxRecDepth 10000
set_option maxHeartbeats 1000000
set_option linter.unusedSimpArgs false
set_option linter.unusedVariables false
open Go Go.Sort Go.Shelf
/-- The table of the powers of ten. -/
def TB : Nat := 0
theorem tb_named : Tryd.prog.globalNamed "internal/strconv.uint64pow10" = some TB := by kernel_rfl
theorem c_Itoa (n : Int) (h0 : -9223372036854775808 ≤ n) (h1 : n ≤ 9223372036854775807) {T : TypeId} {m : Mem} (hm : m TB = some (tabBlk T)) {k : AV → Mem → Prop} (hk : k (.str (numB n)) m) : WCall Tryd.prog 27 [.int .i64 n] m k :=
  wc_itoa ⟨Tryd.f27, Tryd.func27, by kernel_rfl, by kernel_rfl⟩ tb_named (fun n h0 h1 w htab => Any.strconv_Itoa Tryd.laysItoa n h0 h1 w htab) n h0 h1 hm hk
theorem c_impl_NumText (n : Int) (h0 : -9223372036854775808 ≤ n) (h1 : n ≤ 9223372036854775807) {T : TypeId} {m : Mem} (hm : m TB = some (tabBlk T)) {K : AV → Mem → Prop} (hK : K (.str (numB n)) m) : WCall Tryd.prog 19 [.int .i64 n] m K := by
  refine wcall_of Tryd.func19 (by kernel_rfl) rfl (by simp [Tryd.f19]) ?_
  (repeat refine AWp.seq ?_); refine AWp.region noP (by kernel_rfl) ?_
  try simp
  (repeat refine AWp.seq ?_); refine AWp.region noP (by kernel_rfl) ?_
  simp
  refine aop_wcall _ _ _ _ _ _ _ _ rfl (eval_func _ _) ?_
  try simp
  refine c_Itoa n h0 h1 hm ?_
  try simp
  refine AWp.ret (post_retW rfl ⟨_, _, View.refl _ _, ?_⟩)
  simp
  exact hK
theorem c_impl_InsText (op a b : Int) (ha0 : -9223372036854775808 ≤ a) (ha1 : a ≤ 9223372036854775807) (hb0 : -9223372036854775808 ≤ b) (hb1 : b ≤ 9223372036854775807) {T : TypeId} {m : Mem} (hm : m TB = some (tabBlk T)) {K : AV → Mem → Prop} (hK : K (.str (insT op a b)) m) : WCall Tryd.prog 7 [.agg (insA op a b)] m K := by
  refine wcall_of Tryd.func7 (by kernel_rfl) rfl (by simp [Tryd.f7]) ?_
  (repeat refine AWp.seq ?_); refine AWp.region noP (by kernel_rfl) ?_
  unfold insA
  simp
  intro g hg
  have hgT : TB ≠ g := fun e => by rw [← e, hm] at hg; cases hg
  refine AWp.sees (Sees.view (t := 1) (View.freezeB (g := g) (cs := insA op a b) (by simp [set_at, insA]))) ?_
  unfold insA
  have hE : Ext m ((m.set g (.box [.int .i64 op, .int .i64 a, .int .i64 b])).del g) := by
    intro k x hk
    unfold Mem.del
    have hne : k ≠ g := by rintro rfl; rw [hg] at hk; cases hk
    rw [if_neg hne, Mem.set_other hne, hk]
  (repeat refine AWp.seq ?_); refine AWp.region noP (by kernel_rfl) ?_
  simp
  refine aop_call _ _ _ _ _ _ _ _ (c_inRange op 1 19) ?_
  simp [inR]
  by_cases h0 : 1 ≤ op ∧ op ≤ 19
  · have hget := insNm_get h0.1 h0.2
    (repeat refine AWp.seq ?_); refine AWp.condF (by simp [h0]) ?_
    refine AWp.skip ?_
    try simp
    (repeat refine AWp.seq ?_); refine AWp.region noP (by kernel_rfl) ?_
    simp
    intro g2 hg2
    refine AWp.gen (fun st => st.slots 1 = .ref [.int .i64 op, .int .i64 a, .int .i64 b] ∧ st.slots 3 = .ptr g2 0 ∧ st.mem g2 = some (.box (insNms.map .str)) ∧ Ext m st.mem) ⟨by simp, by simp, by simp [insNms], ?_⟩ ?_
    · intro k x hk
      have hk2 := hE k x hk
      have hne : k ≠ g2 := by rintro rfl; rw [hk2] at hg2; cases hg2
      simp [set_at, hne]
      exact hk2
    rintro st ⟨s1, s3, sg, hE⟩
    have hw : IntKind.wrap .i64 (op - 1) = op - 1 := wrap64 (by omega) (by omega)
    have hk : op.toNat - 1 < insNms.length := (List.getElem?_eq_some_iff.1 hget).1
    have hx : idxA Tryd.prog st.mem 41 (.ptr g2 0) (.int .i64 (op - 1)) = some (.ptr g2 (op.toNat - 1)) := by
      have hz : esz Tryd.prog 41 = none := by kernel_rfl
      have ha : arrT Tryd.prog 41 = some (19, 1) := by kernel_rfl
      have h1 : ¬ op - 1 < 0 := by omega
      have h2 : op - 1 < 19 := by omega
      have h3 : (op - 1).toNat = op.toNat - 1 := by omega
      simp [idxA, hz, ha, h1, h2, h3]
    have hd : (insNms.map AV.str).drop (op.toNat - 1) = .str (insNm op) :: (insNms.map AV.str).drop (op.toNat - 1 + 1) := by
      rw [List.drop_eq_getElem_cons (by simpa using hk)]
      congr 1
      have := (List.getElem?_eq_some_iff.1 hget).2
      simp [this]
    (repeat refine AWp.seq ?_); refine AWp.region noP (by kernel_rfl) ?_
    simp [s1, s3, hw, hx, sg, hd]
    (repeat refine AWp.seq ?_); refine AWp.region noP (by kernel_rfl) ?_
    simp [s1]
    refine AWp.gen (fun st => st.slots 1 = .ref [.int .i64 op, .int .i64 a, .int .i64 b] ∧ st.slots 4 = .str (insNm op) ∧ st.slots 16 = .int .i64 op ∧ Ext m st.mem) ⟨by simp [s1], by simp, by simp, by simpa using hE⟩ ?_
    clear hx sg s3 s1 hE
    rintro st ⟨s1, s4, s16, hE⟩
    have z1 := @insNm_size op
    have z2 := numB_size ha0 ha1
    have z3 := numB_size hb0 hb1
    have zs : (⟨#[32]⟩ : ByteArray).size = 1 := rfl
    have e1 : binA .add (.str (insNm op)) (.str ⟨#[32]⟩) = some (.str (insNm op ++ ⟨#[32]⟩)) := by rw [strCat, if_pos (by simp only [ByteArray.size_append, zs]; omega)]
    have e2 : binA .add (.str (insNm op ++ ⟨#[32]⟩)) (.str (numB a)) = some (.str (insNm op ++ ⟨#[32]⟩ ++ numB a)) := by rw [strCat, if_pos (by simp only [ByteArray.size_append, zs]; omega)]
    have e3 : binA .add (.str (insNm op ++ ⟨#[32]⟩ ++ numB a)) (.str ⟨#[32]⟩) = some (.str (insNm op ++ ⟨#[32]⟩ ++ numB a ++ ⟨#[32]⟩)) := by rw [strCat, if_pos (by simp only [ByteArray.size_append, zs]; omega)]
    have e4 : binA .add (.str (insNm op ++ ⟨#[32]⟩ ++ numB a ++ ⟨#[32]⟩)) (.str (numB b)) = some (.str (insNm op ++ ⟨#[32]⟩ ++ numB a ++ ⟨#[32]⟩ ++ numB b)) := by rw [strCat, if_pos (by simp only [ByteArray.size_append, zs]; omega)]
    (repeat refine AWp.seq ?_); refine AWp.block ?_
    refine AWp.seq ?_
    refine AWp.cutA (fun st => st.slots 1 = .ref [.int .i64 op, .int .i64 a, .int .i64 b] ∧ st.slots 4 = .str (insNm op) ∧ st.slots 16 = .int .i64 op ∧ st.slots 17 = .bool (two2 op) ∧ Ext m st.mem) ?_ ?_
    · unfold two2
      (repeat refine AWp.seq ?_); refine AWp.region noP (by kernel_rfl) ?_
      simp [s16]
      by_cases hn4 : op = 4
      · (repeat refine AWp.seq ?_); refine AWp.condT (by simp [hn4]) ?_
        refine AWp.skip ?_
        simp [*]
      (repeat refine AWp.seq ?_); refine AWp.condF (by simp [hn4]) ?_
      (repeat refine AWp.seq ?_); refine AWp.region noP (by kernel_rfl) ?_
      simp [s16, hn4]
      by_cases hn5 : op = 5 <;> simp [*]
    clear s1 s4 s16 hE
    rintro st ⟨s1, s4, s16, s17, hE⟩
    have hT := hE _ _ hm
    by_cases ht : two2 op = true
    · have ho : one1 op = false := by
        simp [two2] at ht
        rcases ht with rfl | rfl <;> decide
      (repeat refine AWp.seq ?_); refine AWp.condT (by simp [s17, ht]) ?_
      (repeat refine AWp.seq ?_); refine AWp.regionG (fun _ => false) (fun i => i == 3 || i == 8) [0, 1, 2, 3, 7, 8, 4, 5, 6, 9, 10, 11] [0, 1, 2, 3, 4, 5, 6, 7, 8, 9, 10, 11] (by kernel_rfl) ?_
      simp [s1, s4, e1]
      refine aop_wcall _ _ _ _ _ _ _ _ rfl (eval_func _ _) ?_
      try simp
      refine c_impl_NumText a ha0 ha1 (by simpa using hT) ?_
      simp [e2, e3, s1]
      refine aop_wcall _ _ _ _ _ _ _ _ rfl (eval_func _ _) ?_
      try simp
      refine c_impl_NumText b hb0 hb1 (by simpa using hT) ?_
      simp [e4]
      refine AWp.ret (post_retW rfl ⟨_, _, View.forget hE _, ?_⟩)
      simp [insT, h0, ho, ht] at hK ⊢
      exact hK
    (repeat refine AWp.seq ?_); refine AWp.condF (by simp [s17, ht]) ?_
    refine AWp.seq ?_
    refine AWp.cutA (fun st => st.slots 1 = .ref [.int .i64 op, .int .i64 a, .int .i64 b] ∧ st.slots 4 = .str (insNm op) ∧ st.slots 31 = .bool (one1 op) ∧ Ext m st.mem) ?_ ?_
    · unfold one1
      (repeat refine AWp.seq ?_); refine AWp.region noP (by kernel_rfl) ?_
      simp [s16]
      by_cases hn1 : op = 1
      · (repeat refine AWp.seq ?_); refine AWp.condT (by simp [hn1]) ?_
        refine AWp.skip ?_
        simp [*]
      (repeat refine AWp.seq ?_); refine AWp.condF (by simp [hn1]) ?_
      (repeat refine AWp.seq ?_); refine AWp.region noP (by kernel_rfl) ?_
      simp [s16, hn1]
      by_cases hn2 : op = 2
      · (repeat refine AWp.seq ?_); refine AWp.condT (by simp [hn2]) ?_
        refine AWp.skip ?_
        simp [*]
      (repeat refine AWp.seq ?_); refine AWp.condF (by simp [hn2]) ?_
      (repeat refine AWp.seq ?_); refine AWp.region noP (by kernel_rfl) ?_
      simp [s16, hn1, hn2]
      by_cases hn3 : op = 3
      · (repeat refine AWp.seq ?_); refine AWp.condT (by simp [hn3]) ?_
        refine AWp.skip ?_
        simp [*]
      (repeat refine AWp.seq ?_); refine AWp.condF (by simp [hn3]) ?_
      (repeat refine AWp.seq ?_); refine AWp.region noP (by kernel_rfl) ?_
      simp [s16, hn1, hn2, hn3]
      by_cases hn6 : op = 6
      · (repeat refine AWp.seq ?_); refine AWp.condT (by simp [hn6]) ?_
        refine AWp.skip ?_
        simp [*]
      (repeat refine AWp.seq ?_); refine AWp.condF (by simp [hn6]) ?_
      (repeat refine AWp.seq ?_); refine AWp.region noP (by kernel_rfl) ?_
      simp [s16, hn1, hn2, hn3, hn6]
      by_cases hn7 : op = 7
      · (repeat refine AWp.seq ?_); refine AWp.condT (by simp [hn7]) ?_
        refine AWp.skip ?_
        simp [*]
      (repeat refine AWp.seq ?_); refine AWp.condF (by simp [hn7]) ?_
      (repeat refine AWp.seq ?_); refine AWp.region noP (by kernel_rfl) ?_
      simp [s16, hn1, hn2, hn3, hn6, hn7]
      by_cases hn13 : op = 13
      · (repeat refine AWp.seq ?_); refine AWp.condT (by simp [hn13]) ?_
        refine AWp.skip ?_
        simp [*]
      (repeat refine AWp.seq ?_); refine AWp.condF (by simp [hn13]) ?_
      (repeat refine AWp.seq ?_); refine AWp.region noP (by kernel_rfl) ?_
      simp [s16, hn1, hn2, hn3, hn6, hn7, hn13]
      by_cases hn14 : op = 14
      · (repeat refine AWp.seq ?_); refine AWp.condT (by simp [hn14]) ?_
        refine AWp.skip ?_
        simp [*]
      (repeat refine AWp.seq ?_); refine AWp.condF (by simp [hn14]) ?_
      (repeat refine AWp.seq ?_); refine AWp.region noP (by kernel_rfl) ?_
      simp [s16, hn1, hn2, hn3, hn6, hn7, hn13, hn14]
      by_cases hn17 : op = 17
      · (repeat refine AWp.seq ?_); refine AWp.condT (by simp [hn17]) ?_
        refine AWp.skip ?_
        simp [*]
      (repeat refine AWp.seq ?_); refine AWp.condF (by simp [hn17]) ?_
      (repeat refine AWp.seq ?_); refine AWp.region noP (by kernel_rfl) ?_
      simp [s16, hn1, hn2, hn3, hn6, hn7, hn13, hn14, hn17]
      by_cases hn18 : op = 18 <;> simp [*]
    clear s1 s4 s16 s17 hE hT
    rintro st ⟨s1, s4, s31, hE⟩
    have hT := hE _ _ hm
    by_cases ho : one1 op = true
    · (repeat refine AWp.seq ?_); refine AWp.condT (by simp [s31, ho]) ?_
      (repeat refine AWp.seq ?_); refine AWp.region noP (by kernel_rfl) ?_
      simp [s1, s4, e1]
      refine aop_wcall _ _ _ _ _ _ _ _ rfl (eval_func _ _) ?_
      try simp
      refine c_impl_NumText a ha0 ha1 (by simpa using hT) ?_
      simp [e2]
      refine AWp.ret (post_retW rfl ⟨_, _, View.forget hE _, ?_⟩)
      simp [insT, h0, ho] at hK ⊢
      exact hK
    (repeat refine AWp.seq ?_); refine AWp.condF (by simp [s31, ho]) ?_
    refine AWp.skip ?_
    try simp
    (repeat refine AWp.seq ?_); refine AWp.region noP (by kernel_rfl) ?_
    simp [s4]
    refine AWp.ret (post_retW rfl ⟨_, _, View.forget hE _, ?_⟩)
    simp [insT, h0, ho, ht] at hK ⊢
    exact hK
  · (repeat refine AWp.seq ?_); refine AWp.condT (by simp; omega) ?_
    (repeat refine AWp.seq ?_); refine AWp.region noP (by kernel_rfl) ?_
    simp
    refine AWp.ret (post_retW rfl ⟨_, _, View.forget hE _, ?_⟩)
    simp [insT, h0] at hK ⊢
    exact hK
end Go.T
namespace Go.T
open Go Go.Proofs
set_option maxRecDepth 10000
set_option maxHeartbeats 1000000
set_option linter.unusedSimpArgs false
set_option linter.unusedVariables false
def bys (l : List Int) : AV := .lst false 1 (l.map (AV.int .u8))
def byOk (l : List Int) : Prop := l.length ≤ 1048576 ∧ ∀ x ∈ l, 0 ≤ x ∧ x ≤ 255
/-- A cursor stands at g. -/
def Cur (l : List Int) (g : Nat) (m : Mem) : Prop := ∃ i h : Int, 0 ≤ i ∧ i ≤ l.length ∧ m g = some (.box [bys l, .int .i64 i, .int .i64 h])
def and64 (a b : Int) : Int := IntKind.wrap .i64 ((BitVec.ofInt 64 a &&& BitVec.ofInt 64 b).toNat : Int)
def xor64 (a b : Int) : Int := IntKind.wrap .i64 ((BitVec.ofInt 64 a ^^^ BitVec.ofInt 64 b).toNat : Int)
theorem and_i64 (a b : Int) : intA .and .i64 a b = some (.int .i64 (and64 a b)) := rfl
theorem xor_i64 (a b : Int) : intA .xor .i64 a b = some (.int .i64 (xor64 a b)) := rfl
theorem shr33 (a : Int) : binA .shr (.int .i64 a) (.int .u64 33) = some (.int .i64 (a.fdiv 8589934592)) := rfl
theorem shr47 (a : Int) : binA .shr (.int .i64 a) (.int .u64 47) = some (.int .i64 (a.fdiv 140737488355328)) := rfl
theorem and255 (a : Int) : 0 ≤ and64 a 255 ∧ and64 a 255 ≤ 255 := by
  have h : (BitVec.ofInt 64 a &&& BitVec.ofInt 64 255).toNat ≤ 255 := by
    rw [BitVec.toNat_and]
    exact Nat.le_trans Nat.and_le_right (by decide)
  unfold and64
  rw [wrap64 (by omega) (by omega)]
  omega
theorem c_l1New (l : List Int) (hl : byOk l) {m : Mem} {K : AV → Mem → Prop} (hK : ∀ g m', m g = none → Cur l g m' → Ext m m' → K (.ptr g 0) m') : WCall Tryd.prog 20 [bys l] m K := by
  obtain ⟨hlen, hby⟩ := hl
  refine wcall_of Tryd.func20 (by kernel_rfl) rfl (by simp [Tryd.f20]) ?_
  unfold bys
  (repeat refine AWp.seq ?_); refine AWp.region noP (by kernel_rfl) ?_
  try simp
  (repeat refine AWp.seq ?_); refine AWp.region noP (by kernel_rfl) ?_
  try simp
  (repeat refine AWp.seq ?_); refine AWp.region noP (by kernel_rfl) ?_
  try simp
  (try refine AWp.seq ?_)
  refine AWp.cutA (fun st => st.slots 0 = .lst false 1 (l.map (AV.int .u8)) ∧ (∃ h, st.slots 3 = .int .i64 h) ∧ st.mem = m) ?_ ?_
  · refine AWp.block (AWp.rounds (fun k st => ∃ (i : Nat) (h : Int), k = l.length - i ∧ i ≤ l.length ∧ st.slots 0 = .lst false 1 (l.map (AV.int .u8)) ∧ st.slots 3 = .int .i64 h ∧ st.slots 4 = .int .i64 i ∧ st.mem = m) l.length ⟨0, _, by simp, by simp, by simp, by simp; rfl, by simp, by simp⟩ ?_)
    rintro R k st hR ⟨i, h, rfl, hi, s0, s3, s4, sm⟩
    by_cases hb : i < l.length
    · have hq : l[i]? = some l[i] := List.getElem?_eq_getElem hb
      have hw : IntKind.wrap .i64 ((i : Int) + 1) = (i + 1 : Nat) := wrap64 (by omega) (by omega)
      have hx : ∀ m, idxA Tryd.prog m 28 (.lst false 1 (l.map (AV.int .u8))) (.int .i64 i) = some (.ref [.int .u8 l[i]]) := fun m => idx (y := .int .u8 l[i]) es_28 (by simp [hq])
      by_cases h4 : (i : Int) < 4000
      · (repeat refine AWp.seq ?_); refine AWp.region allP (by kernel_rfl) ?_
        simp [s0, s4, hb, h4]
        (repeat refine AWp.seq ?_); refine AWp.condT (by simp) ?_
        refine AWp.skip ?_
        try simp
        (repeat refine AWp.seq ?_); refine AWp.block ?_
        (repeat refine AWp.seq ?_); refine AWp.region noP (by kernel_rfl) ?_
        simp [s0, s3, s4, hx, and_i64]
        (repeat refine AWp.seq ?_); refine AWp.region noP (by kernel_rfl) ?_
        simp [s4, hw]
        exact hR _ (l.length - (i + 1)) (by omega) ⟨i + 1, _, rfl, hb, by simp [s0], by simp; rfl, by simp, by simp [sm]⟩
      · (repeat refine AWp.seq ?_); refine AWp.region allP (by kernel_rfl) ?_
        simp [s0, s4, hb, h4]
        (repeat refine AWp.seq ?_); refine AWp.condF (by simp) ?_
        refine AWp.exit ?_
        simp [s0, s3, sm]
    · (repeat refine AWp.seq ?_); refine AWp.region allP (by kernel_rfl) ?_
      simp [s0, s4, hb]
      (repeat refine AWp.seq ?_); refine AWp.condF (by simp) ?_
      refine AWp.exit ?_
      simp [s0, s3, sm]
  rintro st ⟨s0, ⟨h, s3⟩, sm⟩
  (repeat refine AWp.seq ?_); refine AWp.region noP (by kernel_rfl) ?_
  simp [s0, s3, sm]
  intro g hg
  refine AWp.ret (post_retW rfl ⟨_, _, View.refl _ _, ?_⟩)
  simp [sm]
  exact hK g _ hg ⟨0, h, by omega, by omega, by simp [set_at, bys]⟩ ((Ext.refl m).set hg _)
theorem c_l1Byte {l : List Int} (hl : byOk l) {g : Nat} {m : Mem} (hm : Cur l g m) {K : AV → Mem → Prop} (hK : ∀ x m', 0 ≤ x → x ≤ 255 → Cur l g m' → (∀ k, k ≠ g → m' k = m k) → K (.int .i64 x) m') : WCall Tryd.prog 29 [.ptr g 0] m K := by
  obtain ⟨hlen, hby⟩ := hl
  obtain ⟨i, h, hi0, hil, hm⟩ := hm
  unfold bys at hm
  refine wcall_of Tryd.func29 (by kernel_rfl) rfl (by simp [Tryd.f29]) ?_
  (repeat refine AWp.seq ?_); refine AWp.region noP (by kernel_rfl) ?_
  try simp
  (repeat refine AWp.seq ?_); refine AWp.region noP (by kernel_rfl) ?_
  simp [hm]
  generalize IntKind.wrap .i64 (IntKind.wrap .i64 (h * 6364136223846793005) + 1442695040888963407) = h1
  have hgg := set_same m g (.box [.lst false 1 (l.map (AV.int .u8)), .int .i64 i, .int .i64 h1])
  have ho : ∀ k, k ≠ g → (m.set g (.box [.lst false 1 (l.map (AV.int .u8)), .int .i64 i, .int .i64 h1])) k = m k := fun k hk => Mem.set_other hk
  generalize m.set g (.box [.lst false 1 (l.map (AV.int .u8)), .int .i64 i, .int .i64 h1]) = m1 at *
  (repeat refine AWp.seq ?_); refine AWp.region allP (by kernel_rfl) ?_
  simp [hgg, and_i64, xor_i64, shr33, shr47]
  have ha := and255 (xor64 (h1.fdiv 8589934592) (h1.fdiv 140737488355328))
  generalize and64 (xor64 (h1.fdiv 8589934592) (h1.fdiv 140737488355328)) 255 = x at *
  (repeat refine AWp.seq ?_); refine AWp.region allP (by kernel_rfl) ?_
  simp [hgg]
  by_cases hlt : i < l.length
  · obtain ⟨n, rfl⟩ := Int.eq_ofNat_of_zero_le hi0
    have hln : n < l.length := by omega
    have hq : l[n]? = some l[n] := List.getElem?_eq_getElem hln
    have hw : IntKind.wrap .i64 ((n : Int) + 1) = (n : Int) + 1 := wrap64 (by omega) (by omega)
    have hx : ∀ m, idxA Tryd.prog m 28 (.lst false 1 (l.map (AV.int .u8))) (.int .i64 n) = some (.ref [.int .u8 l[n]]) := fun m => idx (y := .int .u8 l[n]) es_28 (by simp [hq])
    (repeat refine AWp.seq ?_); refine AWp.condT (by simp [hln]) ?_
    (repeat refine AWp.seq ?_); refine AWp.region allP (by kernel_rfl) ?_
    simp [hgg, hx, and_i64]
    have hb2 := and255 (IntKind.wrap .i64 (x + IntKind.wrap .i64 l[n]))
    generalize and64 (IntKind.wrap .i64 (x + IntKind.wrap .i64 l[n])) 255 = y at *
    (repeat refine AWp.seq ?_); refine AWp.region noP (by kernel_rfl) ?_
    simp [hgg, hw]
    (repeat refine AWp.seq ?_); refine AWp.region noP (by kernel_rfl) ?_
    simp
    refine AWp.ret (post_retW rfl ⟨_, _, View.refl _ _, ?_⟩)
    simp
    exact hK y _ hb2.1 hb2.2 ⟨n + 1, h1, by omega, by omega, by simp [set_at, bys]⟩ fun k hk => by rw [set_at, if_neg hk]; exact ho k hk
  · (repeat refine AWp.seq ?_); refine AWp.condF (by simp; omega) ?_
    refine AWp.skip ?_
    try simp
    (repeat refine AWp.seq ?_); refine AWp.region noP (by kernel_rfl) ?_
    simp
    refine AWp.ret (post_retW rfl ⟨_, _, View.refl _ _, ?_⟩)
    simp
    exact hK x m1 ha.1 ha.2 ⟨i, h1, hi0, hil, hgg⟩ ho
theorem c_l1Below {l : List Int} (hl : byOk l) {g : Nat} {m : Mem} (hm : Cur l g m) (n : Int) (h0 : 0 < n) {K : AV → Mem → Prop} (hK : ∀ x m', 0 ≤ x → x < n → Cur l g m' → (∀ k, k ≠ g → m' k = m k) → K (.int .i64 x) m') : WCall Tryd.prog 23 [.ptr g 0, .int .i64 n] m K := by
  refine wcall_of Tryd.func23 (by kernel_rfl) rfl (by simp [Tryd.f23]) ?_
  (repeat refine AWp.seq ?_); refine AWp.region noP (by kernel_rfl) ?_
  try simp
  (repeat refine AWp.seq ?_); refine AWp.region noP (by kernel_rfl) ?_
  try simp
  (repeat refine AWp.seq ?_); refine AWp.condF (by simp; omega) ?_
  refine AWp.skip ?_
  try simp
  (repeat refine AWp.seq ?_); refine AWp.region noP (by kernel_rfl) ?_
  try simp
  have key : ∀ x : Int, 0 ≤ x → 0 ≤ x.tmod n ∧ x.tmod n < n := fun x hx => by
    rw [Int.tmod_eq_emod_of_nonneg hx]; exact ⟨Int.emod_nonneg _ (by omega), Int.emod_lt_of_pos _ h0⟩
  have hn : ¬ n = 0 := by omega
  by_cases h2 : n ≤ 256
  · (repeat refine AWp.seq ?_); refine AWp.condT (by simp [h2]) ?_
    (repeat refine AWp.seq ?_); refine AWp.region noP (by kernel_rfl) ?_
    simp
    refine aop_wcall _ _ _ _ _ _ _ _ rfl (eval_func _ _) ?_
    refine c_l1Byte hl hm fun x m' x0 x1 hc ho => ?_
    simp [hn]
    refine AWp.ret (post_retW rfl ⟨_, _, View.refl _ _, ?_⟩)
    simp
    exact hK _ _ (key x x0).1 (key x x0).2 hc ho
  · (repeat refine AWp.seq ?_); refine AWp.condF (by simp; omega) ?_
    refine AWp.skip ?_
    try simp
    (repeat refine AWp.seq ?_); refine AWp.region noP (by kernel_rfl) ?_
    simp
    refine aop_wcall _ _ _ _ _ _ _ _ rfl (eval_func _ _) ?_
    refine c_l1Byte hl hm fun x m1 x0 x1 hc1 ho1 => ?_
    simp
    (repeat refine AWp.seq ?_); refine AWp.region noP (by kernel_rfl) ?_
    simp
    refine aop_wcall _ _ _ _ _ _ _ _ rfl (eval_func _ _) ?_
    refine c_l1Byte hl hc1 fun y m2 y0 y1 hc2 ho2 => ?_
    simp
    (repeat refine AWp.seq ?_); refine AWp.region noP (by kernel_rfl) ?_
    simp
    refine aop_wcall _ _ _ _ _ _ _ _ rfl (eval_func _ _) ?_
    refine c_l1Byte hl hc2 fun z m3 z0 z1 hc3 ho3 => ?_
    simp
    have w1 : IntKind.wrap .i64 (x * 65536) = x * 65536 := wrap64 (by omega) (by omega)
    have w2 : IntKind.wrap .i64 (y * 256) = y * 256 := wrap64 (by omega) (by omega)
    have w3 : IntKind.wrap .i64 (x * 65536 + y * 256) = x * 65536 + y * 256 := wrap64 (by omega) (by omega)
    have w4 : IntKind.wrap .i64 (x * 65536 + y * 256 + z) = x * 65536 + y * 256 + z := wrap64 (by omega) (by omega)
    (repeat refine AWp.seq ?_); refine AWp.region noP (by kernel_rfl) ?_
    simp [w1, w2, w3, w4, hn]
    refine AWp.ret (post_retW rfl ⟨_, _, View.refl _ _, ?_⟩)
    simp
    exact hK _ _ (key _ (by omega)).1 (key _ (by omega)).2 hc3 fun k hk => (ho3 k hk).trans ((ho2 k hk).trans (ho1 k hk))
theorem c_l1Once {l : List Int} (hl : byOk l) {g : Nat} {m : Mem} (hm : Cur l g m) (n : Int) (h0 : 0 < n) {K : AV → Mem → Prop} (hK : ∀ b m', Cur l g m' → (∀ k, k ≠ g → m' k = m k) → K (.bool b) m') : WCall Tryd.prog 25 [.ptr g 0, .int .i64 n] m K := by
  refine wcall_of Tryd.func25 (by kernel_rfl) rfl (by simp [Tryd.f25]) ?_
  (repeat refine AWp.seq ?_); refine AWp.region noP (by kernel_rfl) ?_
  try simp
  (repeat refine AWp.seq ?_); refine AWp.region noP (by kernel_rfl) ?_
  simp
  refine aop_wcall _ _ _ _ _ _ _ _ rfl (eval_func _ _) ?_
  refine c_l1Below hl hm n h0 fun x m' x0 x1 hc ho => ?_
  simp
  refine AWp.ret (post_retW rfl ⟨_, _, View.refl _ _, ?_⟩)
  simp
  exact hK _ _ hc ho
theorem c_l1Int {l : List Int} (hl : byOk l) {g : Nat} {m : Mem} (hm : Cur l g m) (f : Bool) (ns : List Int) (h0 : 0 < ns.length) (h1 : ns.length ≤ 1000) {K : AV → Mem → Prop} (hK : ∀ x m', x ∈ ns → Cur l g m' → (∀ k, k ≠ g → m' k = m k) → K (.int .i64 x) m') : WCall Tryd.prog 22 [.ptr g 0, .lst f 1 (ns.map (AV.int .i64))] m K := by
  refine wcall_of Tryd.func22 (by kernel_rfl) rfl (by simp [Tryd.f22]) ?_
  (repeat refine AWp.seq ?_); refine AWp.region noP (by kernel_rfl) ?_
  try simp
  (repeat refine AWp.seq ?_); refine AWp.region noP (by kernel_rfl) ?_
  simp
  refine aop_wcall _ _ _ _ _ _ _ _ rfl (eval_func _ _) ?_
  refine c_l1Below hl hm ns.length (by omega) fun x m' x0 x1 hc ho => ?_
  obtain ⟨j, rfl⟩ := Int.eq_ofNat_of_zero_le x0
  have hj : j < ns.length := by omega
  have hx : ∀ m, idxA Tryd.prog m 46 (.lst f 1 (ns.map (AV.int .i64))) (.int .i64 j) = some (.ref [.int .i64 ns[j]]) := fun m => idx (y := .int .i64 ns[j]) es_46 (by simp [List.getElem?_eq_getElem hj])
  simp [hx]
  refine AWp.ret (post_retW rfl ⟨_, _, View.refl _ _, ?_⟩)
  simp
  exact hK _ _ (List.getElem_mem hj) hc ho
end Go.T
namespace Go.T
open Go Go.Proofs
set_option maxRecDepth 10000
set_option maxHeartbeats 1000000
set_option linter.unusedSimpArgs false
set_option linter.unusedVariables false
theorem c_big (l : List Int) (hl : byOk l) : PCall Tryd.prog 8 [bys l] (.bool false) := by
  refine pcall_of Tryd.func8 (by kernel_rfl) rfl (by simp [Tryd.f8]) ?_
  unfold bys
  (repeat refine AWp.seq ?_); refine AWp.region noP (by kernel_rfl) ?_
  try simp
  (repeat refine AWp.seq ?_); refine AWp.region noP (by kernel_rfl) ?_
  simp
  exact AWp.ret (post_ret1 rfl (by simp; have := hl.1; omega))
theorem c_bigT (l : List Int) (hl : ¬ l.length ≤ 1048576) : PCall Tryd.prog 8 [bys l] (.bool true) := by
  refine pcall_of Tryd.func8 (by kernel_rfl) rfl (by simp [Tryd.f8]) ?_
  unfold bys
  (repeat refine AWp.seq ?_); refine AWp.region noP (by kernel_rfl) ?_
  try simp
  (repeat refine AWp.seq ?_); refine AWp.region noP (by kernel_rfl) ?_
  simp
  exact AWp.ret (post_ret1 rfl (by simp; omega))
def words : List Int := [0, 1, 2, 3, 7, -1, -5, 100, 65536, 2147483647, -2147483648, 2147483648, 4294967296, -2147483649, 9223372036854775807, -9223372036854775808]
theorem words_in {x : Int} (h : x ∈ words) : in64 x := by
  have : ∀ x ∈ words, -9223372036854775808 ≤ x ∧ x ≤ 9223372036854775807 := by decide
  exact this x h
theorem c_l1Word {l : List Int} (hl : byOk l) {g : Nat} {m : Mem} (hm : Cur l g m) {K : AV → Mem → Prop} (hK : ∀ x m', in64 x → Cur l g m' → (∀ k, k ≠ g → m' k = m k) → K (.int .i64 x) m') : WCall Tryd.prog 28 [.ptr g 0] m K := by
  refine wcall_of Tryd.func28 (by kernel_rfl) rfl (by simp [Tryd.f28]) ?_
  (repeat refine AWp.seq ?_); refine AWp.region noP (by kernel_rfl) ?_
  try simp
  (repeat refine AWp.seq ?_); refine AWp.region noP (by kernel_rfl) ?_
  simp
  refine aop_wcall _ _ _ _ _ _ _ _ rfl (eval_func _ _) ?_
  refine c_l1Int hl hm true words (by decide) (by decide) fun x m' hx hc ho => ?_
  simp
  refine AWp.ret (post_retW rfl ⟨_, _, View.refl _ _, ?_⟩)
  simp
  exact hK _ _ (words_in hx) hc ho
theorem ext_cur {m m1 m2 : Mem} {g : Nat} (hg : m g = none) (hE : Ext m m1) (ho : ∀ k, k ≠ g → m2 k = m1 k) : Ext m m2 := fun k b hk => by
  have : k ≠ g := by rintro rfl; rw [hg] at hk; cases hk
  rw [ho k this]; exact hE k b hk
section
variable {H : Type} {enc : TypeId × Value → H} {W : World}
theorem o_Bytes (fuel : Nat) : Opens enc Tryd.prog W 28 (fun l : List Int => [bys l]) (fun l => l.length ≤ 9223372036854775807 ∧ ∀ x ∈ l, 0 ≤ x ∧ x ≤ 255) fuel := by
  cases fuel with
  | zero => exact opens_zero
  | succ k => exact Opens.map (opens_slice Tryd.underlying28 (n := 1) (elt := AV.int .u8) (by kernel_rfl) (by omega) (fun _ => rfl) (fun _ => rfl) (opens_u8 Tryd.underlying5 k)) id fun x hx => ⟨hx, Les.refl _⟩
end
end Go.T
namespace Go.T
open Go Go.Proofs
set_option maxRecDepth 10000
set_option maxHeartbeats 1000000
set_option linter.unusedSimpArgs false
set_option linter.unusedVariables false
open Go Go.Sort
theorem post_cellW {P : Program} {fn : Func} {a : Tmp} {T : TypeId} {k : AV → Mem → Prop} {e : Exit} {s : St} {r : AV} (he : e = .ret ∨ e = .normal) (hr : fn.results = #[.cell a T]) (h : loadA P s.mem T (s.slots a) = some r) {r' : AV} {m' : Mem} (hv : View s.mem r m' r') (hk : k r' m') : Post P fn k e s := by
  have : ∃ vs r m', resA P s.mem s.slots fn.results.toList = some vs ∧ View s.mem (oneOf vs) m' r ∧ k r m' := ⟨[r], r', m', by rw [hr]; simp [resA, h], hv, hk⟩
  rcases he with rfl | rfl <;> exact this
def insGood (op a b : Int) : Prop := (-1 ≤ op ∧ op ≤ 20) ∧ in64 a ∧ in64 b
/-- Two boxes beside a cursor. -/
structure Bx2 (l : List Int) (g g2 g3 : Nat) (m : Mem) (op a b : Int) (st : St) : Prop where
  s0 : st.slots 0 = .ptr g 0
  s2 : st.slots 2 = .ptr g2 0
  s3 : st.slots 3 = .ptr g3 0
  cur : Cur l g st.mem
  b2 : st.mem g2 = some (.box [.int .i64 0, .int .i64 0, .int .i64 0])
  b3 : st.mem g3 = some (.box [.int .i64 op, .int .i64 a, .int .i64 b])
  old : ∀ k, k ≠ g → k ≠ g2 → k ≠ g3 → st.mem k = m k
theorem Bx2.put {l : List Int} {g g2 g3 : Nat} {m : Mem} {op a b : Int} {st : St} (h : Bx2 l g g2 g3 m op a b st) {t : Nat} (ht : 3 < t) (v : AV) : Bx2 l g g2 g3 m op a b (st.put (some t) v) :=
  ⟨by simp [show ¬ 0 = t by omega, h.s0], by simp [show ¬ 2 = t by omega, h.s2], by simp [show ¬ 3 = t by omega, h.s3], by simpa using h.cur, by simpa using h.b2, by simpa using h.b3, by simpa using h.old⟩
theorem Bx2.puts {l : List Int} {g g2 g3 : Nat} {m : Mem} {op a b : Int} {st : St} (h : Bx2 l g g2 g3 m op a b st) {t u : Nat} {v w : AV} (ht : 3 < t := by decide) (hu : 3 < u := by decide) : Bx2 l g g2 g3 m op a b ((st.put (some t) v).put (some u) w) := (h.put ht v).put hu w
/-- The boxes are left behind. -/
theorem Bx2.done {l : List Int} {g g2 g3 : Nat} {m : Mem} {op a b : Int} {st : St} (h : Bx2 l g g2 g3 m op a b st) (n2 : g2 ≠ g) (n3 : g3 ≠ g) (h2 : m g2 = none) (h3 : m g3 = none) :
    ∃ m', (∀ k b, m' k = some b → st.mem k = some b) ∧ Cur l g m' ∧ ∀ k, k ≠ g → m' k = m k := by
  refine ⟨fun k => if k = g then st.mem g else m k, fun k b hk => ?_, ?_, fun k hk => if_neg hk⟩
  · dsimp only at hk
    by_cases hg : k = g
    · rw [if_pos hg] at hk; rw [hg]; exact hk
    · rw [if_neg hg] at hk
      rw [h.old k hg (by rintro rfl; rw [h2] at hk; cases hk) (by rintro rfl; rw [h3] at hk; cases hk)]
      exact hk
  · obtain ⟨i, h1, c1, c2, c3⟩ := h.cur
    exact ⟨i, h1, c1, c2, by simpa using c3⟩
theorem Bx2.set {l : List Int} {g g2 g3 : Nat} {m : Mem} {op a b op' a' b' : Int} {st : St} (h : Bx2 l g g2 g3 m op a b st) (n3 : g3 ≠ g) (n23 : g2 ≠ g3) {m1 : Mem} (hc : Cur l g m1) (ho : ∀ k, k ≠ g → m1 k = st.mem k) {st' : St} (hs : ∀ t, t ≤ 3 → st'.slots t = st.slots t)
    (hm : st'.mem = m1.set g3 (.box [.int .i64 op', .int .i64 a', .int .i64 b'])) (n2 : g2 ≠ g) : Bx2 l g g2 g3 m op' a' b' st' := by
  refine ⟨by rw [hs 0 (by omega)]; exact h.s0, by rw [hs 2 (by omega)]; exact h.s2, by rw [hs 3 (by omega)]; exact h.s3, ?_, ?_, by rw [hm]; simp [set_at], fun k k1 k2 k3 => ?_⟩
  · obtain ⟨i, h1, c1, c2, c3⟩ := hc
    exact ⟨i, h1, c1, c2, by rw [hm, set_at, if_neg (Ne.symm n3)]; exact c3⟩
  · rw [hm, set_at, if_neg n23, ho _ n2]; exact h.b2
  · rw [hm, set_at, if_neg k3, ho _ k1]; exact h.old k k1 k2 k3
theorem c_l16Draw {l : List Int} (hl : byOk l) {g : Nat} {m : Mem} (hm : Cur l g m) {K : AV → Mem → Prop} (hK : ∀ op a b m', (1 ≤ op ∧ op ≤ 19 ∧ 0 ≤ a ∧ a ≤ 8 ∧ 0 ≤ b ∧ b ≤ 8) → Cur l g m' → (∀ k, k ≠ g → m' k = m k) → K (.agg (insA op a b)) m') : WCall Tryd.prog 24 [.ptr g 0] m K := by
  have hmg : m g ≠ none := by obtain ⟨i, h, _, _, hm⟩ := hm; rw [hm]; simp
  refine wcall_of Tryd.func24 (by kernel_rfl) rfl (by simp [Tryd.f24]) ?_
  (repeat refine AWp.seq ?_); refine AWp.region noP (by kernel_rfl) ?_
  simp
  intro g2 hg2
  have n2 : g2 ≠ g := fun e => hmg (by rw [← e]; exact hg2)
  (repeat refine AWp.seq ?_); refine AWp.region noP (by kernel_rfl) ?_
  simp
  refine aop_wcall _ _ _ _ _ _ _ _ rfl (eval_func _ _) ?_
  try simp
  refine c_l1Below hl (g := g) (by obtain ⟨i, h, c1, c2, hm⟩ := hm; exact ⟨i, h, c1, c2, by rw [set_at, if_neg (Ne.symm n2)]; exact hm⟩) 19 (by omega) fun x m1 x0 x1 hc1 ho1 => ?_
  have hw1 : IntKind.wrap .i64 (1 + x) = 1 + x := wrap64 (by omega) (by omega)
  try simp [hw1]
  intro g3 hg3
  have n3 : g3 ≠ g := fun e => by obtain ⟨i, h, _, _, hc⟩ := hc1; rw [e, hc] at hg3; cases hg3
  have n32 : g3 ≠ g2 := fun e => by rw [e, ho1 g2 n2] at hg3; simp [set_at] at hg3
  have h3 : m g3 = none := by have := ho1 g3 n3; rw [hg3, set_at, if_neg n32] at this; exact this.symm
  generalize hop : 1 + x = op at *
  have op0 : 1 ≤ op ∧ op ≤ 19 := by omega
  try simp
  refine AWp.gen (fun st => Bx2 l g g2 g3 m op 0 0 st) ?_ ?_
  · refine ⟨by simp, by simp, by simp, ?_, ?_, by simp [set_at], fun k k1 k2 k3 => ?_⟩
    · obtain ⟨i, h, c1, c2, hc⟩ := hc1
      exact ⟨i, h, c1, c2, by simp [set_at, Ne.symm n3]; exact hc⟩
    · simp [set_at, Ne.symm n32]; rw [ho1 g2 n2]; simp [set_at]
    · simp [set_at, k3]; rw [ho1 k k1]; simp [set_at, k2]
  clear hc1 ho1 hg3
  rintro st hF
  (repeat refine AWp.seq ?_); refine AWp.region noP (by kernel_rfl) ?_
  simp [hF.s3, hF.b3]
  refine AWp.gen (fun st => Bx2 l g g2 g3 m op 0 0 st ∧ st.slots 9 = .int .i64 op) ⟨hF.puts, by simp⟩ ?_
  clear hF
  rintro st ⟨hF, s9⟩
  refine AWp.cutA (fun st => ∃ a b : Int, (0 ≤ a ∧ a ≤ 8 ∧ 0 ≤ b ∧ b ≤ 8) ∧ Bx2 l g g2 g3 m op a b st) ?_ ?_
  · (repeat refine AWp.seq ?_); refine AWp.block ?_
    refine AWp.seq ?_
    refine AWp.cutA (fun st => Bx2 l g g2 g3 m op 0 0 st ∧ st.slots 9 = .int .i64 op ∧ st.slots 10 = .bool (one1 op)) ?_ ?_
    · unfold one1
      (repeat refine AWp.seq ?_); refine AWp.region noP (by kernel_rfl) ?_
      simp [s9]
      refine AWp.gen (fun st => Bx2 l g g2 g3 m op 0 0 st ∧ st.slots 9 = .int .i64 op ∧ st.slots 10 = .bool (decide (op = 1))) ⟨hF.puts, by simp [s9], by simp; try rfl⟩ ?_
      clear hF s9
      rintro st ⟨hF, s9, s10⟩
      by_cases hn1 : op = 1
      · (repeat refine AWp.seq ?_); refine AWp.condT (by simp [s10, hn1]) ?_
        refine AWp.skip ?_
        exact ⟨hF, s9, by rw [s10]; simp [hn1]⟩
      (repeat refine AWp.seq ?_); refine AWp.condF (by simp [s10, hn1]) ?_
      clear s10
      (repeat refine AWp.seq ?_); refine AWp.region noP (by kernel_rfl) ?_
      simp [s9]
      refine AWp.gen (fun st => Bx2 l g g2 g3 m op 0 0 st ∧ st.slots 9 = .int .i64 op ∧ st.slots 10 = .bool (decide (op = 2))) ⟨hF.puts, by simp [s9], by simp; try rfl⟩ ?_
      clear hF s9
      rintro st ⟨hF, s9, s10⟩
      by_cases hn2 : op = 2
      · (repeat refine AWp.seq ?_); refine AWp.condT (by simp [s10, hn2]) ?_
        refine AWp.skip ?_
        exact ⟨hF, s9, by rw [s10]; simp [hn2]⟩
      (repeat refine AWp.seq ?_); refine AWp.condF (by simp [s10, hn2]) ?_
      clear s10
      (repeat refine AWp.seq ?_); refine AWp.region noP (by kernel_rfl) ?_
      simp [s9]
      refine AWp.gen (fun st => Bx2 l g g2 g3 m op 0 0 st ∧ st.slots 9 = .int .i64 op ∧ st.slots 10 = .bool (decide (op = 3))) ⟨hF.puts, by simp [s9], by simp; try rfl⟩ ?_
      clear hF s9
      rintro st ⟨hF, s9, s10⟩
      by_cases hn3 : op = 3
      · (repeat refine AWp.seq ?_); refine AWp.condT (by simp [s10, hn3]) ?_
        refine AWp.skip ?_
        exact ⟨hF, s9, by rw [s10]; simp [hn3]⟩
      (repeat refine AWp.seq ?_); refine AWp.condF (by simp [s10, hn3]) ?_
      clear s10
      (repeat refine AWp.seq ?_); refine AWp.region noP (by kernel_rfl) ?_
      simp [s9]
      refine AWp.gen (fun st => Bx2 l g g2 g3 m op 0 0 st ∧ st.slots 9 = .int .i64 op ∧ st.slots 10 = .bool (decide (op = 6))) ⟨hF.puts, by simp [s9], by simp; try rfl⟩ ?_
      clear hF s9
      rintro st ⟨hF, s9, s10⟩
      by_cases hn6 : op = 6
      · (repeat refine AWp.seq ?_); refine AWp.condT (by simp [s10, hn6]) ?_
        refine AWp.skip ?_
        exact ⟨hF, s9, by rw [s10]; simp [hn6]⟩
      (repeat refine AWp.seq ?_); refine AWp.condF (by simp [s10, hn6]) ?_
      clear s10
      (repeat refine AWp.seq ?_); refine AWp.region noP (by kernel_rfl) ?_
      simp [s9]
      refine AWp.gen (fun st => Bx2 l g g2 g3 m op 0 0 st ∧ st.slots 9 = .int .i64 op ∧ st.slots 10 = .bool (decide (op = 7))) ⟨hF.puts, by simp [s9], by simp; try rfl⟩ ?_
      clear hF s9
      rintro st ⟨hF, s9, s10⟩
      by_cases hn7 : op = 7
      · (repeat refine AWp.seq ?_); refine AWp.condT (by simp [s10, hn7]) ?_
        refine AWp.skip ?_
        exact ⟨hF, s9, by rw [s10]; simp [hn7]⟩
      (repeat refine AWp.seq ?_); refine AWp.condF (by simp [s10, hn7]) ?_
      clear s10
      (repeat refine AWp.seq ?_); refine AWp.region noP (by kernel_rfl) ?_
      simp [s9]
      refine AWp.gen (fun st => Bx2 l g g2 g3 m op 0 0 st ∧ st.slots 9 = .int .i64 op ∧ st.slots 10 = .bool (decide (op = 13))) ⟨hF.puts, by simp [s9], by simp; try rfl⟩ ?_
      clear hF s9
      rintro st ⟨hF, s9, s10⟩
      by_cases hn13 : op = 13
      · (repeat refine AWp.seq ?_); refine AWp.condT (by simp [s10, hn13]) ?_
        refine AWp.skip ?_
        exact ⟨hF, s9, by rw [s10]; simp [hn13]⟩
      (repeat refine AWp.seq ?_); refine AWp.condF (by simp [s10, hn13]) ?_
      clear s10
      (repeat refine AWp.seq ?_); refine AWp.region noP (by kernel_rfl) ?_
      simp [s9]
      refine AWp.gen (fun st => Bx2 l g g2 g3 m op 0 0 st ∧ st.slots 9 = .int .i64 op ∧ st.slots 10 = .bool (decide (op = 14))) ⟨hF.puts, by simp [s9], by simp; try rfl⟩ ?_
      clear hF s9
      rintro st ⟨hF, s9, s10⟩
      by_cases hn14 : op = 14
      · (repeat refine AWp.seq ?_); refine AWp.condT (by simp [s10, hn14]) ?_
        refine AWp.skip ?_
        exact ⟨hF, s9, by rw [s10]; simp [hn14]⟩
      (repeat refine AWp.seq ?_); refine AWp.condF (by simp [s10, hn14]) ?_
      clear s10
      (repeat refine AWp.seq ?_); refine AWp.region noP (by kernel_rfl) ?_
      simp [s9]
      refine AWp.gen (fun st => Bx2 l g g2 g3 m op 0 0 st ∧ st.slots 9 = .int .i64 op ∧ st.slots 10 = .bool (decide (op = 17))) ⟨hF.puts, by simp [s9], by simp; try rfl⟩ ?_
      clear hF s9
      rintro st ⟨hF, s9, s10⟩
      by_cases hn17 : op = 17
      · (repeat refine AWp.seq ?_); refine AWp.condT (by simp [s10, hn17]) ?_
        refine AWp.skip ?_
        exact ⟨hF, s9, by rw [s10]; simp [hn17]⟩
      (repeat refine AWp.seq ?_); refine AWp.condF (by simp [s10, hn17]) ?_
      clear s10
      (repeat refine AWp.seq ?_); refine AWp.region noP (by kernel_rfl) ?_
      simp [s9]
      refine ⟨hF.puts, ?_⟩
      by_cases hn18 : op = 18 <;> simp [*]
    clear hF s9
    rintro st ⟨hF, s9, s10⟩
    by_cases ho : one1 op = true
    · (repeat refine AWp.seq ?_); refine AWp.condT (by simp [s10, ho]) ?_
      (repeat refine AWp.seq ?_); refine AWp.region noP (by kernel_rfl) ?_
      simp [hF.s0]
      refine aop_wcall _ _ _ _ _ _ _ _ rfl (eval_func _ _) ?_
      try simp
      refine c_l1Below hl hF.cur 6 (by omega) fun y m2 y0 y1 hc2 ho2 => ?_
      have b3 := hF.b3
      rw [← ho2 g3 n3] at b3
      simp [hF.s3, b3]
      exact ⟨y, 0, ⟨by omega, by omega, by omega, by omega⟩, hF.set n3 (Ne.symm n32) hc2 ho2 (fun t ht => by simp [show ¬ t = 20 by omega, show ¬ t = 21 by omega, show ¬ t = 22 by omega]) (by simp) n2⟩
    (repeat refine AWp.seq ?_); refine AWp.condF (by simp [s10, ho]) ?_
    clear s10
    refine AWp.seq ?_
    refine AWp.cutA (fun st => Bx2 l g g2 g3 m op 0 0 st ∧ st.slots 9 = .int .i64 op ∧ st.slots 23 = .bool (two2 op)) ?_ ?_
    · unfold two2
      (repeat refine AWp.seq ?_); refine AWp.region noP (by kernel_rfl) ?_
      simp [s9]
      refine AWp.gen (fun st => Bx2 l g g2 g3 m op 0 0 st ∧ st.slots 9 = .int .i64 op ∧ st.slots 23 = .bool (decide (op = 4))) ⟨hF.puts, by simp [s9], by simp; try rfl⟩ ?_
      clear hF s9
      rintro st ⟨hF, s9, s10⟩
      by_cases hn4 : op = 4
      · (repeat refine AWp.seq ?_); refine AWp.condT (by simp [s10, hn4]) ?_
        refine AWp.skip ?_
        exact ⟨hF, s9, by rw [s10]; simp [hn4]⟩
      (repeat refine AWp.seq ?_); refine AWp.condF (by simp [s10, hn4]) ?_
      clear s10
      (repeat refine AWp.seq ?_); refine AWp.region noP (by kernel_rfl) ?_
      simp [s9]
      refine ⟨hF.puts, ?_⟩
      by_cases hn5 : op = 5 <;> simp [*]
    clear hF s9
    rintro st ⟨hF, s9, s10⟩
    by_cases ht : two2 op = true
    · (repeat refine AWp.seq ?_); refine AWp.condT (by simp [s10, ht]) ?_
      (repeat refine AWp.seq ?_); refine AWp.region noP (by kernel_rfl) ?_
      simp [hF.s0]
      refine aop_wcall _ _ _ _ _ _ _ _ rfl (eval_func _ _) ?_
      try simp
      refine c_l1Below hl hF.cur 8 (by omega) fun y m2 y0 y1 hc2 ho2 => ?_
      have b3 := hF.b3
      rw [← ho2 g3 n3] at b3
      simp [hF.s3, b3]
      refine AWp.gen (fun st => Bx2 l g g2 g3 m op y 0 st) (hF.set n3 (Ne.symm n32) hc2 ho2 (fun t ht => by simp [show ¬ t = 26 by omega, show ¬ t = 27 by omega, show ¬ t = 28 by omega]) (by simp) n2) ?_
      clear hF s9 s10 b3 hc2 ho2
      rintro st hF
      (repeat refine AWp.seq ?_); refine AWp.region noP (by kernel_rfl) ?_
      simp [hF.s0]
      refine aop_wcall _ _ _ _ _ _ _ _ rfl (eval_func _ _) ?_
      try simp
      refine c_l1Below hl hF.cur 8 (by omega) fun z m2 z0 z1 hc2 ho2 => ?_
      have b3 := hF.b3
      rw [← ho2 g3 n3] at b3
      have hwz : IntKind.wrap .i64 (1 + z) = 1 + z := wrap64 (by omega) (by omega)
      simp [hF.s3, b3, hwz]
      exact ⟨y, 1 + z, ⟨by omega, by omega, by omega, by omega⟩, hF.set n3 (Ne.symm n32) hc2 ho2 (fun t ht => by simp [show ¬ t = 29 by omega, show ¬ t = 30 by omega, show ¬ t = 31 by omega, show ¬ t = 32 by omega]) (by simp) n2⟩
    (repeat refine AWp.seq ?_); refine AWp.condF (by simp [s10, ht]) ?_
    refine AWp.skip ?_
    exact ⟨0, 0, by omega, hF⟩
  clear hF s9
  rintro st ⟨a, b, hab, hF⟩
  (repeat refine AWp.seq ?_); refine AWp.region noP (by kernel_rfl) ?_
  simp [hF.s3, hF.b3, hF.s2, hF.b2]
  obtain ⟨m', v1, v2, v3⟩ := hF.done n2 n3 hg2 h3
  refine AWp.ret (post_cellW (r := .agg (insA op a b)) (.inl rfl) rfl (by simp [hF.s2, set_at, insA]) (View.forget (fun k x hk => ?_) _) (hK op a b m' ⟨op0.1, op0.2, hab⟩ v2 v3))
  have hk2 : k ≠ g2 := by rintro rfl; rw [v3 _ n2, hg2] at hk; cases hk
  simp [set_at, hk2]
  exact v1 _ _ hk
end Go.T
