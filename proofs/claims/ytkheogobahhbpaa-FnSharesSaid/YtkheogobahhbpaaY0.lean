/- Facts about the types of the program. -/
import Derived.Test.YtkheogobahhbpaaT17
import Derived.Test.YtkheogobahhbpaaProg
namespace Go.T
open Go Go.Proofs
set_option maxRecDepth 10000
@[simp] theorem ld_2 : loadT Try.prog 2 = some (1, false) := by kernel_rfl
@[simp] theorem sz_2 : szT Try.prog 2 = some 1 := by kernel_rfl
@[simp] theorem ag_2 : aggT Try.prog 2 = some false := by kernel_rfl
@[simp] theorem un_2 : Try.prog.underlying 2 = some (.int .i64) := by kernel_rfl
@[simp] theorem zt_2 : zeroT Try.prog 2 = some (.int .i64 0) := by kernel_rfl
@[simp] theorem zr_2 : zeroE Try.prog 2 = some (.int .i64 0) := by kernel_rfl
@[simp] theorem ld_3 : loadT Try.prog 3 = some (1, false) := by kernel_rfl
@[simp] theorem sz_3 : szT Try.prog 3 = some 1 := by kernel_rfl
@[simp] theorem ag_3 : aggT Try.prog 3 = some false := by kernel_rfl
@[simp] theorem un_3 : Try.prog.underlying 3 = some (.int .i64) := by kernel_rfl
@[simp] theorem zt_3 : zeroT Try.prog 3 = some (.int .i64 0) := by kernel_rfl
@[simp] theorem zr_3 : zeroE Try.prog 3 = some (.int .i64 0) := by kernel_rfl
@[simp] theorem ld_4 : loadT Try.prog 4 = some (1, false) := by kernel_rfl
@[simp] theorem sz_4 : szT Try.prog 4 = some 1 := by kernel_rfl
@[simp] theorem ag_4 : aggT Try.prog 4 = some false := by kernel_rfl
@[simp] theorem un_4 : Try.prog.underlying 4 = some .bool := by kernel_rfl
@[simp] theorem zt_4 : zeroT Try.prog 4 = some (.bool false) := by kernel_rfl
@[simp] theorem zr_4 : zeroE Try.prog 4 = some (.bool false) := by kernel_rfl
@[simp] theorem ld_5 : loadT Try.prog 5 = some (1, false) := by kernel_rfl
@[simp] theorem sz_5 : szT Try.prog 5 = some 1 := by kernel_rfl
@[simp] theorem ag_5 : aggT Try.prog 5 = some false := by kernel_rfl
@[simp] theorem un_5 : Try.prog.underlying 5 = some (.int .u8) := by kernel_rfl
@[simp] theorem zt_5 : zeroT Try.prog 5 = some (.int .u8 0) := by kernel_rfl
@[simp] theorem zr_5 : zeroE Try.prog 5 = some (.int .u8 0) := by kernel_rfl
@[simp] theorem ld_9 : loadT Try.prog 9 = some (1, false) := by kernel_rfl
@[simp] theorem sz_9 : szT Try.prog 9 = some 1 := by kernel_rfl
@[simp] theorem ag_9 : aggT Try.prog 9 = some false := by kernel_rfl
@[simp] theorem un_9 : Try.prog.underlying 9 = some .string := by kernel_rfl
@[simp] theorem zt_9 : zeroT Try.prog 9 = some (.str ByteArray.empty) := by kernel_rfl
@[simp] theorem zr_9 : zeroE Try.prog 9 = some (.str ByteArray.empty) := by kernel_rfl
@[simp] theorem ld_12 : loadT Try.prog 12 = some (1, false) := by kernel_rfl
@[simp] theorem sz_12 : szT Try.prog 12 = some 1 := by kernel_rfl
@[simp] theorem ag_12 : aggT Try.prog 12 = some false := by kernel_rfl
@[simp] theorem zt_12 : zeroT Try.prog 12 = some (.int .u64 0) := by kernel_rfl
@[simp] theorem zr_12 : zeroE Try.prog 12 = some (.int .u64 0) := by kernel_rfl
@[simp] theorem ld_13 : loadT Try.prog 13 = some (2, true) := by kernel_rfl
@[simp] theorem sz_13 : szT Try.prog 13 = some 2 := by kernel_rfl
@[simp] theorem ag_13 : aggT Try.prog 13 = some true := by kernel_rfl
@[simp] theorem fd_13_0 : fieldT Try.prog 13 0 = some (0, 1, false) := by kernel_rfl
@[simp] theorem fd_13_1 : fieldT Try.prog 13 1 = some (1, 1, false) := by kernel_rfl
@[simp] theorem pl_13 : placesT Try.prog 13 = some [(0, 1), (1, 1)] := by kernel_rfl
@[simp] theorem zt_13 : zeroT Try.prog 13 = some (.agg [.str ByteArray.empty, .int .u64 0]) := by kernel_rfl
@[simp] theorem zr_13 : zeroE Try.prog 13 = some (.agg [.str ByteArray.empty, .int .u64 0]) := by kernel_rfl
@[simp] theorem ld_21 : loadT Try.prog 21 = some (1, false) := by kernel_rfl
@[simp] theorem sz_21 : szT Try.prog 21 = some 1 := by kernel_rfl
@[simp] theorem ag_21 : aggT Try.prog 21 = some false := by kernel_rfl
@[simp] theorem un_21 : Try.prog.underlying 21 = some (.int .i32) := by kernel_rfl
@[simp] theorem zt_21 : zeroT Try.prog 21 = some (.int .i32 0) := by kernel_rfl
@[simp] theorem zr_21 : zeroE Try.prog 21 = some (.int .i32 0) := by kernel_rfl
@[simp] theorem ld_22 : loadT Try.prog 22 = some (1, false) := by kernel_rfl
@[simp] theorem sz_22 : szT Try.prog 22 = some 1 := by kernel_rfl
@[simp] theorem ag_22 : aggT Try.prog 22 = some false := by kernel_rfl
@[simp] theorem es_22 : esz Try.prog 22 = some 1 := by kernel_rfl
@[simp] theorem el_22 : elemT Try.prog 22 = some 5 := by kernel_rfl
@[simp] theorem un_22 : Try.prog.underlying 22 = some (.slice 5) := by kernel_rfl
@[simp] theorem ii_22 : isIntT Try.prog 22 = some false := by kernel_rfl
@[simp] theorem by_5 : bytesT Try.prog 5 = some 1 := by kernel_rfl
theorem et_22 : ElemT Try.prog 22 5 1 1 := ⟨by kernel_rfl, by kernel_rfl, by kernel_rfl, by kernel_rfl, ⟨.int .u8 0, by kernel_rfl, by kernel_rfl⟩, by decide⟩
@[simp] theorem zt_22 : zeroT Try.prog 22 = some (.lst true 0 []) := by kernel_rfl
@[simp] theorem zr_22 : zeroE Try.prog 22 = some (.lst true 0 []) := by kernel_rfl
@[simp] theorem ld_25 : loadT Try.prog 25 = some (1, false) := by kernel_rfl
@[simp] theorem sz_25 : szT Try.prog 25 = some 1 := by kernel_rfl
@[simp] theorem ag_25 : aggT Try.prog 25 = some false := by kernel_rfl
@[simp] theorem ld_33 : loadT Try.prog 33 = some (1, false) := by kernel_rfl
@[simp] theorem sz_33 : szT Try.prog 33 = some 1 := by kernel_rfl
@[simp] theorem ag_33 : aggT Try.prog 33 = some false := by kernel_rfl
@[simp] theorem ld_35 : loadT Try.prog 35 = some (1, false) := by kernel_rfl
@[simp] theorem sz_35 : szT Try.prog 35 = some 1 := by kernel_rfl
@[simp] theorem ag_35 : aggT Try.prog 35 = some false := by kernel_rfl
@[simp] theorem un_35 : Try.prog.underlying 35 = some (.pointer 45) := by kernel_rfl
@[simp] theorem zt_35 : zeroT Try.prog 35 = some (.nilp) := by kernel_rfl
@[simp] theorem zr_35 : zeroE Try.prog 35 = some (.nilp) := by kernel_rfl
@[simp] theorem ld_43 : loadT Try.prog 43 = some (1, false) := by kernel_rfl
@[simp] theorem sz_43 : szT Try.prog 43 = some 1 := by kernel_rfl
@[simp] theorem ag_43 : aggT Try.prog 43 = some false := by kernel_rfl
@[simp] theorem es_43 : esz Try.prog 43 = some 1 := by kernel_rfl
@[simp] theorem el_43 : elemT Try.prog 43 = some 3 := by kernel_rfl
@[simp] theorem un_43 : Try.prog.underlying 43 = some (.slice 3) := by kernel_rfl
@[simp] theorem ii_43 : isIntT Try.prog 43 = some false := by kernel_rfl
@[simp] theorem by_3 : bytesT Try.prog 3 = some 8 := by kernel_rfl
theorem et_43 : ElemT Try.prog 43 3 1 8 := ⟨by kernel_rfl, by kernel_rfl, by kernel_rfl, by kernel_rfl, ⟨.int .i64 0, by kernel_rfl, by kernel_rfl⟩, by decide⟩
@[simp] theorem zt_43 : zeroT Try.prog 43 = some (.lst true 0 []) := by kernel_rfl
@[simp] theorem zr_43 : zeroE Try.prog 43 = some (.lst true 0 []) := by kernel_rfl
@[simp] theorem ld_44 : loadT Try.prog 44 = some (3, true) := by kernel_rfl
@[simp] theorem sz_44 : szT Try.prog 44 = some 3 := by kernel_rfl
@[simp] theorem ag_44 : aggT Try.prog 44 = some true := by kernel_rfl
@[simp] theorem fd_44_0 : fieldT Try.prog 44 0 = some (0, 1, false) := by kernel_rfl
@[simp] theorem fd_44_1 : fieldT Try.prog 44 1 = some (1, 1, false) := by kernel_rfl
@[simp] theorem fd_44_2 : fieldT Try.prog 44 2 = some (2, 1, false) := by kernel_rfl
@[simp] theorem pl_44 : placesT Try.prog 44 = some [(0, 1), (1, 1), (2, 1)] := by kernel_rfl
@[simp] theorem zt_44 : zeroT Try.prog 44 = some (.agg [.lst true 0 [], .int .i64 0, .int .i64 0]) := by kernel_rfl
@[simp] theorem zr_44 : zeroE Try.prog 44 = some (.agg [.lst true 0 [], .int .i64 0, .int .i64 0]) := by kernel_rfl
@[simp] theorem ld_45 : loadT Try.prog 45 = some (3, true) := by kernel_rfl
@[simp] theorem sz_45 : szT Try.prog 45 = some 3 := by kernel_rfl
@[simp] theorem ag_45 : aggT Try.prog 45 = some true := by kernel_rfl
@[simp] theorem fd_45_0 : fieldT Try.prog 45 0 = some (0, 1, false) := by kernel_rfl
@[simp] theorem fd_45_1 : fieldT Try.prog 45 1 = some (1, 1, false) := by kernel_rfl
@[simp] theorem fd_45_2 : fieldT Try.prog 45 2 = some (2, 1, false) := by kernel_rfl
@[simp] theorem pl_45 : placesT Try.prog 45 = some [(0, 1), (1, 1), (2, 1)] := by kernel_rfl
@[simp] theorem zt_45 : zeroT Try.prog 45 = some (.agg [.lst true 0 [], .int .i64 0, .int .i64 0]) := by kernel_rfl
@[simp] theorem zr_45 : zeroE Try.prog 45 = some (.agg [.lst true 0 [], .int .i64 0, .int .i64 0]) := by kernel_rfl
@[simp] theorem ld_46 : loadT Try.prog 46 = some (1, false) := by kernel_rfl
@[simp] theorem sz_46 : szT Try.prog 46 = some 1 := by kernel_rfl
@[simp] theorem ag_46 : aggT Try.prog 46 = some false := by kernel_rfl
@[simp] theorem un_46 : Try.prog.underlying 46 = some (.int .u64) := by kernel_rfl
@[simp] theorem zt_46 : zeroT Try.prog 46 = some (.int .u64 0) := by kernel_rfl
@[simp] theorem zr_46 : zeroE Try.prog 46 = some (.int .u64 0) := by kernel_rfl
@[simp] theorem ld_54 : loadT Try.prog 54 = some (1, false) := by kernel_rfl
@[simp] theorem sz_54 : szT Try.prog 54 = some 1 := by kernel_rfl
@[simp] theorem ag_54 : aggT Try.prog 54 = some false := by kernel_rfl
@[simp] theorem un_54 : Try.prog.underlying 54 = some (.int .u32) := by kernel_rfl
@[simp] theorem zt_54 : zeroT Try.prog 54 = some (.int .u32 0) := by kernel_rfl
@[simp] theorem zr_54 : zeroE Try.prog 54 = some (.int .u32 0) := by kernel_rfl
@[simp] theorem ld_58 : loadT Try.prog 58 = some (1, false) := by kernel_rfl
@[simp] theorem sz_58 : szT Try.prog 58 = some 1 := by kernel_rfl
@[simp] theorem ag_58 : aggT Try.prog 58 = some false := by kernel_rfl
@[simp] theorem un_58 : Try.prog.underlying 58 = some (.pointer 5) := by kernel_rfl
@[simp] theorem zt_58 : zeroT Try.prog 58 = some (.nilp) := by kernel_rfl
@[simp] theorem zr_58 : zeroE Try.prog 58 = some (.nilp) := by kernel_rfl
@[simp] theorem ld_63 : loadT Try.prog 63 = some (1, false) := by kernel_rfl
@[simp] theorem sz_63 : szT Try.prog 63 = some 1 := by kernel_rfl
@[simp] theorem ag_63 : aggT Try.prog 63 = some false := by kernel_rfl
end Go.T
