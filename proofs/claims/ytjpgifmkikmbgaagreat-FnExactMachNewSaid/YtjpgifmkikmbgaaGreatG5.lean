/- Facts about the types of the program. Names: what the program and the reference compute. -/
import Derived.Test.YtjpgifmkikmbgaaGreatG4
import Derived.Test.YtjpgifmkikmbgaaGreatG2
import Derived.Test.YtjpgifmkikmbgaaGreatProg
namespace Go.T
open Go Go.Proofs
set_option maxRecDepth 10000
@[simp] theorem ld_2 : loadT Tryz.prog 2 = some (1, false) := by kernel_rfl
@[simp] theorem sz_2 : szT Tryz.prog 2 = some 1 := by kernel_rfl
@[simp] theorem ag_2 : aggT Tryz.prog 2 = some false := by kernel_rfl
@[simp] theorem un_2 : Tryz.prog.underlying 2 = some (.int .i64) := by kernel_rfl
@[simp] theorem zt_2 : zeroT Tryz.prog 2 = some (.int .i64 0) := by kernel_rfl
@[simp] theorem zr_2 : zeroE Tryz.prog 2 = some (.int .i64 0) := by kernel_rfl
@[simp] theorem ld_3 : loadT Tryz.prog 3 = some (1, false) := by kernel_rfl
@[simp] theorem sz_3 : szT Tryz.prog 3 = some 1 := by kernel_rfl
@[simp] theorem ag_3 : aggT Tryz.prog 3 = some false := by kernel_rfl
@[simp] theorem un_3 : Tryz.prog.underlying 3 = some (.int .i64) := by kernel_rfl
@[simp] theorem zt_3 : zeroT Tryz.prog 3 = some (.int .i64 0) := by kernel_rfl
@[simp] theorem zr_3 : zeroE Tryz.prog 3 = some (.int .i64 0) := by kernel_rfl
@[simp] theorem ld_4 : loadT Tryz.prog 4 = some (1, false) := by kernel_rfl
@[simp] theorem sz_4 : szT Tryz.prog 4 = some 1 := by kernel_rfl
@[simp] theorem ag_4 : aggT Tryz.prog 4 = some false := by kernel_rfl
@[simp] theorem un_4 : Tryz.prog.underlying 4 = some .bool := by kernel_rfl
@[simp] theorem zt_4 : zeroT Tryz.prog 4 = some (.bool false) := by kernel_rfl
@[simp] theorem zr_4 : zeroE Tryz.prog 4 = some (.bool false) := by kernel_rfl
@[simp] theorem ld_5 : loadT Tryz.prog 5 = some (1, false) := by kernel_rfl
@[simp] theorem sz_5 : szT Tryz.prog 5 = some 1 := by kernel_rfl
@[simp] theorem ag_5 : aggT Tryz.prog 5 = some false := by kernel_rfl
@[simp] theorem un_5 : Tryz.prog.underlying 5 = some (.int .u8) := by kernel_rfl
@[simp] theorem zt_5 : zeroT Tryz.prog 5 = some (.int .u8 0) := by kernel_rfl
@[simp] theorem zr_5 : zeroE Tryz.prog 5 = some (.int .u8 0) := by kernel_rfl
@[simp] theorem ld_9 : loadT Tryz.prog 9 = some (1, false) := by kernel_rfl
@[simp] theorem sz_9 : szT Tryz.prog 9 = some 1 := by kernel_rfl
@[simp] theorem ag_9 : aggT Tryz.prog 9 = some false := by kernel_rfl
@[simp] theorem un_9 : Tryz.prog.underlying 9 = some .string := by kernel_rfl
@[simp] theorem zt_9 : zeroT Tryz.prog 9 = some (.str ByteArray.empty) := by kernel_rfl
@[simp] theorem zr_9 : zeroE Tryz.prog 9 = some (.str ByteArray.empty) := by kernel_rfl
@[simp] theorem ld_12 : loadT Tryz.prog 12 = some (1, false) := by kernel_rfl
@[simp] theorem sz_12 : szT Tryz.prog 12 = some 1 := by kernel_rfl
@[simp] theorem ag_12 : aggT Tryz.prog 12 = some false := by kernel_rfl
@[simp] theorem zt_12 : zeroT Tryz.prog 12 = some (.int .u64 0) := by kernel_rfl
@[simp] theorem zr_12 : zeroE Tryz.prog 12 = some (.int .u64 0) := by kernel_rfl
@[simp] theorem ld_13 : loadT Tryz.prog 13 = some (2, true) := by kernel_rfl
@[simp] theorem sz_13 : szT Tryz.prog 13 = some 2 := by kernel_rfl
@[simp] theorem ag_13 : aggT Tryz.prog 13 = some true := by kernel_rfl
@[simp] theorem fd_13_0 : fieldT Tryz.prog 13 0 = some (0, 1, false) := by kernel_rfl
@[simp] theorem fd_13_1 : fieldT Tryz.prog 13 1 = some (1, 1, false) := by kernel_rfl
@[simp] theorem pl_13 : placesT Tryz.prog 13 = some [(0, 1), (1, 1)] := by kernel_rfl
@[simp] theorem zt_13 : zeroT Tryz.prog 13 = some (.agg [.str ByteArray.empty, .int .u64 0]) := by kernel_rfl
@[simp] theorem zr_13 : zeroE Tryz.prog 13 = some (.agg [.str ByteArray.empty, .int .u64 0]) := by kernel_rfl
@[simp] theorem ld_21 : loadT Tryz.prog 21 = some (1, false) := by kernel_rfl
@[simp] theorem sz_21 : szT Tryz.prog 21 = some 1 := by kernel_rfl
@[simp] theorem ag_21 : aggT Tryz.prog 21 = some false := by kernel_rfl
@[simp] theorem un_21 : Tryz.prog.underlying 21 = some (.int .i32) := by kernel_rfl
@[simp] theorem zt_21 : zeroT Tryz.prog 21 = some (.int .i32 0) := by kernel_rfl
@[simp] theorem zr_21 : zeroE Tryz.prog 21 = some (.int .i32 0) := by kernel_rfl
@[simp] theorem ld_22 : loadT Tryz.prog 22 = some (1, false) := by kernel_rfl
@[simp] theorem sz_22 : szT Tryz.prog 22 = some 1 := by kernel_rfl
@[simp] theorem ag_22 : aggT Tryz.prog 22 = some false := by kernel_rfl
@[simp] theorem es_22 : esz Tryz.prog 22 = some 2 := by kernel_rfl
@[simp] theorem el_22 : elemT Tryz.prog 22 = some 93 := by kernel_rfl
@[simp] theorem un_22 : Tryz.prog.underlying 22 = some (.slice 93) := by kernel_rfl
@[simp] theorem ii_22 : isIntT Tryz.prog 22 = some false := by kernel_rfl
@[simp] theorem by_93 : bytesT Tryz.prog 93 = some 24 := by kernel_rfl
theorem et_22 : ElemT Tryz.prog 22 93 2 24 := ⟨by kernel_rfl, by kernel_rfl, by kernel_rfl, by kernel_rfl, ⟨.agg [.str ByteArray.empty, .int .i64 0], by kernel_rfl, by kernel_rfl⟩, by decide⟩
@[simp] theorem zt_22 : zeroT Tryz.prog 22 = some (.lst true 0 []) := by kernel_rfl
@[simp] theorem zr_22 : zeroE Tryz.prog 22 = some (.lst true 0 []) := by kernel_rfl
@[simp] theorem ld_23 : loadT Tryz.prog 23 = some (1, false) := by kernel_rfl
@[simp] theorem sz_23 : szT Tryz.prog 23 = some 1 := by kernel_rfl
@[simp] theorem ag_23 : aggT Tryz.prog 23 = some false := by kernel_rfl
@[simp] theorem es_23 : esz Tryz.prog 23 = some 19 := by kernel_rfl
@[simp] theorem el_23 : elemT Tryz.prog 23 = some 99 := by kernel_rfl
@[simp] theorem un_23 : Tryz.prog.underlying 23 = some (.slice 99) := by kernel_rfl
@[simp] theorem ii_23 : isIntT Tryz.prog 23 = some false := by kernel_rfl
@[simp] theorem by_99 : bytesT Tryz.prog 99 = some 272 := by kernel_rfl
theorem et_23 : ElemT Tryz.prog 23 99 19 272 := ⟨by kernel_rfl, by kernel_rfl, by kernel_rfl, by kernel_rfl, ⟨.agg [.int .i64 0, .str ByteArray.empty, .int .i64 0, .int .i64 0, .str ByteArray.empty, .lst true 0 [], .int .i64 0, .int .i64 0, .str ByteArray.empty, .lst true 0 [], .int .i64 0, .int .i64 0, .str ByteArray.empty, .lst true 0 [], .int .i64 0, .int .i64 0, .str ByteArray.empty, .lst true 0 [], .lst true 0 []], by kernel_rfl, by kernel_rfl⟩, by decide⟩
@[simp] theorem zt_23 : zeroT Tryz.prog 23 = some (.lst true 0 []) := by kernel_rfl
@[simp] theorem zr_23 : zeroE Tryz.prog 23 = some (.lst true 0 []) := by kernel_rfl
@[simp] theorem ld_24 : loadT Tryz.prog 24 = some (2, true) := by kernel_rfl
@[simp] theorem sz_24 : szT Tryz.prog 24 = some 2 := by kernel_rfl
@[simp] theorem ag_24 : aggT Tryz.prog 24 = some true := by kernel_rfl
@[simp] theorem fd_24_0 : fieldT Tryz.prog 24 0 = some (0, 1, false) := by kernel_rfl
@[simp] theorem fd_24_1 : fieldT Tryz.prog 24 1 = some (1, 1, false) := by kernel_rfl
@[simp] theorem pl_24 : placesT Tryz.prog 24 = some [(0, 1), (1, 1)] := by kernel_rfl
@[simp] theorem zt_24 : zeroT Tryz.prog 24 = some (.agg [.lst true 0 [], .lst true 0 []]) := by kernel_rfl
@[simp] theorem zr_24 : zeroE Tryz.prog 24 = some (.agg [.lst true 0 [], .lst true 0 []]) := by kernel_rfl
@[simp] theorem ld_25 : loadT Tryz.prog 25 = some (2, true) := by kernel_rfl
@[simp] theorem sz_25 : szT Tryz.prog 25 = some 2 := by kernel_rfl
@[simp] theorem ag_25 : aggT Tryz.prog 25 = some true := by kernel_rfl
@[simp] theorem fd_25_0 : fieldT Tryz.prog 25 0 = some (0, 1, false) := by kernel_rfl
@[simp] theorem fd_25_1 : fieldT Tryz.prog 25 1 = some (1, 1, false) := by kernel_rfl
@[simp] theorem pl_25 : placesT Tryz.prog 25 = some [(0, 1), (1, 1)] := by kernel_rfl
@[simp] theorem zt_25 : zeroT Tryz.prog 25 = some (.agg [.lst true 0 [], .lst true 0 []]) := by kernel_rfl
@[simp] theorem zr_25 : zeroE Tryz.prog 25 = some (.agg [.lst true 0 [], .lst true 0 []]) := by kernel_rfl
@[simp] theorem ld_28 : loadT Tryz.prog 28 = some (1, false) := by kernel_rfl
@[simp] theorem sz_28 : szT Tryz.prog 28 = some 1 := by kernel_rfl
@[simp] theorem ag_28 : aggT Tryz.prog 28 = some false := by kernel_rfl
@[simp] theorem es_28 : esz Tryz.prog 28 = some 2 := by kernel_rfl
@[simp] theorem el_28 : elemT Tryz.prog 28 = some 71 := by kernel_rfl
@[simp] theorem un_28 : Tryz.prog.underlying 28 = some (.slice 71) := by kernel_rfl
@[simp] theorem ii_28 : isIntT Tryz.prog 28 = some false := by kernel_rfl
@[simp] theorem by_71 : bytesT Tryz.prog 71 = some 24 := by kernel_rfl
theorem et_28 : ElemT Tryz.prog 28 71 2 24 := ⟨by kernel_rfl, by kernel_rfl, by kernel_rfl, by kernel_rfl, ⟨.agg [.str ByteArray.empty, .int .i64 0], by kernel_rfl, by kernel_rfl⟩, by decide⟩
@[simp] theorem zt_28 : zeroT Tryz.prog 28 = some (.lst true 0 []) := by kernel_rfl
@[simp] theorem zr_28 : zeroE Tryz.prog 28 = some (.lst true 0 []) := by kernel_rfl
@[simp] theorem ld_29 : loadT Tryz.prog 29 = some (1, false) := by kernel_rfl
@[simp] theorem sz_29 : szT Tryz.prog 29 = some 1 := by kernel_rfl
@[simp] theorem ag_29 : aggT Tryz.prog 29 = some false := by kernel_rfl
@[simp] theorem es_29 : esz Tryz.prog 29 = some 19 := by kernel_rfl
@[simp] theorem el_29 : elemT Tryz.prog 29 = some 110 := by kernel_rfl
@[simp] theorem un_29 : Tryz.prog.underlying 29 = some (.slice 110) := by kernel_rfl
@[simp] theorem ii_29 : isIntT Tryz.prog 29 = some false := by kernel_rfl
@[simp] theorem by_110 : bytesT Tryz.prog 110 = some 272 := by kernel_rfl
theorem et_29 : ElemT Tryz.prog 29 110 19 272 := ⟨by kernel_rfl, by kernel_rfl, by kernel_rfl, by kernel_rfl, ⟨.agg [.int .i64 0, .str ByteArray.empty, .int .i64 0, .int .i64 0, .str ByteArray.empty, .lst true 0 [], .int .i64 0, .int .i64 0, .str ByteArray.empty, .lst true 0 [], .int .i64 0, .int .i64 0, .str ByteArray.empty, .lst true 0 [], .int .i64 0, .int .i64 0, .str ByteArray.empty, .lst true 0 [], .lst true 0 []], by kernel_rfl, by kernel_rfl⟩, by decide⟩
@[simp] theorem zt_29 : zeroT Tryz.prog 29 = some (.lst true 0 []) := by kernel_rfl
@[simp] theorem zr_29 : zeroE Tryz.prog 29 = some (.lst true 0 []) := by kernel_rfl
@[simp] theorem ld_30 : loadT Tryz.prog 30 = some (2, true) := by kernel_rfl
@[simp] theorem sz_30 : szT Tryz.prog 30 = some 2 := by kernel_rfl
@[simp] theorem ag_30 : aggT Tryz.prog 30 = some true := by kernel_rfl
@[simp] theorem fd_30_0 : fieldT Tryz.prog 30 0 = some (0, 1, false) := by kernel_rfl
@[simp] theorem fd_30_1 : fieldT Tryz.prog 30 1 = some (1, 1, false) := by kernel_rfl
@[simp] theorem pl_30 : placesT Tryz.prog 30 = some [(0, 1), (1, 1)] := by kernel_rfl
@[simp] theorem zt_30 : zeroT Tryz.prog 30 = some (.agg [.lst true 0 [], .lst true 0 []]) := by kernel_rfl
@[simp] theorem zr_30 : zeroE Tryz.prog 30 = some (.agg [.lst true 0 [], .lst true 0 []]) := by kernel_rfl
@[simp] theorem ld_31 : loadT Tryz.prog 31 = some (2, true) := by kernel_rfl
@[simp] theorem sz_31 : szT Tryz.prog 31 = some 2 := by kernel_rfl
@[simp] theorem ag_31 : aggT Tryz.prog 31 = some true := by kernel_rfl
@[simp] theorem fd_31_0 : fieldT Tryz.prog 31 0 = some (0, 1, false) := by kernel_rfl
@[simp] theorem fd_31_1 : fieldT Tryz.prog 31 1 = some (1, 1, false) := by kernel_rfl
@[simp] theorem pl_31 : placesT Tryz.prog 31 = some [(0, 1), (1, 1)] := by kernel_rfl
@[simp] theorem zt_31 : zeroT Tryz.prog 31 = some (.agg [.lst true 0 [], .lst true 0 []]) := by kernel_rfl
@[simp] theorem zr_31 : zeroE Tryz.prog 31 = some (.agg [.lst true 0 [], .lst true 0 []]) := by kernel_rfl
@[simp] theorem ld_41 : loadT Tryz.prog 41 = some (1, false) := by kernel_rfl
@[simp] theorem sz_41 : szT Tryz.prog 41 = some 1 := by kernel_rfl
@[simp] theorem ag_41 : aggT Tryz.prog 41 = some false := by kernel_rfl
@[simp] theorem es_41 : esz Tryz.prog 41 = some 1 := by kernel_rfl
@[simp] theorem el_41 : elemT Tryz.prog 41 = some 3 := by kernel_rfl
@[simp] theorem un_41 : Tryz.prog.underlying 41 = some (.slice 3) := by kernel_rfl
@[simp] theorem ii_41 : isIntT Tryz.prog 41 = some false := by kernel_rfl
@[simp] theorem by_3 : bytesT Tryz.prog 3 = some 8 := by kernel_rfl
theorem et_41 : ElemT Tryz.prog 41 3 1 8 := ⟨by kernel_rfl, by kernel_rfl, by kernel_rfl, by kernel_rfl, ⟨.int .i64 0, by kernel_rfl, by kernel_rfl⟩, by decide⟩
@[simp] theorem zt_41 : zeroT Tryz.prog 41 = some (.lst true 0 []) := by kernel_rfl
@[simp] theorem zr_41 : zeroE Tryz.prog 41 = some (.lst true 0 []) := by kernel_rfl
@[simp] theorem ld_42 : loadT Tryz.prog 42 = some (1, false) := by kernel_rfl
@[simp] theorem sz_42 : szT Tryz.prog 42 = some 1 := by kernel_rfl
@[simp] theorem ag_42 : aggT Tryz.prog 42 = some false := by kernel_rfl
@[simp] theorem es_42 : esz Tryz.prog 42 = some 6 := by kernel_rfl
@[simp] theorem el_42 : elemT Tryz.prog 42 = some 122 := by kernel_rfl
@[simp] theorem un_42 : Tryz.prog.underlying 42 = some (.slice 122) := by kernel_rfl
@[simp] theorem ii_42 : isIntT Tryz.prog 42 = some false := by kernel_rfl
@[simp] theorem by_122 : bytesT Tryz.prog 122 = some 88 := by kernel_rfl
theorem et_42 : ElemT Tryz.prog 42 122 6 88 := ⟨by kernel_rfl, by kernel_rfl, by kernel_rfl, by kernel_rfl, ⟨.agg [.int .i64 0, .lst true 0 [], .lst true 0 [], .lst true 0 [], .bool false, .bool false], by kernel_rfl, by kernel_rfl⟩, by decide⟩
@[simp] theorem zt_42 : zeroT Tryz.prog 42 = some (.lst true 0 []) := by kernel_rfl
@[simp] theorem zr_42 : zeroE Tryz.prog 42 = some (.lst true 0 []) := by kernel_rfl
@[simp] theorem ld_43 : loadT Tryz.prog 43 = some (4, true) := by kernel_rfl
@[simp] theorem sz_43 : szT Tryz.prog 43 = some 4 := by kernel_rfl
@[simp] theorem ag_43 : aggT Tryz.prog 43 = some true := by kernel_rfl
@[simp] theorem fd_43_0 : fieldT Tryz.prog 43 0 = some (0, 1, false) := by kernel_rfl
@[simp] theorem fd_43_1 : fieldT Tryz.prog 43 1 = some (1, 1, false) := by kernel_rfl
@[simp] theorem fd_43_2 : fieldT Tryz.prog 43 2 = some (2, 1, false) := by kernel_rfl
@[simp] theorem fd_43_3 : fieldT Tryz.prog 43 3 = some (3, 1, false) := by kernel_rfl
@[simp] theorem pl_43 : placesT Tryz.prog 43 = some [(0, 1), (1, 1), (2, 1), (3, 1)] := by kernel_rfl
@[simp] theorem zt_43 : zeroT Tryz.prog 43 = some (.agg [.lst true 0 [], .lst true 0 [], .lst true 0 [], .bool false]) := by kernel_rfl
@[simp] theorem zr_43 : zeroE Tryz.prog 43 = some (.agg [.lst true 0 [], .lst true 0 [], .lst true 0 [], .bool false]) := by kernel_rfl
@[simp] theorem ld_44 : loadT Tryz.prog 44 = some (4, true) := by kernel_rfl
@[simp] theorem sz_44 : szT Tryz.prog 44 = some 4 := by kernel_rfl
@[simp] theorem ag_44 : aggT Tryz.prog 44 = some true := by kernel_rfl
@[simp] theorem fd_44_0 : fieldT Tryz.prog 44 0 = some (0, 1, false) := by kernel_rfl
@[simp] theorem fd_44_1 : fieldT Tryz.prog 44 1 = some (1, 1, false) := by kernel_rfl
@[simp] theorem fd_44_2 : fieldT Tryz.prog 44 2 = some (2, 1, false) := by kernel_rfl
@[simp] theorem fd_44_3 : fieldT Tryz.prog 44 3 = some (3, 1, false) := by kernel_rfl
@[simp] theorem pl_44 : placesT Tryz.prog 44 = some [(0, 1), (1, 1), (2, 1), (3, 1)] := by kernel_rfl
@[simp] theorem zt_44 : zeroT Tryz.prog 44 = some (.agg [.lst true 0 [], .lst true 0 [], .lst true 0 [], .bool false]) := by kernel_rfl
@[simp] theorem zr_44 : zeroE Tryz.prog 44 = some (.agg [.lst true 0 [], .lst true 0 [], .lst true 0 [], .bool false]) := by kernel_rfl
@[simp] theorem ld_47 : loadT Tryz.prog 47 = some (1, false) := by kernel_rfl
@[simp] theorem sz_47 : szT Tryz.prog 47 = some 1 := by kernel_rfl
@[simp] theorem ag_47 : aggT Tryz.prog 47 = some false := by kernel_rfl
@[simp] theorem es_47 : esz Tryz.prog 47 = some 6 := by kernel_rfl
@[simp] theorem el_47 : elemT Tryz.prog 47 = some 83 := by kernel_rfl
@[simp] theorem un_47 : Tryz.prog.underlying 47 = some (.slice 83) := by kernel_rfl
@[simp] theorem ii_47 : isIntT Tryz.prog 47 = some false := by kernel_rfl
@[simp] theorem by_83 : bytesT Tryz.prog 83 = some 88 := by kernel_rfl
theorem et_47 : ElemT Tryz.prog 47 83 6 88 := ⟨by kernel_rfl, by kernel_rfl, by kernel_rfl, by kernel_rfl, ⟨.agg [.int .i64 0, .lst true 0 [], .lst true 0 [], .lst true 0 [], .bool false, .bool false], by kernel_rfl, by kernel_rfl⟩, by decide⟩
@[simp] theorem zt_47 : zeroT Tryz.prog 47 = some (.lst true 0 []) := by kernel_rfl
@[simp] theorem zr_47 : zeroE Tryz.prog 47 = some (.lst true 0 []) := by kernel_rfl
@[simp] theorem ld_48 : loadT Tryz.prog 48 = some (4, true) := by kernel_rfl
@[simp] theorem sz_48 : szT Tryz.prog 48 = some 4 := by kernel_rfl
@[simp] theorem ag_48 : aggT Tryz.prog 48 = some true := by kernel_rfl
@[simp] theorem fd_48_0 : fieldT Tryz.prog 48 0 = some (0, 1, false) := by kernel_rfl
@[simp] theorem fd_48_1 : fieldT Tryz.prog 48 1 = some (1, 1, false) := by kernel_rfl
@[simp] theorem fd_48_2 : fieldT Tryz.prog 48 2 = some (2, 1, false) := by kernel_rfl
@[simp] theorem fd_48_3 : fieldT Tryz.prog 48 3 = some (3, 1, false) := by kernel_rfl
@[simp] theorem pl_48 : placesT Tryz.prog 48 = some [(0, 1), (1, 1), (2, 1), (3, 1)] := by kernel_rfl
@[simp] theorem zt_48 : zeroT Tryz.prog 48 = some (.agg [.lst true 0 [], .lst true 0 [], .lst true 0 [], .bool false]) := by kernel_rfl
@[simp] theorem zr_48 : zeroE Tryz.prog 48 = some (.agg [.lst true 0 [], .lst true 0 [], .lst true 0 [], .bool false]) := by kernel_rfl
@[simp] theorem ld_49 : loadT Tryz.prog 49 = some (4, true) := by kernel_rfl
@[simp] theorem sz_49 : szT Tryz.prog 49 = some 4 := by kernel_rfl
@[simp] theorem ag_49 : aggT Tryz.prog 49 = some true := by kernel_rfl
@[simp] theorem fd_49_0 : fieldT Tryz.prog 49 0 = some (0, 1, false) := by kernel_rfl
@[simp] theorem fd_49_1 : fieldT Tryz.prog 49 1 = some (1, 1, false) := by kernel_rfl
@[simp] theorem fd_49_2 : fieldT Tryz.prog 49 2 = some (2, 1, false) := by kernel_rfl
@[simp] theorem fd_49_3 : fieldT Tryz.prog 49 3 = some (3, 1, false) := by kernel_rfl
@[simp] theorem pl_49 : placesT Tryz.prog 49 = some [(0, 1), (1, 1), (2, 1), (3, 1)] := by kernel_rfl
@[simp] theorem zt_49 : zeroT Tryz.prog 49 = some (.agg [.lst true 0 [], .lst true 0 [], .lst true 0 [], .bool false]) := by kernel_rfl
@[simp] theorem zr_49 : zeroE Tryz.prog 49 = some (.agg [.lst true 0 [], .lst true 0 [], .lst true 0 [], .bool false]) := by kernel_rfl
@[simp] theorem ld_59 : loadT Tryz.prog 59 = some (1, false) := by kernel_rfl
@[simp] theorem sz_59 : szT Tryz.prog 59 = some 1 := by kernel_rfl
@[simp] theorem ag_59 : aggT Tryz.prog 59 = some false := by kernel_rfl
@[simp] theorem es_59 : esz Tryz.prog 59 = some 1 := by kernel_rfl
@[simp] theorem el_59 : elemT Tryz.prog 59 = some 9 := by kernel_rfl
@[simp] theorem un_59 : Tryz.prog.underlying 59 = some (.slice 9) := by kernel_rfl
@[simp] theorem ii_59 : isIntT Tryz.prog 59 = some false := by kernel_rfl
@[simp] theorem by_9 : bytesT Tryz.prog 9 = some 16 := by kernel_rfl
theorem et_59 : ElemT Tryz.prog 59 9 1 16 := ⟨by kernel_rfl, by kernel_rfl, by kernel_rfl, by kernel_rfl, ⟨.str ByteArray.empty, by kernel_rfl, by kernel_rfl⟩, by decide⟩
@[simp] theorem zt_59 : zeroT Tryz.prog 59 = some (.lst true 0 []) := by kernel_rfl
@[simp] theorem zr_59 : zeroE Tryz.prog 59 = some (.lst true 0 []) := by kernel_rfl
@[simp] theorem ld_63 : loadT Tryz.prog 63 = some (5, true) := by kernel_rfl
@[simp] theorem sz_63 : szT Tryz.prog 63 = some 5 := by kernel_rfl
@[simp] theorem ag_63 : aggT Tryz.prog 63 = some true := by kernel_rfl
@[simp] theorem fd_63_0 : fieldT Tryz.prog 63 0 = some (0, 2, true) := by kernel_rfl
@[simp] theorem fd_63_1 : fieldT Tryz.prog 63 1 = some (2, 1, false) := by kernel_rfl
@[simp] theorem fd_63_2 : fieldT Tryz.prog 63 2 = some (3, 1, false) := by kernel_rfl
@[simp] theorem fd_63_3 : fieldT Tryz.prog 63 3 = some (4, 1, false) := by kernel_rfl
@[simp] theorem pl_63 : placesT Tryz.prog 63 = some [(0, 2), (2, 1), (3, 1), (4, 1)] := by kernel_rfl
@[simp] theorem zt_63 : zeroT Tryz.prog 63 = some (.agg [.lst true 0 [], .lst true 0 [], .lst true 0 [], .lst true 0 [], .int .i64 0]) := by kernel_rfl
@[simp] theorem zr_63 : zeroE Tryz.prog 63 = some (.agg [.lst true 0 [], .lst true 0 [], .lst true 0 [], .lst true 0 [], .int .i64 0]) := by kernel_rfl
@[simp] theorem ld_64 : loadT Tryz.prog 64 = some (5, true) := by kernel_rfl
@[simp] theorem sz_64 : szT Tryz.prog 64 = some 5 := by kernel_rfl
@[simp] theorem ag_64 : aggT Tryz.prog 64 = some true := by kernel_rfl
@[simp] theorem fd_64_0 : fieldT Tryz.prog 64 0 = some (0, 2, true) := by kernel_rfl
@[simp] theorem fd_64_1 : fieldT Tryz.prog 64 1 = some (2, 1, false) := by kernel_rfl
@[simp] theorem fd_64_2 : fieldT Tryz.prog 64 2 = some (3, 1, false) := by kernel_rfl
@[simp] theorem fd_64_3 : fieldT Tryz.prog 64 3 = some (4, 1, false) := by kernel_rfl
@[simp] theorem pl_64 : placesT Tryz.prog 64 = some [(0, 2), (2, 1), (3, 1), (4, 1)] := by kernel_rfl
@[simp] theorem zt_64 : zeroT Tryz.prog 64 = some (.agg [.lst true 0 [], .lst true 0 [], .lst true 0 [], .lst true 0 [], .int .i64 0]) := by kernel_rfl
@[simp] theorem zr_64 : zeroE Tryz.prog 64 = some (.agg [.lst true 0 [], .lst true 0 [], .lst true 0 [], .lst true 0 [], .int .i64 0]) := by kernel_rfl
@[simp] theorem ld_65 : loadT Tryz.prog 65 = some (1, false) := by kernel_rfl
@[simp] theorem sz_65 : szT Tryz.prog 65 = some 1 := by kernel_rfl
@[simp] theorem ag_65 : aggT Tryz.prog 65 = some false := by kernel_rfl
@[simp] theorem un_65 : Tryz.prog.underlying 65 = some (.pointer 64) := by kernel_rfl
@[simp] theorem zt_65 : zeroT Tryz.prog 65 = some (.nilp) := by kernel_rfl
@[simp] theorem zr_65 : zeroE Tryz.prog 65 = some (.nilp) := by kernel_rfl
@[simp] theorem ld_70 : loadT Tryz.prog 70 = some (2, true) := by kernel_rfl
@[simp] theorem sz_70 : szT Tryz.prog 70 = some 2 := by kernel_rfl
@[simp] theorem ag_70 : aggT Tryz.prog 70 = some true := by kernel_rfl
@[simp] theorem fd_70_0 : fieldT Tryz.prog 70 0 = some (0, 1, false) := by kernel_rfl
@[simp] theorem fd_70_1 : fieldT Tryz.prog 70 1 = some (1, 1, false) := by kernel_rfl
@[simp] theorem pl_70 : placesT Tryz.prog 70 = some [(0, 1), (1, 1)] := by kernel_rfl
@[simp] theorem zt_70 : zeroT Tryz.prog 70 = some (.agg [.str ByteArray.empty, .int .i64 0]) := by kernel_rfl
@[simp] theorem zr_70 : zeroE Tryz.prog 70 = some (.agg [.str ByteArray.empty, .int .i64 0]) := by kernel_rfl
@[simp] theorem ld_71 : loadT Tryz.prog 71 = some (2, true) := by kernel_rfl
@[simp] theorem sz_71 : szT Tryz.prog 71 = some 2 := by kernel_rfl
@[simp] theorem ag_71 : aggT Tryz.prog 71 = some true := by kernel_rfl
@[simp] theorem fd_71_0 : fieldT Tryz.prog 71 0 = some (0, 1, false) := by kernel_rfl
@[simp] theorem fd_71_1 : fieldT Tryz.prog 71 1 = some (1, 1, false) := by kernel_rfl
@[simp] theorem pl_71 : placesT Tryz.prog 71 = some [(0, 1), (1, 1)] := by kernel_rfl
@[simp] theorem zt_71 : zeroT Tryz.prog 71 = some (.agg [.str ByteArray.empty, .int .i64 0]) := by kernel_rfl
@[simp] theorem zr_71 : zeroE Tryz.prog 71 = some (.agg [.str ByteArray.empty, .int .i64 0]) := by kernel_rfl
@[simp] theorem ld_81 : loadT Tryz.prog 81 = some (1, false) := by kernel_rfl
@[simp] theorem sz_81 : szT Tryz.prog 81 = some 1 := by kernel_rfl
@[simp] theorem ag_81 : aggT Tryz.prog 81 = some false := by kernel_rfl
@[simp] theorem es_81 : esz Tryz.prog 81 = some 2 := by kernel_rfl
@[simp] theorem el_81 : elemT Tryz.prog 81 = some 124 := by kernel_rfl
@[simp] theorem un_81 : Tryz.prog.underlying 81 = some (.slice 124) := by kernel_rfl
@[simp] theorem ii_81 : isIntT Tryz.prog 81 = some false := by kernel_rfl
@[simp] theorem by_124 : bytesT Tryz.prog 124 = some 16 := by kernel_rfl
theorem et_81 : ElemT Tryz.prog 81 124 2 16 := ⟨by kernel_rfl, by kernel_rfl, by kernel_rfl, by kernel_rfl, ⟨.agg [.int .i64 0, .int .i64 0], by kernel_rfl, by kernel_rfl⟩, by decide⟩
@[simp] theorem zt_81 : zeroT Tryz.prog 81 = some (.lst true 0 []) := by kernel_rfl
@[simp] theorem zr_81 : zeroE Tryz.prog 81 = some (.lst true 0 []) := by kernel_rfl
@[simp] theorem ld_82 : loadT Tryz.prog 82 = some (6, true) := by kernel_rfl
@[simp] theorem sz_82 : szT Tryz.prog 82 = some 6 := by kernel_rfl
@[simp] theorem ag_82 : aggT Tryz.prog 82 = some true := by kernel_rfl
@[simp] theorem fd_82_0 : fieldT Tryz.prog 82 0 = some (0, 1, false) := by kernel_rfl
@[simp] theorem fd_82_1 : fieldT Tryz.prog 82 1 = some (1, 1, false) := by kernel_rfl
@[simp] theorem fd_82_2 : fieldT Tryz.prog 82 2 = some (2, 1, false) := by kernel_rfl
@[simp] theorem fd_82_3 : fieldT Tryz.prog 82 3 = some (3, 1, false) := by kernel_rfl
@[simp] theorem fd_82_4 : fieldT Tryz.prog 82 4 = some (4, 1, false) := by kernel_rfl
@[simp] theorem fd_82_5 : fieldT Tryz.prog 82 5 = some (5, 1, false) := by kernel_rfl
@[simp] theorem pl_82 : placesT Tryz.prog 82 = some [(0, 1), (1, 1), (2, 1), (3, 1), (4, 1), (5, 1)] := by kernel_rfl
@[simp] theorem zt_82 : zeroT Tryz.prog 82 = some (.agg [.int .i64 0, .lst true 0 [], .lst true 0 [], .lst true 0 [], .bool false, .bool false]) := by kernel_rfl
@[simp] theorem zr_82 : zeroE Tryz.prog 82 = some (.agg [.int .i64 0, .lst true 0 [], .lst true 0 [], .lst true 0 [], .bool false, .bool false]) := by kernel_rfl
@[simp] theorem ld_83 : loadT Tryz.prog 83 = some (6, true) := by kernel_rfl
@[simp] theorem sz_83 : szT Tryz.prog 83 = some 6 := by kernel_rfl
@[simp] theorem ag_83 : aggT Tryz.prog 83 = some true := by kernel_rfl
@[simp] theorem fd_83_0 : fieldT Tryz.prog 83 0 = some (0, 1, false) := by kernel_rfl
@[simp] theorem fd_83_1 : fieldT Tryz.prog 83 1 = some (1, 1, false) := by kernel_rfl
@[simp] theorem fd_83_2 : fieldT Tryz.prog 83 2 = some (2, 1, false) := by kernel_rfl
@[simp] theorem fd_83_3 : fieldT Tryz.prog 83 3 = some (3, 1, false) := by kernel_rfl
@[simp] theorem fd_83_4 : fieldT Tryz.prog 83 4 = some (4, 1, false) := by kernel_rfl
@[simp] theorem fd_83_5 : fieldT Tryz.prog 83 5 = some (5, 1, false) := by kernel_rfl
@[simp] theorem pl_83 : placesT Tryz.prog 83 = some [(0, 1), (1, 1), (2, 1), (3, 1), (4, 1), (5, 1)] := by kernel_rfl
@[simp] theorem zt_83 : zeroT Tryz.prog 83 = some (.agg [.int .i64 0, .lst true 0 [], .lst true 0 [], .lst true 0 [], .bool false, .bool false]) := by kernel_rfl
@[simp] theorem zr_83 : zeroE Tryz.prog 83 = some (.agg [.int .i64 0, .lst true 0 [], .lst true 0 [], .lst true 0 [], .bool false, .bool false]) := by kernel_rfl
@[simp] theorem ld_93 : loadT Tryz.prog 93 = some (2, true) := by kernel_rfl
@[simp] theorem sz_93 : szT Tryz.prog 93 = some 2 := by kernel_rfl
@[simp] theorem ag_93 : aggT Tryz.prog 93 = some true := by kernel_rfl
@[simp] theorem fd_93_0 : fieldT Tryz.prog 93 0 = some (0, 1, false) := by kernel_rfl
@[simp] theorem fd_93_1 : fieldT Tryz.prog 93 1 = some (1, 1, false) := by kernel_rfl
@[simp] theorem pl_93 : placesT Tryz.prog 93 = some [(0, 1), (1, 1)] := by kernel_rfl
@[simp] theorem zt_93 : zeroT Tryz.prog 93 = some (.agg [.str ByteArray.empty, .int .i64 0]) := by kernel_rfl
@[simp] theorem zr_93 : zeroE Tryz.prog 93 = some (.agg [.str ByteArray.empty, .int .i64 0]) := by kernel_rfl
@[simp] theorem ld_95 : loadT Tryz.prog 95 = some (1, false) := by kernel_rfl
@[simp] theorem sz_95 : szT Tryz.prog 95 = some 1 := by kernel_rfl
@[simp] theorem ag_95 : aggT Tryz.prog 95 = some false := by kernel_rfl
@[simp] theorem es_95 : esz Tryz.prog 95 = some 4 := by kernel_rfl
@[simp] theorem el_95 : elemT Tryz.prog 95 = some 97 := by kernel_rfl
@[simp] theorem un_95 : Tryz.prog.underlying 95 = some (.slice 97) := by kernel_rfl
@[simp] theorem ii_95 : isIntT Tryz.prog 95 = some false := by kernel_rfl
@[simp] theorem by_97 : bytesT Tryz.prog 97 = some 56 := by kernel_rfl
theorem et_95 : ElemT Tryz.prog 95 97 4 56 := ⟨by kernel_rfl, by kernel_rfl, by kernel_rfl, by kernel_rfl, ⟨.agg [.int .i64 0, .int .i64 0, .str ByteArray.empty, .lst true 0 []], by kernel_rfl, by kernel_rfl⟩, by decide⟩
@[simp] theorem zt_95 : zeroT Tryz.prog 95 = some (.lst true 0 []) := by kernel_rfl
@[simp] theorem zr_95 : zeroE Tryz.prog 95 = some (.lst true 0 []) := by kernel_rfl
@[simp] theorem ld_96 : loadT Tryz.prog 96 = some (4, true) := by kernel_rfl
@[simp] theorem sz_96 : szT Tryz.prog 96 = some 4 := by kernel_rfl
@[simp] theorem ag_96 : aggT Tryz.prog 96 = some true := by kernel_rfl
@[simp] theorem fd_96_0 : fieldT Tryz.prog 96 0 = some (0, 1, false) := by kernel_rfl
@[simp] theorem fd_96_1 : fieldT Tryz.prog 96 1 = some (1, 1, false) := by kernel_rfl
@[simp] theorem fd_96_2 : fieldT Tryz.prog 96 2 = some (2, 1, false) := by kernel_rfl
@[simp] theorem fd_96_3 : fieldT Tryz.prog 96 3 = some (3, 1, false) := by kernel_rfl
@[simp] theorem pl_96 : placesT Tryz.prog 96 = some [(0, 1), (1, 1), (2, 1), (3, 1)] := by kernel_rfl
@[simp] theorem zt_96 : zeroT Tryz.prog 96 = some (.agg [.int .i64 0, .int .i64 0, .str ByteArray.empty, .lst true 0 []]) := by kernel_rfl
@[simp] theorem zr_96 : zeroE Tryz.prog 96 = some (.agg [.int .i64 0, .int .i64 0, .str ByteArray.empty, .lst true 0 []]) := by kernel_rfl
@[simp] theorem ld_97 : loadT Tryz.prog 97 = some (4, true) := by kernel_rfl
@[simp] theorem sz_97 : szT Tryz.prog 97 = some 4 := by kernel_rfl
@[simp] theorem ag_97 : aggT Tryz.prog 97 = some true := by kernel_rfl
@[simp] theorem fd_97_0 : fieldT Tryz.prog 97 0 = some (0, 1, false) := by kernel_rfl
@[simp] theorem fd_97_1 : fieldT Tryz.prog 97 1 = some (1, 1, false) := by kernel_rfl
@[simp] theorem fd_97_2 : fieldT Tryz.prog 97 2 = some (2, 1, false) := by kernel_rfl
@[simp] theorem fd_97_3 : fieldT Tryz.prog 97 3 = some (3, 1, false) := by kernel_rfl
@[simp] theorem pl_97 : placesT Tryz.prog 97 = some [(0, 1), (1, 1), (2, 1), (3, 1)] := by kernel_rfl
@[simp] theorem zt_97 : zeroT Tryz.prog 97 = some (.agg [.int .i64 0, .int .i64 0, .str ByteArray.empty, .lst true 0 []]) := by kernel_rfl
@[simp] theorem zr_97 : zeroE Tryz.prog 97 = some (.agg [.int .i64 0, .int .i64 0, .str ByteArray.empty, .lst true 0 []]) := by kernel_rfl
@[simp] theorem ld_98 : loadT Tryz.prog 98 = some (19, true) := by kernel_rfl
@[simp] theorem sz_98 : szT Tryz.prog 98 = some 19 := by kernel_rfl
@[simp] theorem ag_98 : aggT Tryz.prog 98 = some true := by kernel_rfl
@[simp] theorem fd_98_0 : fieldT Tryz.prog 98 0 = some (0, 1, false) := by kernel_rfl
@[simp] theorem fd_98_1 : fieldT Tryz.prog 98 1 = some (1, 1, false) := by kernel_rfl
@[simp] theorem fd_98_2 : fieldT Tryz.prog 98 2 = some (2, 4, true) := by kernel_rfl
@[simp] theorem fd_98_3 : fieldT Tryz.prog 98 3 = some (6, 4, true) := by kernel_rfl
@[simp] theorem fd_98_4 : fieldT Tryz.prog 98 4 = some (10, 4, true) := by kernel_rfl
@[simp] theorem fd_98_5 : fieldT Tryz.prog 98 5 = some (14, 4, true) := by kernel_rfl
@[simp] theorem fd_98_6 : fieldT Tryz.prog 98 6 = some (18, 1, false) := by kernel_rfl
@[simp] theorem pl_98 : placesT Tryz.prog 98 = some [(0, 1), (1, 1), (2, 4), (6, 4), (10, 4), (14, 4), (18, 1)] := by kernel_rfl
@[simp] theorem zt_98 : zeroT Tryz.prog 98 = some (.agg [.int .i64 0, .str ByteArray.empty, .int .i64 0, .int .i64 0, .str ByteArray.empty, .lst true 0 [], .int .i64 0, .int .i64 0, .str ByteArray.empty, .lst true 0 [], .int .i64 0, .int .i64 0, .str ByteArray.empty, .lst true 0 [], .int .i64 0, .int .i64 0, .str ByteArray.empty, .lst true 0 [], .lst true 0 []]) := by kernel_rfl
@[simp] theorem zr_98 : zeroE Tryz.prog 98 = some (.agg [.int .i64 0, .str ByteArray.empty, .int .i64 0, .int .i64 0, .str ByteArray.empty, .lst true 0 [], .int .i64 0, .int .i64 0, .str ByteArray.empty, .lst true 0 [], .int .i64 0, .int .i64 0, .str ByteArray.empty, .lst true 0 [], .int .i64 0, .int .i64 0, .str ByteArray.empty, .lst true 0 [], .lst true 0 []]) := by kernel_rfl
@[simp] theorem ld_99 : loadT Tryz.prog 99 = some (19, true) := by kernel_rfl
@[simp] theorem sz_99 : szT Tryz.prog 99 = some 19 := by kernel_rfl
@[simp] theorem ag_99 : aggT Tryz.prog 99 = some true := by kernel_rfl
@[simp] theorem fd_99_0 : fieldT Tryz.prog 99 0 = some (0, 1, false) := by kernel_rfl
@[simp] theorem fd_99_1 : fieldT Tryz.prog 99 1 = some (1, 1, false) := by kernel_rfl
@[simp] theorem fd_99_2 : fieldT Tryz.prog 99 2 = some (2, 4, true) := by kernel_rfl
@[simp] theorem fd_99_3 : fieldT Tryz.prog 99 3 = some (6, 4, true) := by kernel_rfl
@[simp] theorem fd_99_4 : fieldT Tryz.prog 99 4 = some (10, 4, true) := by kernel_rfl
@[simp] theorem fd_99_5 : fieldT Tryz.prog 99 5 = some (14, 4, true) := by kernel_rfl
@[simp] theorem fd_99_6 : fieldT Tryz.prog 99 6 = some (18, 1, false) := by kernel_rfl
@[simp] theorem pl_99 : placesT Tryz.prog 99 = some [(0, 1), (1, 1), (2, 4), (6, 4), (10, 4), (14, 4), (18, 1)] := by kernel_rfl
@[simp] theorem zt_99 : zeroT Tryz.prog 99 = some (.agg [.int .i64 0, .str ByteArray.empty, .int .i64 0, .int .i64 0, .str ByteArray.empty, .lst true 0 [], .int .i64 0, .int .i64 0, .str ByteArray.empty, .lst true 0 [], .int .i64 0, .int .i64 0, .str ByteArray.empty, .lst true 0 [], .int .i64 0, .int .i64 0, .str ByteArray.empty, .lst true 0 [], .lst true 0 []]) := by kernel_rfl
@[simp] theorem zr_99 : zeroE Tryz.prog 99 = some (.agg [.int .i64 0, .str ByteArray.empty, .int .i64 0, .int .i64 0, .str ByteArray.empty, .lst true 0 [], .int .i64 0, .int .i64 0, .str ByteArray.empty, .lst true 0 [], .int .i64 0, .int .i64 0, .str ByteArray.empty, .lst true 0 [], .int .i64 0, .int .i64 0, .str ByteArray.empty, .lst true 0 [], .lst true 0 []]) := by kernel_rfl
@[simp] theorem ld_106 : loadT Tryz.prog 106 = some (1, false) := by kernel_rfl
@[simp] theorem sz_106 : szT Tryz.prog 106 = some 1 := by kernel_rfl
@[simp] theorem ag_106 : aggT Tryz.prog 106 = some false := by kernel_rfl
@[simp] theorem es_106 : esz Tryz.prog 106 = some 4 := by kernel_rfl
@[simp] theorem el_106 : elemT Tryz.prog 106 = some 108 := by kernel_rfl
@[simp] theorem un_106 : Tryz.prog.underlying 106 = some (.slice 108) := by kernel_rfl
@[simp] theorem ii_106 : isIntT Tryz.prog 106 = some false := by kernel_rfl
@[simp] theorem by_108 : bytesT Tryz.prog 108 = some 56 := by kernel_rfl
theorem et_106 : ElemT Tryz.prog 106 108 4 56 := ⟨by kernel_rfl, by kernel_rfl, by kernel_rfl, by kernel_rfl, ⟨.agg [.int .i64 0, .int .i64 0, .str ByteArray.empty, .lst true 0 []], by kernel_rfl, by kernel_rfl⟩, by decide⟩
@[simp] theorem zt_106 : zeroT Tryz.prog 106 = some (.lst true 0 []) := by kernel_rfl
@[simp] theorem zr_106 : zeroE Tryz.prog 106 = some (.lst true 0 []) := by kernel_rfl
@[simp] theorem ld_107 : loadT Tryz.prog 107 = some (4, true) := by kernel_rfl
@[simp] theorem sz_107 : szT Tryz.prog 107 = some 4 := by kernel_rfl
@[simp] theorem ag_107 : aggT Tryz.prog 107 = some true := by kernel_rfl
@[simp] theorem fd_107_0 : fieldT Tryz.prog 107 0 = some (0, 1, false) := by kernel_rfl
@[simp] theorem fd_107_1 : fieldT Tryz.prog 107 1 = some (1, 1, false) := by kernel_rfl
@[simp] theorem fd_107_2 : fieldT Tryz.prog 107 2 = some (2, 1, false) := by kernel_rfl
@[simp] theorem fd_107_3 : fieldT Tryz.prog 107 3 = some (3, 1, false) := by kernel_rfl
@[simp] theorem pl_107 : placesT Tryz.prog 107 = some [(0, 1), (1, 1), (2, 1), (3, 1)] := by kernel_rfl
@[simp] theorem zt_107 : zeroT Tryz.prog 107 = some (.agg [.int .i64 0, .int .i64 0, .str ByteArray.empty, .lst true 0 []]) := by kernel_rfl
@[simp] theorem zr_107 : zeroE Tryz.prog 107 = some (.agg [.int .i64 0, .int .i64 0, .str ByteArray.empty, .lst true 0 []]) := by kernel_rfl
@[simp] theorem ld_108 : loadT Tryz.prog 108 = some (4, true) := by kernel_rfl
@[simp] theorem sz_108 : szT Tryz.prog 108 = some 4 := by kernel_rfl
@[simp] theorem ag_108 : aggT Tryz.prog 108 = some true := by kernel_rfl
@[simp] theorem fd_108_0 : fieldT Tryz.prog 108 0 = some (0, 1, false) := by kernel_rfl
@[simp] theorem fd_108_1 : fieldT Tryz.prog 108 1 = some (1, 1, false) := by kernel_rfl
@[simp] theorem fd_108_2 : fieldT Tryz.prog 108 2 = some (2, 1, false) := by kernel_rfl
@[simp] theorem fd_108_3 : fieldT Tryz.prog 108 3 = some (3, 1, false) := by kernel_rfl
@[simp] theorem pl_108 : placesT Tryz.prog 108 = some [(0, 1), (1, 1), (2, 1), (3, 1)] := by kernel_rfl
@[simp] theorem zt_108 : zeroT Tryz.prog 108 = some (.agg [.int .i64 0, .int .i64 0, .str ByteArray.empty, .lst true 0 []]) := by kernel_rfl
@[simp] theorem zr_108 : zeroE Tryz.prog 108 = some (.agg [.int .i64 0, .int .i64 0, .str ByteArray.empty, .lst true 0 []]) := by kernel_rfl
@[simp] theorem ld_109 : loadT Tryz.prog 109 = some (19, true) := by kernel_rfl
@[simp] theorem sz_109 : szT Tryz.prog 109 = some 19 := by kernel_rfl
@[simp] theorem ag_109 : aggT Tryz.prog 109 = some true := by kernel_rfl
@[simp] theorem fd_109_0 : fieldT Tryz.prog 109 0 = some (0, 1, false) := by kernel_rfl
@[simp] theorem fd_109_1 : fieldT Tryz.prog 109 1 = some (1, 1, false) := by kernel_rfl
@[simp] theorem fd_109_2 : fieldT Tryz.prog 109 2 = some (2, 4, true) := by kernel_rfl
@[simp] theorem fd_109_3 : fieldT Tryz.prog 109 3 = some (6, 4, true) := by kernel_rfl
@[simp] theorem fd_109_4 : fieldT Tryz.prog 109 4 = some (10, 4, true) := by kernel_rfl
@[simp] theorem fd_109_5 : fieldT Tryz.prog 109 5 = some (14, 4, true) := by kernel_rfl
@[simp] theorem fd_109_6 : fieldT Tryz.prog 109 6 = some (18, 1, false) := by kernel_rfl
@[simp] theorem pl_109 : placesT Tryz.prog 109 = some [(0, 1), (1, 1), (2, 4), (6, 4), (10, 4), (14, 4), (18, 1)] := by kernel_rfl
@[simp] theorem zt_109 : zeroT Tryz.prog 109 = some (.agg [.int .i64 0, .str ByteArray.empty, .int .i64 0, .int .i64 0, .str ByteArray.empty, .lst true 0 [], .int .i64 0, .int .i64 0, .str ByteArray.empty, .lst true 0 [], .int .i64 0, .int .i64 0, .str ByteArray.empty, .lst true 0 [], .int .i64 0, .int .i64 0, .str ByteArray.empty, .lst true 0 [], .lst true 0 []]) := by kernel_rfl
@[simp] theorem zr_109 : zeroE Tryz.prog 109 = some (.agg [.int .i64 0, .str ByteArray.empty, .int .i64 0, .int .i64 0, .str ByteArray.empty, .lst true 0 [], .int .i64 0, .int .i64 0, .str ByteArray.empty, .lst true 0 [], .int .i64 0, .int .i64 0, .str ByteArray.empty, .lst true 0 [], .int .i64 0, .int .i64 0, .str ByteArray.empty, .lst true 0 [], .lst true 0 []]) := by kernel_rfl
@[simp] theorem ld_110 : loadT Tryz.prog 110 = some (19, true) := by kernel_rfl
@[simp] theorem sz_110 : szT Tryz.prog 110 = some 19 := by kernel_rfl
@[simp] theorem ag_110 : aggT Tryz.prog 110 = some true := by kernel_rfl
@[simp] theorem fd_110_0 : fieldT Tryz.prog 110 0 = some (0, 1, false) := by kernel_rfl
@[simp] theorem fd_110_1 : fieldT Tryz.prog 110 1 = some (1, 1, false) := by kernel_rfl
@[simp] theorem fd_110_2 : fieldT Tryz.prog 110 2 = some (2, 4, true) := by kernel_rfl
@[simp] theorem fd_110_3 : fieldT Tryz.prog 110 3 = some (6, 4, true) := by kernel_rfl
@[simp] theorem fd_110_4 : fieldT Tryz.prog 110 4 = some (10, 4, true) := by kernel_rfl
@[simp] theorem fd_110_5 : fieldT Tryz.prog 110 5 = some (14, 4, true) := by kernel_rfl
@[simp] theorem fd_110_6 : fieldT Tryz.prog 110 6 = some (18, 1, false) := by kernel_rfl
@[simp] theorem pl_110 : placesT Tryz.prog 110 = some [(0, 1), (1, 1), (2, 4), (6, 4), (10, 4), (14, 4), (18, 1)] := by kernel_rfl
@[simp] theorem zt_110 : zeroT Tryz.prog 110 = some (.agg [.int .i64 0, .str ByteArray.empty, .int .i64 0, .int .i64 0, .str ByteArray.empty, .lst true 0 [], .int .i64 0, .int .i64 0, .str ByteArray.empty, .lst true 0 [], .int .i64 0, .int .i64 0, .str ByteArray.empty, .lst true 0 [], .int .i64 0, .int .i64 0, .str ByteArray.empty, .lst true 0 [], .lst true 0 []]) := by kernel_rfl
@[simp] theorem zr_110 : zeroE Tryz.prog 110 = some (.agg [.int .i64 0, .str ByteArray.empty, .int .i64 0, .int .i64 0, .str ByteArray.empty, .lst true 0 [], .int .i64 0, .int .i64 0, .str ByteArray.empty, .lst true 0 [], .int .i64 0, .int .i64 0, .str ByteArray.empty, .lst true 0 [], .int .i64 0, .int .i64 0, .str ByteArray.empty, .lst true 0 [], .lst true 0 []]) := by kernel_rfl
@[simp] theorem ld_120 : loadT Tryz.prog 120 = some (1, false) := by kernel_rfl
@[simp] theorem sz_120 : szT Tryz.prog 120 = some 1 := by kernel_rfl
@[simp] theorem ag_120 : aggT Tryz.prog 120 = some false := by kernel_rfl
@[simp] theorem es_120 : esz Tryz.prog 120 = some 2 := by kernel_rfl
@[simp] theorem el_120 : elemT Tryz.prog 120 = some 162 := by kernel_rfl
@[simp] theorem un_120 : Tryz.prog.underlying 120 = some (.slice 162) := by kernel_rfl
@[simp] theorem ii_120 : isIntT Tryz.prog 120 = some false := by kernel_rfl
@[simp] theorem by_162 : bytesT Tryz.prog 162 = some 16 := by kernel_rfl
theorem et_120 : ElemT Tryz.prog 120 162 2 16 := ⟨by kernel_rfl, by kernel_rfl, by kernel_rfl, by kernel_rfl, ⟨.agg [.int .i64 0, .int .i64 0], by kernel_rfl, by kernel_rfl⟩, by decide⟩
@[simp] theorem zt_120 : zeroT Tryz.prog 120 = some (.lst true 0 []) := by kernel_rfl
@[simp] theorem zr_120 : zeroE Tryz.prog 120 = some (.lst true 0 []) := by kernel_rfl
@[simp] theorem ld_121 : loadT Tryz.prog 121 = some (6, true) := by kernel_rfl
@[simp] theorem sz_121 : szT Tryz.prog 121 = some 6 := by kernel_rfl
@[simp] theorem ag_121 : aggT Tryz.prog 121 = some true := by kernel_rfl
@[simp] theorem fd_121_0 : fieldT Tryz.prog 121 0 = some (0, 1, false) := by kernel_rfl
@[simp] theorem fd_121_1 : fieldT Tryz.prog 121 1 = some (1, 1, false) := by kernel_rfl
@[simp] theorem fd_121_2 : fieldT Tryz.prog 121 2 = some (2, 1, false) := by kernel_rfl
@[simp] theorem fd_121_3 : fieldT Tryz.prog 121 3 = some (3, 1, false) := by kernel_rfl
@[simp] theorem fd_121_4 : fieldT Tryz.prog 121 4 = some (4, 1, false) := by kernel_rfl
@[simp] theorem fd_121_5 : fieldT Tryz.prog 121 5 = some (5, 1, false) := by kernel_rfl
@[simp] theorem pl_121 : placesT Tryz.prog 121 = some [(0, 1), (1, 1), (2, 1), (3, 1), (4, 1), (5, 1)] := by kernel_rfl
@[simp] theorem zt_121 : zeroT Tryz.prog 121 = some (.agg [.int .i64 0, .lst true 0 [], .lst true 0 [], .lst true 0 [], .bool false, .bool false]) := by kernel_rfl
@[simp] theorem zr_121 : zeroE Tryz.prog 121 = some (.agg [.int .i64 0, .lst true 0 [], .lst true 0 [], .lst true 0 [], .bool false, .bool false]) := by kernel_rfl
@[simp] theorem ld_122 : loadT Tryz.prog 122 = some (6, true) := by kernel_rfl
@[simp] theorem sz_122 : szT Tryz.prog 122 = some 6 := by kernel_rfl
@[simp] theorem ag_122 : aggT Tryz.prog 122 = some true := by kernel_rfl
@[simp] theorem fd_122_0 : fieldT Tryz.prog 122 0 = some (0, 1, false) := by kernel_rfl
@[simp] theorem fd_122_1 : fieldT Tryz.prog 122 1 = some (1, 1, false) := by kernel_rfl
@[simp] theorem fd_122_2 : fieldT Tryz.prog 122 2 = some (2, 1, false) := by kernel_rfl
@[simp] theorem fd_122_3 : fieldT Tryz.prog 122 3 = some (3, 1, false) := by kernel_rfl
@[simp] theorem fd_122_4 : fieldT Tryz.prog 122 4 = some (4, 1, false) := by kernel_rfl
@[simp] theorem fd_122_5 : fieldT Tryz.prog 122 5 = some (5, 1, false) := by kernel_rfl
@[simp] theorem pl_122 : placesT Tryz.prog 122 = some [(0, 1), (1, 1), (2, 1), (3, 1), (4, 1), (5, 1)] := by kernel_rfl
@[simp] theorem zt_122 : zeroT Tryz.prog 122 = some (.agg [.int .i64 0, .lst true 0 [], .lst true 0 [], .lst true 0 [], .bool false, .bool false]) := by kernel_rfl
@[simp] theorem zr_122 : zeroE Tryz.prog 122 = some (.agg [.int .i64 0, .lst true 0 [], .lst true 0 [], .lst true 0 [], .bool false, .bool false]) := by kernel_rfl
@[simp] theorem ld_123 : loadT Tryz.prog 123 = some (2, true) := by kernel_rfl
@[simp] theorem sz_123 : szT Tryz.prog 123 = some 2 := by kernel_rfl
@[simp] theorem ag_123 : aggT Tryz.prog 123 = some true := by kernel_rfl
@[simp] theorem fd_123_0 : fieldT Tryz.prog 123 0 = some (0, 1, false) := by kernel_rfl
@[simp] theorem fd_123_1 : fieldT Tryz.prog 123 1 = some (1, 1, false) := by kernel_rfl
@[simp] theorem pl_123 : placesT Tryz.prog 123 = some [(0, 1), (1, 1)] := by kernel_rfl
@[simp] theorem zt_123 : zeroT Tryz.prog 123 = some (.agg [.int .i64 0, .int .i64 0]) := by kernel_rfl
@[simp] theorem zr_123 : zeroE Tryz.prog 123 = some (.agg [.int .i64 0, .int .i64 0]) := by kernel_rfl
@[simp] theorem ld_124 : loadT Tryz.prog 124 = some (2, true) := by kernel_rfl
@[simp] theorem sz_124 : szT Tryz.prog 124 = some 2 := by kernel_rfl
@[simp] theorem ag_124 : aggT Tryz.prog 124 = some true := by kernel_rfl
@[simp] theorem fd_124_0 : fieldT Tryz.prog 124 0 = some (0, 1, false) := by kernel_rfl
@[simp] theorem fd_124_1 : fieldT Tryz.prog 124 1 = some (1, 1, false) := by kernel_rfl
@[simp] theorem pl_124 : placesT Tryz.prog 124 = some [(0, 1), (1, 1)] := by kernel_rfl
@[simp] theorem zt_124 : zeroT Tryz.prog 124 = some (.agg [.int .i64 0, .int .i64 0]) := by kernel_rfl
@[simp] theorem zr_124 : zeroE Tryz.prog 124 = some (.agg [.int .i64 0, .int .i64 0]) := by kernel_rfl
@[simp] theorem ld_135 : loadT Tryz.prog 135 = some (1, false) := by kernel_rfl
@[simp] theorem sz_135 : szT Tryz.prog 135 = some 1 := by kernel_rfl
@[simp] theorem ag_135 : aggT Tryz.prog 135 = some false := by kernel_rfl
@[simp] theorem ld_139 : loadT Tryz.prog 139 = some (1, false) := by kernel_rfl
@[simp] theorem sz_139 : szT Tryz.prog 139 = some 1 := by kernel_rfl
@[simp] theorem ag_139 : aggT Tryz.prog 139 = some false := by kernel_rfl
@[simp] theorem es_139 : esz Tryz.prog 139 = some 1 := by kernel_rfl
@[simp] theorem el_139 : elemT Tryz.prog 139 = some 59 := by kernel_rfl
@[simp] theorem un_139 : Tryz.prog.underlying 139 = some (.slice 59) := by kernel_rfl
@[simp] theorem ii_139 : isIntT Tryz.prog 139 = some false := by kernel_rfl
@[simp] theorem by_59 : bytesT Tryz.prog 59 = some 24 := by kernel_rfl
theorem et_139 : ElemT Tryz.prog 139 59 1 24 := ⟨by kernel_rfl, by kernel_rfl, by kernel_rfl, by kernel_rfl, ⟨.lst true 0 [], by kernel_rfl, by kernel_rfl⟩, by decide⟩
@[simp] theorem zt_139 : zeroT Tryz.prog 139 = some (.lst true 0 []) := by kernel_rfl
@[simp] theorem zr_139 : zeroE Tryz.prog 139 = some (.lst true 0 []) := by kernel_rfl
@[simp] theorem ld_145 : loadT Tryz.prog 145 = some (1, false) := by kernel_rfl
@[simp] theorem sz_145 : szT Tryz.prog 145 = some 1 := by kernel_rfl
@[simp] theorem ag_145 : aggT Tryz.prog 145 = some false := by kernel_rfl
@[simp] theorem es_145 : esz Tryz.prog 145 = some 1 := by kernel_rfl
@[simp] theorem el_145 : elemT Tryz.prog 145 = some 5 := by kernel_rfl
@[simp] theorem un_145 : Tryz.prog.underlying 145 = some (.slice 5) := by kernel_rfl
@[simp] theorem ii_145 : isIntT Tryz.prog 145 = some false := by kernel_rfl
@[simp] theorem by_5 : bytesT Tryz.prog 5 = some 1 := by kernel_rfl
theorem et_145 : ElemT Tryz.prog 145 5 1 1 := ⟨by kernel_rfl, by kernel_rfl, by kernel_rfl, by kernel_rfl, ⟨.int .u8 0, by kernel_rfl, by kernel_rfl⟩, by decide⟩
@[simp] theorem zt_145 : zeroT Tryz.prog 145 = some (.lst true 0 []) := by kernel_rfl
@[simp] theorem zr_145 : zeroE Tryz.prog 145 = some (.lst true 0 []) := by kernel_rfl
@[simp] theorem ld_150 : loadT Tryz.prog 150 = some (1, false) := by kernel_rfl
@[simp] theorem sz_150 : szT Tryz.prog 150 = some 1 := by kernel_rfl
@[simp] theorem ag_150 : aggT Tryz.prog 150 = some false := by kernel_rfl
@[simp] theorem ld_159 : loadT Tryz.prog 159 = some (1, false) := by kernel_rfl
@[simp] theorem sz_159 : szT Tryz.prog 159 = some 1 := by kernel_rfl
@[simp] theorem ag_159 : aggT Tryz.prog 159 = some false := by kernel_rfl
@[simp] theorem un_159 : Tryz.prog.underlying 159 = some (.int .u64) := by kernel_rfl
@[simp] theorem zt_159 : zeroT Tryz.prog 159 = some (.int .u64 0) := by kernel_rfl
@[simp] theorem zr_159 : zeroE Tryz.prog 159 = some (.int .u64 0) := by kernel_rfl
@[simp] theorem ld_162 : loadT Tryz.prog 162 = some (2, true) := by kernel_rfl
@[simp] theorem sz_162 : szT Tryz.prog 162 = some 2 := by kernel_rfl
@[simp] theorem ag_162 : aggT Tryz.prog 162 = some true := by kernel_rfl
@[simp] theorem fd_162_0 : fieldT Tryz.prog 162 0 = some (0, 1, false) := by kernel_rfl
@[simp] theorem fd_162_1 : fieldT Tryz.prog 162 1 = some (1, 1, false) := by kernel_rfl
@[simp] theorem pl_162 : placesT Tryz.prog 162 = some [(0, 1), (1, 1)] := by kernel_rfl
@[simp] theorem zt_162 : zeroT Tryz.prog 162 = some (.agg [.int .i64 0, .int .i64 0]) := by kernel_rfl
@[simp] theorem zr_162 : zeroE Tryz.prog 162 = some (.agg [.int .i64 0, .int .i64 0]) := by kernel_rfl
@[simp] theorem ld_168 : loadT Tryz.prog 168 = some (16, true) := by kernel_rfl
@[simp] theorem sz_168 : szT Tryz.prog 168 = some 16 := by kernel_rfl
@[simp] theorem ag_168 : aggT Tryz.prog 168 = some true := by kernel_rfl
@[simp] theorem un_168 : Tryz.prog.underlying 168 = some (.array 4 108) := by kernel_rfl
@[simp] theorem pl_168 : placesT Tryz.prog 168 = some [(0, 4), (4, 4), (8, 4), (12, 4)] := by kernel_rfl
@[simp] theorem zt_168 : zeroT Tryz.prog 168 = some (.agg [.int .i64 0, .int .i64 0, .str ByteArray.empty, .lst true 0 [], .int .i64 0, .int .i64 0, .str ByteArray.empty, .lst true 0 [], .int .i64 0, .int .i64 0, .str ByteArray.empty, .lst true 0 [], .int .i64 0, .int .i64 0, .str ByteArray.empty, .lst true 0 []]) := by kernel_rfl
@[simp] theorem zr_168 : zeroE Tryz.prog 168 = some (.agg [.int .i64 0, .int .i64 0, .str ByteArray.empty, .lst true 0 [], .int .i64 0, .int .i64 0, .str ByteArray.empty, .lst true 0 [], .int .i64 0, .int .i64 0, .str ByteArray.empty, .lst true 0 [], .int .i64 0, .int .i64 0, .str ByteArray.empty, .lst true 0 []]) := by kernel_rfl
@[simp] theorem ld_171 : loadT Tryz.prog 171 = some (1, false) := by kernel_rfl
@[simp] theorem sz_171 : szT Tryz.prog 171 = some 1 := by kernel_rfl
@[simp] theorem ag_171 : aggT Tryz.prog 171 = some false := by kernel_rfl
@[simp] theorem ld_172 : loadT Tryz.prog 172 = some (1, false) := by kernel_rfl
@[simp] theorem sz_172 : szT Tryz.prog 172 = some 1 := by kernel_rfl
@[simp] theorem ag_172 : aggT Tryz.prog 172 = some false := by kernel_rfl
@[simp] theorem ld_177 : loadT Tryz.prog 177 = some (1, false) := by kernel_rfl
@[simp] theorem sz_177 : szT Tryz.prog 177 = some 1 := by kernel_rfl
@[simp] theorem ag_177 : aggT Tryz.prog 177 = some false := by kernel_rfl
@[simp] theorem ld_180 : loadT Tryz.prog 180 = some (1, false) := by kernel_rfl
@[simp] theorem sz_180 : szT Tryz.prog 180 = some 1 := by kernel_rfl
@[simp] theorem ag_180 : aggT Tryz.prog 180 = some false := by kernel_rfl
@[simp] theorem un_180 : Tryz.prog.underlying 180 = some (.int .u32) := by kernel_rfl
@[simp] theorem zt_180 : zeroT Tryz.prog 180 = some (.int .u32 0) := by kernel_rfl
@[simp] theorem zr_180 : zeroE Tryz.prog 180 = some (.int .u32 0) := by kernel_rfl
@[simp] theorem ld_182 : loadT Tryz.prog 182 = some (1, false) := by kernel_rfl
@[simp] theorem sz_182 : szT Tryz.prog 182 = some 1 := by kernel_rfl
@[simp] theorem ag_182 : aggT Tryz.prog 182 = some false := by kernel_rfl
@[simp] theorem un_182 : Tryz.prog.underlying 182 = some (.int .u64) := by kernel_rfl
@[simp] theorem zt_182 : zeroT Tryz.prog 182 = some (.int .u64 0) := by kernel_rfl
@[simp] theorem zr_182 : zeroE Tryz.prog 182 = some (.int .u64 0) := by kernel_rfl
@[simp] theorem ld_188 : loadT Tryz.prog 188 = some (1, false) := by kernel_rfl
@[simp] theorem sz_188 : szT Tryz.prog 188 = some 1 := by kernel_rfl
@[simp] theorem ag_188 : aggT Tryz.prog 188 = some false := by kernel_rfl
@[simp] theorem un_188 : Tryz.prog.underlying 188 = some (.pointer 3) := by kernel_rfl
@[simp] theorem zt_188 : zeroT Tryz.prog 188 = some (.nilp) := by kernel_rfl
@[simp] theorem zr_188 : zeroE Tryz.prog 188 = some (.nilp) := by kernel_rfl
@[simp] theorem ld_191 : loadT Tryz.prog 191 = some (1, false) := by kernel_rfl
@[simp] theorem sz_191 : szT Tryz.prog 191 = some 1 := by kernel_rfl
@[simp] theorem ag_191 : aggT Tryz.prog 191 = some false := by kernel_rfl
@[simp] theorem ld_202 : loadT Tryz.prog 202 = some (1, false) := by kernel_rfl
@[simp] theorem sz_202 : szT Tryz.prog 202 = some 1 := by kernel_rfl
@[simp] theorem ag_202 : aggT Tryz.prog 202 = some false := by kernel_rfl
@[simp] theorem un_202 : Tryz.prog.underlying 202 = some (.pointer 5) := by kernel_rfl
@[simp] theorem zt_202 : zeroT Tryz.prog 202 = some (.nilp) := by kernel_rfl
@[simp] theorem zr_202 : zeroE Tryz.prog 202 = some (.nilp) := by kernel_rfl
@[simp] theorem ld_207 : loadT Tryz.prog 207 = some (1, false) := by kernel_rfl
@[simp] theorem sz_207 : szT Tryz.prog 207 = some 1 := by kernel_rfl
@[simp] theorem ag_207 : aggT Tryz.prog 207 = some false := by kernel_rfl
end Go.T
namespace Go.T
open Go Go.Proofs
set_option maxRecDepth 10000
set_option linter.unusedSimpArgs false
theorem c_l1In (a b c : Int) : PCall Tryz.prog 52 [.int .i64 a, .int .i64 b, .int .i64 c] (.bool (inR a b c)) := by
  refine pcall_of Tryz.func52 (by kernel_rfl) rfl (by simp [Tryz.f52]) ?_
  (repeat refine AWp.seq ?_); refine AWp.region noP (by kernel_rfl) ?_
  simp
  (repeat refine AWp.seq ?_); refine AWp.region noP (by kernel_rfl) ?_
  by_cases h : b ≤ a
  · simp [h]
    exact AWp.ret (post_ret1 rfl (by simp [inR, h]))
  · simp [h]
    exact AWp.ret (post_ret1 rfl (by simp [inR, h]))
theorem c_inRange (a b c : Int) : PCall Tryz.prog 53 [.int .i64 a, .int .i64 b, .int .i64 c] (.bool (inR a b c)) := by
  refine pcall_of Tryz.func53 (by kernel_rfl) rfl (by simp [Tryz.f53]) ?_
  (repeat refine AWp.seq ?_); refine AWp.region noP (by kernel_rfl) ?_
  simp
  (repeat refine AWp.seq ?_); refine AWp.region noP (by kernel_rfl) ?_
  by_cases h : b ≤ a
  · simp [h]
    exact AWp.ret (post_ret1 rfl (by simp [inR, h]))
  · simp [h]
    exact AWp.ret (post_ret1 rfl (by simp [inR, h]))
theorem c_l2Small (c : UInt8) : PCall Tryz.prog 137 [.int .u8 c.toNat] (.bool (small c)) := by
  refine pcall_of Tryz.func137 (by kernel_rfl) rfl (by simp [Tryz.f137]) ?_
  (repeat refine AWp.seq ?_); refine AWp.region noP (by kernel_rfl) ?_
  simp
  (repeat refine AWp.seq ?_); refine AWp.region allP (by kernel_rfl) ?_
  have hw : IntKind.wrap .i64 (c.toNat : Int) = c.toNat := wrap64 (by omega) (by have := c.toNat_lt; omega)
  simp [hw]
  refine aop_call _ _ _ _ _ _ _ _ (c_l1In _ _ _) ?_
  simp
  exact AWp.ret (post_ret1 rfl (by simp [small]))
theorem c_isLetter (c : UInt8) : PCall Tryz.prog 141 [.int .u8 c.toNat] (.bool (small c)) := by
  refine pcall_of Tryz.func141 (by kernel_rfl) rfl (by simp [Tryz.f141]) ?_
  (repeat refine AWp.seq ?_); refine AWp.region noP (by kernel_rfl) ?_
  simp
  (repeat refine AWp.seq ?_); refine AWp.region noP (by kernel_rfl) ?_
  by_cases h : (97 : Int) ≤ c.toNat
  · simp [h]
    exact AWp.ret (post_ret1 rfl (by simp [inR, small, h]))
  · simp [h]
    exact AWp.ret (post_ret1 rfl (by simp [inR, small, h]))
theorem c_l2Has (l : List ByteArray) (s : ByteArray) (hl : l.length ≤ 9223372036854775806) : PCall Tryz.prog 118 [strs l, .str s] (.bool (has l s)) := by
  refine pcall_of Tryz.func118 (by kernel_rfl) rfl (by simp [Tryz.f118]) ?_
  (repeat refine AWp.seq ?_); refine AWp.region noP (by kernel_rfl) ?_
  simp
  (repeat refine AWp.seq ?_); refine AWp.region noP (by kernel_rfl) ?_
  simp
  (repeat refine AWp.seq ?_); refine AWp.block (AWp.rounds (fun n st => ∃ i : Nat, n = l.length - i ∧ i ≤ l.length ∧ st.slots 0 = strs l ∧ st.slots 1 = .str s ∧ st.slots 5 = .int .i64 i ∧ has l s = has (l.drop i) s) l.length ⟨0, by simp⟩ ?_)
  rintro R n st hR ⟨i, rfl, hi, h0, h1, h5, hr⟩
  (repeat refine AWp.seq ?_); refine AWp.region noP (by kernel_rfl) ?_
  simp [h0, h5, strs]
  refine AWp.cond (b := decide (i < l.length)) (by simp) (fun hb => ?_) (fun hb => ?_)
  · simp at hb
    have hg : l[i]? = some l[i] := List.getElem?_eq_getElem hb
    have hd : l.drop i = l[i] :: l.drop (i + 1) := List.drop_eq_getElem_cons hb
    refine AWp.skip ?_
    simp
    (repeat refine AWp.seq ?_); refine AWp.block ?_; (repeat refine AWp.seq ?_); refine AWp.region noP (by kernel_rfl) ?_
    have hx : idxA Tryz.prog st.mem 59 (.lst false 1 (List.map AV.str l)) (.int .i64 i) = some (.ref [.str l[i]]) := idx (y := .str l[i]) es_59 (by simp [hg])
    simp [h0, h1, h5, strs, hx]
    refine AWp.cond (b := decide (l[i] = s)) (by simp) (fun he => ?_) (fun he => ?_)
    · (repeat refine AWp.seq ?_); refine AWp.region noP (by kernel_rfl) ?_
      simp
      refine AWp.ret (post_ret1 rfl ?_)
      simp at he
      rw [hr, hd, has, List.any_cons]
      simp [he, has]
    · simp at he
      refine AWp.skip ?_
      simp
      refine AWp.region noP (by kernel_rfl) ?_
      have hw : IntKind.wrap .i64 ((i : Int) + 1) = (i + 1 : Nat) := wrap64 (by omega) (by omega)
      simp [h0, h1, h5, hw]
      refine hR _ (l.length - (i + 1)) (by omega) ⟨i + 1, rfl, hb, by simp [h0, strs], by simp [h1], by simp, ?_⟩
      rw [hr, hd, has, List.any_cons]
      simp [he, has]
  · simp at hb
    refine AWp.exit ?_
    simp
    (repeat refine AWp.seq ?_); refine AWp.region noP (by kernel_rfl) ?_
    simp
    refine AWp.ret (post_ret1 rfl ?_)
    have : i = l.length := by omega
    subst this
    simpa [has] using hr
theorem c_l2Kept (s : ByteArray) : PCall Tryz.prog 138 [.str s] (.bool (kept s)) := by
  refine pcall_of Tryz.func138 (by kernel_rfl) rfl (by simp [Tryz.f138]) ?_
  (repeat refine AWp.seq ?_); refine AWp.region noP (by kernel_rfl) ?_
  simp
  (repeat refine AWp.seq ?_); refine AWp.region allP (by kernel_rfl) ?_
  simp
  refine aop_call _ _ _ _ _ _ _ _ ((c_l2Has keptL s (by decide)).arg (.cons (Le.lst _ _ _) (.cons (Le.refl _) .nil))) ?_
  simp
  exact AWp.ret (post_ret1 rfl (by simp [kept]))
theorem c_isKept (s : ByteArray) : PCall Tryz.prog 142 [.str s] (.bool (kept s)) := by
  refine pcall_of Tryz.func142 (by kernel_rfl) rfl (by simp [Tryz.f142]) ?_
  (repeat refine AWp.seq ?_); refine AWp.region noP (by kernel_rfl) ?_
  simp
  (repeat refine AWp.seq ?_); refine AWp.region noP (by kernel_rfl) ?_
  simp
  (repeat refine AWp.seq ?_); refine AWp.block ?_
  (repeat refine AWp.seq ?_); refine AWp.region noP (by kernel_rfl) ?_
  simp
  refine AWp.cond (b := decide (s = ⟨#[97, 114, 114, 97, 121]⟩)) (by simp) (fun h => ?_) (fun h0 => ?_)
  · simp at h
    refine AWp.skip ?_
    simp
    refine AWp.cond (b := true) (by simp [h]) (fun _ => ?_) (fun h => by cases h)
    (repeat refine AWp.seq ?_); refine AWp.region noP (by kernel_rfl) ?_
    simp
    exact AWp.ret (post_ret1 rfl (by simp [kept, has, keptL, h]))
  simp at h0
  (repeat refine AWp.seq ?_); refine AWp.region noP (by kernel_rfl) ?_
  simp
  refine AWp.cond (b := decide (s = ⟨#[102, 111, 114]⟩)) (by simp) (fun h => ?_) (fun h1 => ?_)
  · simp at h
    refine AWp.skip ?_
    simp
    refine AWp.cond (b := true) (by simp [h]) (fun _ => ?_) (fun h => by cases h)
    (repeat refine AWp.seq ?_); refine AWp.region noP (by kernel_rfl) ?_
    simp
    exact AWp.ret (post_ret1 rfl (by simp [kept, has, keptL, h]))
  simp at h1
  (repeat refine AWp.seq ?_); refine AWp.region noP (by kernel_rfl) ?_
  simp
  refine AWp.cond (b := decide (s = ⟨#[116, 111]⟩)) (by simp) (fun h => ?_) (fun h2 => ?_)
  · simp at h
    refine AWp.skip ?_
    simp
    refine AWp.cond (b := true) (by simp [h]) (fun _ => ?_) (fun h => by cases h)
    (repeat refine AWp.seq ?_); refine AWp.region noP (by kernel_rfl) ?_
    simp
    exact AWp.ret (post_ret1 rfl (by simp [kept, has, keptL, h]))
  simp at h2
  (repeat refine AWp.seq ?_); refine AWp.region noP (by kernel_rfl) ?_
  simp
  refine AWp.cond (b := decide (s = ⟨#[112, 114, 105, 110, 116]⟩)) (by simp) (fun h => ?_) (fun h3 => ?_)
  · simp at h
    refine AWp.skip ?_
    simp
    refine AWp.cond (b := true) (by simp [h]) (fun _ => ?_) (fun h => by cases h)
    (repeat refine AWp.seq ?_); refine AWp.region noP (by kernel_rfl) ?_
    simp
    exact AWp.ret (post_ret1 rfl (by simp [kept, has, keptL, h]))
  simp at h3
  (repeat refine AWp.seq ?_); refine AWp.region noP (by kernel_rfl) ?_
  simp
  refine AWp.cond (b := decide (s = ⟨#[109, 105, 110]⟩)) (by simp) (fun h => ?_) (fun h4 => ?_)
  · simp at h
    refine AWp.skip ?_
    simp
    refine AWp.cond (b := true) (by simp [h]) (fun _ => ?_) (fun h => by cases h)
    (repeat refine AWp.seq ?_); refine AWp.region noP (by kernel_rfl) ?_
    simp
    exact AWp.ret (post_ret1 rfl (by simp [kept, has, keptL, h]))
  simp at h4
  (repeat refine AWp.seq ?_); refine AWp.region noP (by kernel_rfl) ?_
  simp
  refine AWp.cond (b := decide (s = ⟨#[109, 97, 120]⟩)) (by simp) (fun h => ?_) (fun h5 => ?_)
  · simp at h
    (repeat refine AWp.seq ?_); refine AWp.region noP (by kernel_rfl) ?_
    simp
    exact AWp.ret (post_ret1 rfl (by simp [kept, has, keptL, h]))
  · simp at h5
    refine AWp.skip ?_
    simp
    (repeat refine AWp.seq ?_); refine AWp.region noP (by kernel_rfl) ?_
    simp
    refine AWp.ret (post_ret1 rfl ?_)
    simp [kept, has, keptL]
    refine ⟨Ne.symm h0, Ne.symm h1, Ne.symm h2, Ne.symm h3, Ne.symm h4, Ne.symm h5⟩
theorem c_spec_NameOk (s : ByteArray) (hs : s.size ≤ 9223372036854775806) : PCall Tryz.prog 113 [.str s] (.bool (nameOk s)) := by
  refine pcall_of Tryz.func113 (by kernel_rfl) rfl (by simp [Tryz.f113]) ?_
  (repeat refine AWp.seq ?_); refine AWp.region noP (by kernel_rfl) ?_
  simp
  (repeat refine AWp.seq ?_); refine AWp.region noP (by kernel_rfl) ?_
  simp
  (repeat refine AWp.seq ?_); refine AWp.block (AWp.rounds (fun n st => ∃ i : Nat, n = s.size - i ∧ i ≤ s.size ∧ st.slots 0 = .str s ∧ st.slots 3 = .int .i64 i ∧ s.data.toList.all small = (s.data.toList.drop i).all small) s.size ⟨0, by simp⟩ ?_)
  rintro R n st hR ⟨i, rfl, hi, h0, h3, hr⟩
  (repeat refine AWp.seq ?_); refine AWp.region noP (by kernel_rfl) ?_
  simp [h0, h3]
  refine AWp.cond (b := decide (i < s.size)) (by simp) (fun hb => ?_) (fun hb => ?_)
  · simp at hb
    obtain ⟨b, hg, hd⟩ := all_drop hb small
    refine AWp.skip ?_
    simp
    (repeat refine AWp.seq ?_); refine AWp.block ?_; (repeat refine AWp.seq ?_); refine AWp.region allP (by kernel_rfl) ?_
    have hx : sidxA Tryz.prog 9 (.str s) (.int .i64 i) = some (.int .u8 b.toNat) := sidx un_9 hg
    simp [h0, h3, hx]
    refine aop_call _ _ _ _ _ _ _ _ (c_l2Small _) ?_
    simp
    refine AWp.cond (b := !small b) (by simp) (fun he => ?_) (fun he => ?_)
    · (repeat refine AWp.seq ?_); refine AWp.region noP (by kernel_rfl) ?_
      simp
      refine AWp.ret (post_ret1 rfl ?_)
      simp at he
      simp [nameOk, hr, hd, he]
    · simp at he
      refine AWp.skip ?_
      simp
      refine AWp.region noP (by kernel_rfl) ?_
      have hw : IntKind.wrap .i64 ((i : Int) + 1) = (i + 1 : Nat) := wrap64 (by omega) (by omega)
      simp [h0, h3, hw]
      refine hR _ (s.size - (i + 1)) (by omega) ⟨i + 1, rfl, hb, by simp [h0], by simp, ?_⟩
      rw [hr, hd, he, Bool.true_and]
  · simp at hb
    have : i = s.size := by omega
    subst this
    rw [drop_size] at hr
    refine AWp.exit ?_
    simp
    (repeat refine AWp.seq ?_); refine AWp.region allP (by kernel_rfl) ?_
    simp [h0]
    refine aop_call _ _ _ _ _ _ _ _ (c_l1In _ _ _) ?_
    cases h1 : inR (s.size : Int) 1 6
    · simp
      exact AWp.ret (post_ret1 rfl (by simp [nameOk, h1]))
    · simp [h0]
      refine aop_call _ _ _ _ _ _ _ _ (c_l2Kept _) ?_
      simp
      exact AWp.ret (post_ret1 rfl (by simp [nameOk, hr, h1]))
theorem c_impl_NameOk (s : ByteArray) (hs : s.size ≤ 9223372036854775806) : PCall Tryz.prog 120 [.str s] (.bool (nameOk s)) := by
  refine pcall_of Tryz.func120 (by kernel_rfl) rfl (by simp [Tryz.f120]) ?_
  (repeat refine AWp.seq ?_); refine AWp.region noP (by kernel_rfl) ?_
  simp
  (repeat refine AWp.seq ?_); refine AWp.region noP (by kernel_rfl) ?_
  simp
  (repeat refine AWp.seq ?_); refine AWp.block (AWp.rounds (fun n st => ∃ i : Nat, n = s.size - i ∧ i ≤ s.size ∧ st.slots 0 = .str s ∧ st.slots 3 = .int .i64 i ∧ s.data.toList.all small = (s.data.toList.drop i).all small) s.size ⟨0, by simp⟩ ?_)
  rintro R n st hR ⟨i, rfl, hi, h0, h3, hr⟩
  (repeat refine AWp.seq ?_); refine AWp.region noP (by kernel_rfl) ?_
  simp [h0, h3]
  refine AWp.cond (b := decide (i < s.size)) (by simp) (fun hb => ?_) (fun hb => ?_)
  · simp at hb
    obtain ⟨b, hg, hd⟩ := all_drop hb small
    refine AWp.skip ?_
    simp
    (repeat refine AWp.seq ?_); refine AWp.block ?_; (repeat refine AWp.seq ?_); refine AWp.region allP (by kernel_rfl) ?_
    have hx : sidxA Tryz.prog 9 (.str s) (.int .i64 i) = some (.int .u8 b.toNat) := sidx un_9 hg
    simp [h0, h3, hx]
    refine aop_call _ _ _ _ _ _ _ _ (c_isLetter _) ?_
    simp
    refine AWp.cond (b := !small b) (by simp) (fun he => ?_) (fun he => ?_)
    · (repeat refine AWp.seq ?_); refine AWp.region noP (by kernel_rfl) ?_
      simp
      refine AWp.ret (post_ret1 rfl ?_)
      simp at he
      simp [nameOk, hr, hd, he]
    · simp at he
      refine AWp.skip ?_
      simp
      refine AWp.region noP (by kernel_rfl) ?_
      have hw : IntKind.wrap .i64 ((i : Int) + 1) = (i + 1 : Nat) := wrap64 (by omega) (by omega)
      simp [h0, h3, hw]
      refine hR _ (s.size - (i + 1)) (by omega) ⟨i + 1, rfl, hb, by simp [h0], by simp, ?_⟩
      rw [hr, hd, he, Bool.true_and]
  · simp at hb
    have : i = s.size := by omega
    subst this
    rw [drop_size] at hr
    refine AWp.exit ?_
    simp
    (repeat refine AWp.seq ?_); refine AWp.region allP (by kernel_rfl) ?_
    simp [h0]
    refine aop_call _ _ _ _ _ _ _ _ (c_inRange _ _ _) ?_
    cases h1 : inR (s.size : Int) 1 6
    · simp
      exact AWp.ret (post_ret1 rfl (by simp [nameOk, h1]))
    · simp [h0]
      refine aop_call _ _ _ _ _ _ _ _ (c_isKept _) ?_
      simp
      exact AWp.ret (post_ret1 rfl (by simp [nameOk, hr, h1]))
end Go.T
