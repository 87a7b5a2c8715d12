/- Facts about the types of the program. -/
import Derived.Test.YtfikgphnjndgdaaGreatG5
import Derived.Test.YtfikgphnjndgdaaGreatG2
import Derived.Test.YtfikgphnjndgdaaGreatProg
namespace Go.T
open Go Go.Proofs
set_option maxRecDepth 10000
@[simp] theorem ld_2 : loadT Tryz.prog 2 = some (1, false) := by kernel_rfl
@[simp] theorem sz_2 : szT Tryz.prog 2 = some 1 := by kernel_rfl
@[simp] theorem ag_2 : aggT Tryz.prog 2 = some false := by kernel_rfl
@[simp] theorem un_2 : Tryz.prog.underlying 2 = some (.int .i64) := by kernel_rfl
@[simp] theorem zt_2 : zeroT Tryz.prog 2 = some (.int .i64 0) := by kernel_rfl
@[simp] theorem zr_2 : zeroE Tryz.prog 2 = some (.int .i64 0) := by kernel_rfl
@[simp] theorem ld_3 : loadT Tryz.prog 3 = some (1, false) := by kernel_rfl
@[simp] theorem sz_3 : szT Tryz.prog 3 = some 1 := by kernel_rfl
@[simp] theorem ag_3 : aggT Tryz.prog 3 = some false := by kernel_rfl
@[simp] theorem un_3 : Tryz.prog.underlying 3 = some (.int .i64) := by kernel_rfl
@[simp] theorem zt_3 : zeroT Tryz.prog 3 = some (.int .i64 0) := by kernel_rfl
@[simp] theorem zr_3 : zeroE Tryz.prog 3 = some (.int .i64 0) := by kernel_rfl
@[simp] theorem ld_4 : loadT Tryz.prog 4 = some (1, false) := by kernel_rfl
@[simp] theorem sz_4 : szT Tryz.prog 4 = some 1 := by kernel_rfl
@[simp] theorem ag_4 : aggT Tryz.prog 4 = some false := by kernel_rfl
@[simp] theorem un_4 : Tryz.prog.underlying 4 = some .bool := by kernel_rfl
@[simp] theorem zt_4 : zeroT Tryz.prog 4 = some (.bool false) := by kernel_rfl
@[simp] theorem zr_4 : zeroE Tryz.prog 4 = some (.bool false) := by kernel_rfl
@[simp] theorem ld_5 : loadT Tryz.prog 5 = some (1, false) := by kernel_rfl
@[simp] theorem sz_5 : szT Tryz.prog 5 = some 1 := by kernel_rfl
@[simp] theorem ag_5 : aggT Tryz.prog 5 = some false := by kernel_rfl
@[simp] theorem un_5 : Tryz.prog.underlying 5 = some (.int .u8) := by kernel_rfl
@[simp] theorem zt_5 : zeroT Tryz.prog 5 = some (.int .u8 0) := by kernel_rfl
@[simp] theorem zr_5 : zeroE Tryz.prog 5 = some (.int .u8 0) := by kernel_rfl
@[simp] theorem ld_9 : loadT Tryz.prog 9 = some (1, false) := by kernel_rfl
@[simp] theorem sz_9 : szT Tryz.prog 9 = some 1 := by kernel_rfl
@[simp] theorem ag_9 : aggT Tryz.prog 9 = some false := by kernel_rfl
@[simp] theorem un_9 : Tryz.prog.underlying 9 = some .string := by kernel_rfl
@[simp] theorem zt_9 : zeroT Tryz.prog 9 = some (.str ByteArray.empty) := by kernel_rfl
@[simp] theorem zr_9 : zeroE Tryz.prog 9 = some (.str ByteArray.empty) := by kernel_rfl
@[simp] theorem ld_12 : loadT Tryz.prog 12 = some (1, false) := by kernel_rfl
@[simp] theorem sz_12 : szT Tryz.prog 12 = some 1 := by kernel_rfl
@[simp] theorem ag_12 : aggT Tryz.prog 12 = some false := by kernel_rfl
@[simp] theorem zt_12 : zeroT Tryz.prog 12 = some (.int .u64 0) := by kernel_rfl
@[simp] theorem zr_12 : zeroE Tryz.prog 12 = some (.int .u64 0) := by kernel_rfl
@[simp] theorem ld_13 : loadT Tryz.prog 13 = some (2, true) := by kernel_rfl
@[simp] theorem sz_13 : szT Tryz.prog 13 = some 2 := by kernel_rfl
@[simp] theorem ag_13 : aggT Tryz.prog 13 = some true := by kernel_rfl
@[simp] theorem fd_13_0 : fieldT Tryz.prog 13 0 = some (0, 1, false) := by kernel_rfl
@[simp] theorem fd_13_1 : fieldT Tryz.prog 13 1 = some (1, 1, false) := by kernel_rfl
@[simp] theorem pl_13 : placesT Tryz.prog 13 = some [(0, 1), (1, 1)] := by kernel_rfl
@[simp] theorem zt_13 : zeroT Tryz.prog 13 = some (.agg [.str ByteArray.empty, .int .u64 0]) := by kernel_rfl
@[simp] theorem zr_13 : zeroE Tryz.prog 13 = some (.agg [.str ByteArray.empty, .int .u64 0]) := by kernel_rfl
@[simp] theorem ld_21 : loadT Tryz.prog 21 = some (1, false) := by kernel_rfl
@[simp] theorem sz_21 : szT Tryz.prog 21 = some 1 := by kernel_rfl
@[simp] theorem ag_21 : aggT Tryz.prog 21 = some false := by kernel_rfl
@[simp] theorem un_21 : Tryz.prog.underlying 21 = some (.int .i32) := by kernel_rfl
@[simp] theorem zt_21 : zeroT Tryz.prog 21 = some (.int .i32 0) := by kernel_rfl
@[simp] theorem zr_21 : zeroE Tryz.prog 21 = some (.int .i32 0) := by kernel_rfl
@[simp] theorem ld_22 : loadT Tryz.prog 22 = some (1, false) := by kernel_rfl
@[simp] theorem sz_22 : szT Tryz.prog 22 = some 1 := by kernel_rfl
@[simp] theorem ag_22 : aggT Tryz.prog 22 = some false := by kernel_rfl
@[simp] theorem es_22 : esz Tryz.prog 22 = some 2 := by kernel_rfl
@[simp] theorem el_22 : elemT Tryz.prog 22 = some 234 := by kernel_rfl
@[simp] theorem un_22 : Tryz.prog.underlying 22 = some (.slice 234) := by kernel_rfl
@[simp] theorem ii_22 : isIntT Tryz.prog 22 = some false := by kernel_rfl
@[simp] theorem by_234 : bytesT Tryz.prog 234 = some 24 := by kernel_rfl
theorem et_22 : ElemT Tryz.prog 22 234 2 24 := ⟨by kernel_rfl, by kernel_rfl, by kernel_rfl, by kernel_rfl, ⟨.agg [.str ByteArray.empty, .int .i64 0], by kernel_rfl, by kernel_rfl⟩, by decide⟩
@[simp] theorem zt_22 : zeroT Tryz.prog 22 = some (.lst true 0 []) := by kernel_rfl
@[simp] theorem zr_22 : zeroE Tryz.prog 22 = some (.lst true 0 []) := by kernel_rfl
@[simp] theorem ld_23 : loadT Tryz.prog 23 = some (1, false) := by kernel_rfl
@[simp] theorem sz_23 : szT Tryz.prog 23 = some 1 := by kernel_rfl
@[simp] theorem ag_23 : aggT Tryz.prog 23 = some false := by kernel_rfl
@[simp] theorem es_23 : esz Tryz.prog 23 = some 19 := by kernel_rfl
@[simp] theorem el_23 : elemT Tryz.prog 23 = some 237 := by kernel_rfl
@[simp] theorem un_23 : Tryz.prog.underlying 23 = some (.slice 237) := by kernel_rfl
@[simp] theorem ii_23 : isIntT Tryz.prog 23 = some false := by kernel_rfl
@[simp] theorem by_237 : bytesT Tryz.prog 237 = some 272 := by kernel_rfl
theorem et_23 : ElemT Tryz.prog 23 237 19 272 := ⟨by kernel_rfl, by kernel_rfl, by kernel_rfl, by kernel_rfl, ⟨.agg [.int .i64 0, .str ByteArray.empty, .int .i64 0, .int .i64 0, .str ByteArray.empty, .lst true 0 [], .int .i64 0, .int .i64 0, .str ByteArray.empty, .lst true 0 [], .int .i64 0, .int .i64 0, .str ByteArray.empty, .lst true 0 [], .int .i64 0, .int .i64 0, .str ByteArray.empty, .lst true 0 [], .lst true 0 []], by kernel_rfl, by kernel_rfl⟩, by decide⟩
@[simp] theorem zt_23 : zeroT Tryz.prog 23 = some (.lst true 0 []) := by kernel_rfl
@[simp] theorem zr_23 : zeroE Tryz.prog 23 = some (.lst true 0 []) := by kernel_rfl
@[simp] theorem ld_24 : loadT Tryz.prog 24 = some (2, true) := by kernel_rfl
@[simp] theorem sz_24 : szT Tryz.prog 24 = some 2 := by kernel_rfl
@[simp] theorem ag_24 : aggT Tryz.prog 24 = some true := by kernel_rfl
@[simp] theorem fd_24_0 : fieldT Tryz.prog 24 0 = some (0, 1, false) := by kernel_rfl
@[simp] theorem fd_24_1 : fieldT Tryz.prog 24 1 = some (1, 1, false) := by kernel_rfl
@[simp] theorem pl_24 : placesT Tryz.prog 24 = some [(0, 1), (1, 1)] := by kernel_rfl
@[simp] theorem zt_24 : zeroT Tryz.prog 24 = some (.agg [.lst true 0 [], .lst true 0 []]) := by kernel_rfl
@[simp] theorem zr_24 : zeroE Tryz.prog 24 = some (.agg [.lst true 0 [], .lst true 0 []]) := by kernel_rfl
@[simp] theorem ld_25 : loadT Tryz.prog 25 = some (2, true) := by kernel_rfl
@[simp] theorem sz_25 : szT Tryz.prog 25 = some 2 := by kernel_rfl
@[simp] theorem ag_25 : aggT Tryz.prog 25 = some true := by kernel_rfl
@[simp] theorem fd_25_0 : fieldT Tryz.prog 25 0 = some (0, 1, false) := by kernel_rfl
@[simp] theorem fd_25_1 : fieldT Tryz.prog 25 1 = some (1, 1, false) := by kernel_rfl
@[simp] theorem pl_25 : placesT Tryz.prog 25 = some [(0, 1), (1, 1)] := by kernel_rfl
@[simp] theorem zt_25 : zeroT Tryz.prog 25 = some (.agg [.lst true 0 [], .lst true 0 []]) := by kernel_rfl
@[simp] theorem zr_25 : zeroE Tryz.prog 25 = some (.agg [.lst true 0 [], .lst true 0 []]) := by kernel_rfl
@[simp] theorem ld_26 : loadT Tryz.prog 26 = some (1, false) := by kernel_rfl
@[simp] theorem sz_26 : szT Tryz.prog 26 = some 1 := by kernel_rfl
@[simp] theorem ag_26 : aggT Tryz.prog 26 = some false := by kernel_rfl
@[simp] theorem es_26 : esz Tryz.prog 26 = some 1 := by kernel_rfl
@[simp] theorem el_26 : elemT Tryz.prog 26 = some 9 := by kernel_rfl
@[simp] theorem un_26 : Tryz.prog.underlying 26 = some (.slice 9) := by kernel_rfl
@[simp] theorem ii_26 : isIntT Tryz.prog 26 = some false := by kernel_rfl
@[simp] theorem by_9 : bytesT Tryz.prog 9 = some 16 := by kernel_rfl
theorem et_26 : ElemT Tryz.prog 26 9 1 16 := ⟨by kernel_rfl, by kernel_rfl, by kernel_rfl, by kernel_rfl, ⟨.str ByteArray.empty, by kernel_rfl, by kernel_rfl⟩, by decide⟩
@[simp] theorem zt_26 : zeroT Tryz.prog 26 = some (.lst true 0 []) := by kernel_rfl
@[simp] theorem zr_26 : zeroE Tryz.prog 26 = some (.lst true 0 []) := by kernel_rfl
@[simp] theorem ld_27 : loadT Tryz.prog 27 = some (1, false) := by kernel_rfl
@[simp] theorem sz_27 : szT Tryz.prog 27 = some 1 := by kernel_rfl
@[simp] theorem ag_27 : aggT Tryz.prog 27 = some false := by kernel_rfl
@[simp] theorem es_27 : esz Tryz.prog 27 = some 4 := by kernel_rfl
@[simp] theorem el_27 : elemT Tryz.prog 27 = some 29 := by kernel_rfl
@[simp] theorem un_27 : Tryz.prog.underlying 27 = some (.slice 29) := by kernel_rfl
@[simp] theorem ii_27 : isIntT Tryz.prog 27 = some false := by kernel_rfl
@[simp] theorem by_29 : bytesT Tryz.prog 29 = some 56 := by kernel_rfl
theorem et_27 : ElemT Tryz.prog 27 29 4 56 := ⟨by kernel_rfl, by kernel_rfl, by kernel_rfl, by kernel_rfl, ⟨.agg [.int .i64 0, .int .i64 0, .str ByteArray.empty, .lst true 0 []], by kernel_rfl, by kernel_rfl⟩, by decide⟩
@[simp] theorem zt_27 : zeroT Tryz.prog 27 = some (.lst true 0 []) := by kernel_rfl
@[simp] theorem zr_27 : zeroE Tryz.prog 27 = some (.lst true 0 []) := by kernel_rfl
@[simp] theorem ld_28 : loadT Tryz.prog 28 = some (4, true) := by kernel_rfl
@[simp] theorem sz_28 : szT Tryz.prog 28 = some 4 := by kernel_rfl
@[simp] theorem ag_28 : aggT Tryz.prog 28 = some true := by kernel_rfl
@[simp] theorem fd_28_0 : fieldT Tryz.prog 28 0 = some (0, 1, false) := by kernel_rfl
@[simp] theorem fd_28_1 : fieldT Tryz.prog 28 1 = some (1, 1, false) := by kernel_rfl
@[simp] theorem fd_28_2 : fieldT Tryz.prog 28 2 = some (2, 1, false) := by kernel_rfl
@[simp] theorem fd_28_3 : fieldT Tryz.prog 28 3 = some (3, 1, false) := by kernel_rfl
@[simp] theorem pl_28 : placesT Tryz.prog 28 = some [(0, 1), (1, 1), (2, 1), (3, 1)] := by kernel_rfl
@[simp] theorem zt_28 : zeroT Tryz.prog 28 = some (.agg [.int .i64 0, .int .i64 0, .str ByteArray.empty, .lst true 0 []]) := by kernel_rfl
@[simp] theorem zr_28 : zeroE Tryz.prog 28 = some (.agg [.int .i64 0, .int .i64 0, .str ByteArray.empty, .lst true 0 []]) := by kernel_rfl
@[simp] theorem ld_29 : loadT Tryz.prog 29 = some (4, true) := by kernel_rfl
@[simp] theorem sz_29 : szT Tryz.prog 29 = some 4 := by kernel_rfl
@[simp] theorem ag_29 : aggT Tryz.prog 29 = some true := by kernel_rfl
@[simp] theorem fd_29_0 : fieldT Tryz.prog 29 0 = some (0, 1, false) := by kernel_rfl
@[simp] theorem fd_29_1 : fieldT Tryz.prog 29 1 = some (1, 1, false) := by kernel_rfl
@[simp] theorem fd_29_2 : fieldT Tryz.prog 29 2 = some (2, 1, false) := by kernel_rfl
@[simp] theorem fd_29_3 : fieldT Tryz.prog 29 3 = some (3, 1, false) := by kernel_rfl
@[simp] theorem pl_29 : placesT Tryz.prog 29 = some [(0, 1), (1, 1), (2, 1), (3, 1)] := by kernel_rfl
@[simp] theorem zt_29 : zeroT Tryz.prog 29 = some (.agg [.int .i64 0, .int .i64 0, .str ByteArray.empty, .lst true 0 []]) := by kernel_rfl
@[simp] theorem zr_29 : zeroE Tryz.prog 29 = some (.agg [.int .i64 0, .int .i64 0, .str ByteArray.empty, .lst true 0 []]) := by kernel_rfl
@[simp] theorem ld_33 : loadT Tryz.prog 33 = some (1, false) := by kernel_rfl
@[simp] theorem sz_33 : szT Tryz.prog 33 = some 1 := by kernel_rfl
@[simp] theorem ag_33 : aggT Tryz.prog 33 = some false := by kernel_rfl
@[simp] theorem es_33 : esz Tryz.prog 33 = some 3 := by kernel_rfl
@[simp] theorem el_33 : elemT Tryz.prog 33 = some 148 := by kernel_rfl
@[simp] theorem un_33 : Tryz.prog.underlying 33 = some (.slice 148) := by kernel_rfl
@[simp] theorem ii_33 : isIntT Tryz.prog 33 = some false := by kernel_rfl
@[simp] theorem by_148 : bytesT Tryz.prog 148 = some 24 := by kernel_rfl
theorem et_33 : ElemT Tryz.prog 33 148 3 24 := ⟨by kernel_rfl, by kernel_rfl, by kernel_rfl, by kernel_rfl, ⟨.agg [.int .i64 0, .int .i64 0, .int .i64 0], by kernel_rfl, by kernel_rfl⟩, by decide⟩
@[simp] theorem zt_33 : zeroT Tryz.prog 33 = some (.lst true 0 []) := by kernel_rfl
@[simp] theorem zr_33 : zeroE Tryz.prog 33 = some (.lst true 0 []) := by kernel_rfl
@[simp] theorem ld_35 : loadT Tryz.prog 35 = some (1, false) := by kernel_rfl
@[simp] theorem sz_35 : szT Tryz.prog 35 = some 1 := by kernel_rfl
@[simp] theorem ag_35 : aggT Tryz.prog 35 = some false := by kernel_rfl
@[simp] theorem es_35 : esz Tryz.prog 35 = some 2 := by kernel_rfl
@[simp] theorem el_35 : elemT Tryz.prog 35 = some 197 := by kernel_rfl
@[simp] theorem un_35 : Tryz.prog.underlying 35 = some (.slice 197) := by kernel_rfl
@[simp] theorem ii_35 : isIntT Tryz.prog 35 = some false := by kernel_rfl
@[simp] theorem by_197 : bytesT Tryz.prog 197 = some 24 := by kernel_rfl
theorem et_35 : ElemT Tryz.prog 35 197 2 24 := ⟨by kernel_rfl, by kernel_rfl, by kernel_rfl, by kernel_rfl, ⟨.agg [.str ByteArray.empty, .int .i64 0], by kernel_rfl, by kernel_rfl⟩, by decide⟩
@[simp] theorem zt_35 : zeroT Tryz.prog 35 = some (.lst true 0 []) := by kernel_rfl
@[simp] theorem zr_35 : zeroE Tryz.prog 35 = some (.lst true 0 []) := by kernel_rfl
@[simp] theorem ld_36 : loadT Tryz.prog 36 = some (1, false) := by kernel_rfl
@[simp] theorem sz_36 : szT Tryz.prog 36 = some 1 := by kernel_rfl
@[simp] theorem ag_36 : aggT Tryz.prog 36 = some false := by kernel_rfl
@[simp] theorem es_36 : esz Tryz.prog 36 = some 19 := by kernel_rfl
@[simp] theorem el_36 : elemT Tryz.prog 36 = some 74 := by kernel_rfl
@[simp] theorem un_36 : Tryz.prog.underlying 36 = some (.slice 74) := by kernel_rfl
@[simp] theorem ii_36 : isIntT Tryz.prog 36 = some false := by kernel_rfl
@[simp] theorem by_74 : bytesT Tryz.prog 74 = some 272 := by kernel_rfl
theorem et_36 : ElemT Tryz.prog 36 74 19 272 := ⟨by kernel_rfl, by kernel_rfl, by kernel_rfl, by kernel_rfl, ⟨.agg [.int .i64 0, .str ByteArray.empty, .int .i64 0, .int .i64 0, .str ByteArray.empty, .lst true 0 [], .int .i64 0, .int .i64 0, .str ByteArray.empty, .lst true 0 [], .int .i64 0, .int .i64 0, .str ByteArray.empty, .lst true 0 [], .int .i64 0, .int .i64 0, .str ByteArray.empty, .lst true 0 [], .lst true 0 []], by kernel_rfl, by kernel_rfl⟩, by decide⟩
@[simp] theorem zt_36 : zeroT Tryz.prog 36 = some (.lst true 0 []) := by kernel_rfl
@[simp] theorem zr_36 : zeroE Tryz.prog 36 = some (.lst true 0 []) := by kernel_rfl
@[simp] theorem ld_37 : loadT Tryz.prog 37 = some (2, true) := by kernel_rfl
@[simp] theorem sz_37 : szT Tryz.prog 37 = some 2 := by kernel_rfl
@[simp] theorem ag_37 : aggT Tryz.prog 37 = some true := by kernel_rfl
@[simp] theorem fd_37_0 : fieldT Tryz.prog 37 0 = some (0, 1, false) := by kernel_rfl
@[simp] theorem fd_37_1 : fieldT Tryz.prog 37 1 = some (1, 1, false) := by kernel_rfl
@[simp] theorem pl_37 : placesT Tryz.prog 37 = some [(0, 1), (1, 1)] := by kernel_rfl
@[simp] theorem zt_37 : zeroT Tryz.prog 37 = some (.agg [.lst true 0 [], .lst true 0 []]) := by kernel_rfl
@[simp] theorem zr_37 : zeroE Tryz.prog 37 = some (.agg [.lst true 0 [], .lst true 0 []]) := by kernel_rfl
@[simp] theorem ld_38 : loadT Tryz.prog 38 = some (2, true) := by kernel_rfl
@[simp] theorem sz_38 : szT Tryz.prog 38 = some 2 := by kernel_rfl
@[simp] theorem ag_38 : aggT Tryz.prog 38 = some true := by kernel_rfl
@[simp] theorem fd_38_0 : fieldT Tryz.prog 38 0 = some (0, 1, false) := by kernel_rfl
@[simp] theorem fd_38_1 : fieldT Tryz.prog 38 1 = some (1, 1, false) := by kernel_rfl
@[simp] theorem pl_38 : placesT Tryz.prog 38 = some [(0, 1), (1, 1)] := by kernel_rfl
@[simp] theorem zt_38 : zeroT Tryz.prog 38 = some (.agg [.lst true 0 [], .lst true 0 []]) := by kernel_rfl
@[simp] theorem zr_38 : zeroE Tryz.prog 38 = some (.agg [.lst true 0 [], .lst true 0 []]) := by kernel_rfl
@[simp] theorem ld_41 : loadT Tryz.prog 41 = some (1, false) := by kernel_rfl
@[simp] theorem sz_41 : szT Tryz.prog 41 = some 1 := by kernel_rfl
@[simp] theorem ag_41 : aggT Tryz.prog 41 = some false := by kernel_rfl
@[simp] theorem es_41 : esz Tryz.prog 41 = some 4 := by kernel_rfl
@[simp] theorem el_41 : elemT Tryz.prog 41 = some 43 := by kernel_rfl
@[simp] theorem un_41 : Tryz.prog.underlying 41 = some (.slice 43) := by kernel_rfl
@[simp] theorem ii_41 : isIntT Tryz.prog 41 = some false := by kernel_rfl
@[simp] theorem by_43 : bytesT Tryz.prog 43 = some 56 := by kernel_rfl
theorem et_41 : ElemT Tryz.prog 41 43 4 56 := ⟨by kernel_rfl, by kernel_rfl, by kernel_rfl, by kernel_rfl, ⟨.agg [.int .i64 0, .int .i64 0, .str ByteArray.empty, .lst true 0 []], by kernel_rfl, by kernel_rfl⟩, by decide⟩
@[simp] theorem zt_41 : zeroT Tryz.prog 41 = some (.lst true 0 []) := by kernel_rfl
@[simp] theorem zr_41 : zeroE Tryz.prog 41 = some (.lst true 0 []) := by kernel_rfl
@[simp] theorem ld_42 : loadT Tryz.prog 42 = some (4, true) := by kernel_rfl
@[simp] theorem sz_42 : szT Tryz.prog 42 = some 4 := by kernel_rfl
@[simp] theorem ag_42 : aggT Tryz.prog 42 = some true := by kernel_rfl
@[simp] theorem fd_42_0 : fieldT Tryz.prog 42 0 = some (0, 1, false) := by kernel_rfl
@[simp] theorem fd_42_1 : fieldT Tryz.prog 42 1 = some (1, 1, false) := by kernel_rfl
@[simp] theorem fd_42_2 : fieldT Tryz.prog 42 2 = some (2, 1, false) := by kernel_rfl
@[simp] theorem fd_42_3 : fieldT Tryz.prog 42 3 = some (3, 1, false) := by kernel_rfl
@[simp] theorem pl_42 : placesT Tryz.prog 42 = some [(0, 1), (1, 1), (2, 1), (3, 1)] := by kernel_rfl
@[simp] theorem zt_42 : zeroT Tryz.prog 42 = some (.agg [.int .i64 0, .int .i64 0, .str ByteArray.empty, .lst true 0 []]) := by kernel_rfl
@[simp] theorem zr_42 : zeroE Tryz.prog 42 = some (.agg [.int .i64 0, .int .i64 0, .str ByteArray.empty, .lst true 0 []]) := by kernel_rfl
@[simp] theorem ld_43 : loadT Tryz.prog 43 = some (4, true) := by kernel_rfl
@[simp] theorem sz_43 : szT Tryz.prog 43 = some 4 := by kernel_rfl
@[simp] theorem ag_43 : aggT Tryz.prog 43 = some true := by kernel_rfl
@[simp] theorem fd_43_0 : fieldT Tryz.prog 43 0 = some (0, 1, false) := by kernel_rfl
@[simp] theorem fd_43_1 : fieldT Tryz.prog 43 1 = some (1, 1, false) := by kernel_rfl
@[simp] theorem fd_43_2 : fieldT Tryz.prog 43 2 = some (2, 1, false) := by kernel_rfl
@[simp] theorem fd_43_3 : fieldT Tryz.prog 43 3 = some (3, 1, false) := by kernel_rfl
@[simp] theorem pl_43 : placesT Tryz.prog 43 = some [(0, 1), (1, 1), (2, 1), (3, 1)] := by kernel_rfl
@[simp] theorem zt_43 : zeroT Tryz.prog 43 = some (.agg [.int .i64 0, .int .i64 0, .str ByteArray.empty, .lst true 0 []]) := by kernel_rfl
@[simp] theorem zr_43 : zeroE Tryz.prog 43 = some (.agg [.int .i64 0, .int .i64 0, .str ByteArray.empty, .lst true 0 []]) := by kernel_rfl
@[simp] theorem ld_53 : loadT Tryz.prog 53 = some (1, false) := by kernel_rfl
@[simp] theorem sz_53 : szT Tryz.prog 53 = some 1 := by kernel_rfl
@[simp] theorem ag_53 : aggT Tryz.prog 53 = some false := by kernel_rfl
@[simp] theorem es_53 : esz Tryz.prog 53 = some 1 := by kernel_rfl
@[simp] theorem el_53 : elemT Tryz.prog 53 = some 54 := by kernel_rfl
@[simp] theorem un_53 : Tryz.prog.underlying 53 = some (.slice 54) := by kernel_rfl
@[simp] theorem ii_53 : isIntT Tryz.prog 53 = some false := by kernel_rfl
@[simp] theorem by_54 : bytesT Tryz.prog 54 = some 24 := by kernel_rfl
theorem et_53 : ElemT Tryz.prog 53 54 1 24 := ⟨by kernel_rfl, by kernel_rfl, by kernel_rfl, by kernel_rfl, ⟨.lst true 0 [], by kernel_rfl, by kernel_rfl⟩, by decide⟩
@[simp] theorem zt_53 : zeroT Tryz.prog 53 = some (.lst true 0 []) := by kernel_rfl
@[simp] theorem zr_53 : zeroE Tryz.prog 53 = some (.lst true 0 []) := by kernel_rfl
@[simp] theorem ld_54 : loadT Tryz.prog 54 = some (1, false) := by kernel_rfl
@[simp] theorem sz_54 : szT Tryz.prog 54 = some 1 := by kernel_rfl
@[simp] theorem ag_54 : aggT Tryz.prog 54 = some false := by kernel_rfl
@[simp] theorem es_54 : esz Tryz.prog 54 = some 1 := by kernel_rfl
@[simp] theorem el_54 : elemT Tryz.prog 54 = some 3 := by kernel_rfl
@[simp] theorem un_54 : Tryz.prog.underlying 54 = some (.slice 3) := by kernel_rfl
@[simp] theorem ii_54 : isIntT Tryz.prog 54 = some false := by kernel_rfl
@[simp] theorem by_3 : bytesT Tryz.prog 3 = some 8 := by kernel_rfl
theorem et_54 : ElemT Tryz.prog 54 3 1 8 := ⟨by kernel_rfl, by kernel_rfl, by kernel_rfl, by kernel_rfl, ⟨.int .i64 0, by kernel_rfl, by kernel_rfl⟩, by decide⟩
@[simp] theorem zt_54 : zeroT Tryz.prog 54 = some (.lst true 0 []) := by kernel_rfl
@[simp] theorem zr_54 : zeroE Tryz.prog 54 = some (.lst true 0 []) := by kernel_rfl
@[simp] theorem ld_55 : loadT Tryz.prog 55 = some (4, true) := by kernel_rfl
@[simp] theorem sz_55 : szT Tryz.prog 55 = some 4 := by kernel_rfl
@[simp] theorem ag_55 : aggT Tryz.prog 55 = some true := by kernel_rfl
@[simp] theorem fd_55_0 : fieldT Tryz.prog 55 0 = some (0, 1, false) := by kernel_rfl
@[simp] theorem fd_55_1 : fieldT Tryz.prog 55 1 = some (1, 1, false) := by kernel_rfl
@[simp] theorem fd_55_2 : fieldT Tryz.prog 55 2 = some (2, 1, false) := by kernel_rfl
@[simp] theorem fd_55_3 : fieldT Tryz.prog 55 3 = some (3, 1, false) := by kernel_rfl
@[simp] theorem pl_55 : placesT Tryz.prog 55 = some [(0, 1), (1, 1), (2, 1), (3, 1)] := by kernel_rfl
@[simp] theorem zt_55 : zeroT Tryz.prog 55 = some (.agg [.lst true 0 [], .lst true 0 [], .lst true 0 [], .int .i64 0]) := by kernel_rfl
@[simp] theorem zr_55 : zeroE Tryz.prog 55 = some (.agg [.lst true 0 [], .lst true 0 [], .lst true 0 [], .int .i64 0]) := by kernel_rfl
@[simp] theorem ld_56 : loadT Tryz.prog 56 = some (4, true) := by kernel_rfl
@[simp] theorem sz_56 : szT Tryz.prog 56 = some 4 := by kernel_rfl
@[simp] theorem ag_56 : aggT Tryz.prog 56 = some true := by kernel_rfl
@[simp] theorem fd_56_0 : fieldT Tryz.prog 56 0 = some (0, 1, false) := by kernel_rfl
@[simp] theorem fd_56_1 : fieldT Tryz.prog 56 1 = some (1, 1, false) := by kernel_rfl
@[simp] theorem fd_56_2 : fieldT Tryz.prog 56 2 = some (2, 1, false) := by kernel_rfl
@[simp] theorem fd_56_3 : fieldT Tryz.prog 56 3 = some (3, 1, false) := by kernel_rfl
@[simp] theorem pl_56 : placesT Tryz.prog 56 = some [(0, 1), (1, 1), (2, 1), (3, 1)] := by kernel_rfl
@[simp] theorem zt_56 : zeroT Tryz.prog 56 = some (.agg [.lst true 0 [], .lst true 0 [], .lst true 0 [], .int .i64 0]) := by kernel_rfl
@[simp] theorem zr_56 : zeroE Tryz.prog 56 = some (.agg [.lst true 0 [], .lst true 0 [], .lst true 0 [], .int .i64 0]) := by kernel_rfl
@[simp] theorem ld_61 : loadT Tryz.prog 61 = some (1, false) := by kernel_rfl
@[simp] theorem sz_61 : szT Tryz.prog 61 = some 1 := by kernel_rfl
@[simp] theorem ag_61 : aggT Tryz.prog 61 = some false := by kernel_rfl
@[simp] theorem es_61 : esz Tryz.prog 61 = some 1 := by kernel_rfl
@[simp] theorem el_61 : elemT Tryz.prog 61 = some 5 := by kernel_rfl
@[simp] theorem un_61 : Tryz.prog.underlying 61 = some (.slice 5) := by kernel_rfl
@[simp] theorem ii_61 : isIntT Tryz.prog 61 = some false := by kernel_rfl
@[simp] theorem by_5 : bytesT Tryz.prog 5 = some 1 := by kernel_rfl
theorem et_61 : ElemT Tryz.prog 61 5 1 1 := ⟨by kernel_rfl, by kernel_rfl, by kernel_rfl, by kernel_rfl, ⟨.int .u8 0, by kernel_rfl, by kernel_rfl⟩, by decide⟩
@[simp] theorem zt_61 : zeroT Tryz.prog 61 = some (.lst true 0 []) := by kernel_rfl
@[simp] theorem zr_61 : zeroE Tryz.prog 61 = some (.lst true 0 []) := by kernel_rfl
@[simp] theorem ld_63 : loadT Tryz.prog 63 = some (1, false) := by kernel_rfl
@[simp] theorem sz_63 : szT Tryz.prog 63 = some 1 := by kernel_rfl
@[simp] theorem ag_63 : aggT Tryz.prog 63 = some false := by kernel_rfl
@[simp] theorem ld_65 : loadT Tryz.prog 65 = some (1, false) := by kernel_rfl
@[simp] theorem sz_65 : szT Tryz.prog 65 = some 1 := by kernel_rfl
@[simp] theorem ag_65 : aggT Tryz.prog 65 = some false := by kernel_rfl
@[simp] theorem ld_73 : loadT Tryz.prog 73 = some (19, true) := by kernel_rfl
@[simp] theorem sz_73 : szT Tryz.prog 73 = some 19 := by kernel_rfl
@[simp] theorem ag_73 : aggT Tryz.prog 73 = some true := by kernel_rfl
@[simp] theorem fd_73_0 : fieldT Tryz.prog 73 0 = some (0, 1, false) := by kernel_rfl
@[simp] theorem fd_73_1 : fieldT Tryz.prog 73 1 = some (1, 1, false) := by kernel_rfl
@[simp] theorem fd_73_2 : fieldT Tryz.prog 73 2 = some (2, 4, true) := by kernel_rfl
@[simp] theorem fd_73_3 : fieldT Tryz.prog 73 3 = some (6, 4, true) := by kernel_rfl
@[simp] theorem fd_73_4 : fieldT Tryz.prog 73 4 = some (10, 4, true) := by kernel_rfl
@[simp] theorem fd_73_5 : fieldT Tryz.prog 73 5 = some (14, 4, true) := by kernel_rfl
@[simp] theorem fd_73_6 : fieldT Tryz.prog 73 6 = some (18, 1, false) := by kernel_rfl
@[simp] theorem pl_73 : placesT Tryz.prog 73 = some [(0, 1), (1, 1), (2, 4), (6, 4), (10, 4), (14, 4), (18, 1)] := by kernel_rfl
@[simp] theorem zt_73 : zeroT Tryz.prog 73 = some (.agg [.int .i64 0, .str ByteArray.empty, .int .i64 0, .int .i64 0, .str ByteArray.empty, .lst true 0 [], .int .i64 0, .int .i64 0, .str ByteArray.empty, .lst true 0 [], .int .i64 0, .int .i64 0, .str ByteArray.empty, .lst true 0 [], .int .i64 0, .int .i64 0, .str ByteArray.empty, .lst true 0 [], .lst true 0 []]) := by kernel_rfl
@[simp] theorem zr_73 : zeroE Tryz.prog 73 = some (.agg [.int .i64 0, .str ByteArray.empty, .int .i64 0, .int .i64 0, .str ByteArray.empty, .lst true 0 [], .int .i64 0, .int .i64 0, .str ByteArray.empty, .lst true 0 [], .int .i64 0, .int .i64 0, .str ByteArray.empty, .lst true 0 [], .int .i64 0, .int .i64 0, .str ByteArray.empty, .lst true 0 [], .lst true 0 []]) := by kernel_rfl
@[simp] theorem ld_74 : loadT Tryz.prog 74 = some (19, true) := by kernel_rfl
@[simp] theorem sz_74 : szT Tryz.prog 74 = some 19 := by kernel_rfl
@[simp] theorem ag_74 : aggT Tryz.prog 74 = some true := by kernel_rfl
@[simp] theorem fd_74_0 : fieldT Tryz.prog 74 0 = some (0, 1, false) := by kernel_rfl
@[simp] theorem fd_74_1 : fieldT Tryz.prog 74 1 = some (1, 1, false) := by kernel_rfl
@[simp] theorem fd_74_2 : fieldT Tryz.prog 74 2 = some (2, 4, true) := by kernel_rfl
@[simp] theorem fd_74_3 : fieldT Tryz.prog 74 3 = some (6, 4, true) := by kernel_rfl
@[simp] theorem fd_74_4 : fieldT Tryz.prog 74 4 = some (10, 4, true) := by kernel_rfl
@[simp] theorem fd_74_5 : fieldT Tryz.prog 74 5 = some (14, 4, true) := by kernel_rfl
@[simp] theorem fd_74_6 : fieldT Tryz.prog 74 6 = some (18, 1, false) := by kernel_rfl
@[simp] theorem pl_74 : placesT Tryz.prog 74 = some [(0, 1), (1, 1), (2, 4), (6, 4), (10, 4), (14, 4), (18, 1)] := by kernel_rfl
@[simp] theorem zt_74 : zeroT Tryz.prog 74 = some (.agg [.int .i64 0, .str ByteArray.empty, .int .i64 0, .int .i64 0, .str ByteArray.empty, .lst true 0 [], .int .i64 0, .int .i64 0, .str ByteArray.empty, .lst true 0 [], .int .i64 0, .int .i64 0, .str ByteArray.empty, .lst true 0 [], .int .i64 0, .int .i64 0, .str ByteArray.empty, .lst true 0 [], .lst true 0 []]) := by kernel_rfl
@[simp] theorem zr_74 : zeroE Tryz.prog 74 = some (.agg [.int .i64 0, .str ByteArray.empty, .int .i64 0, .int .i64 0, .str ByteArray.empty, .lst true 0 [], .int .i64 0, .int .i64 0, .str ByteArray.empty, .lst true 0 [], .int .i64 0, .int .i64 0, .str ByteArray.empty, .lst true 0 [], .int .i64 0, .int .i64 0, .str ByteArray.empty, .lst true 0 [], .lst true 0 []]) := by kernel_rfl
@[simp] theorem ld_75 : loadT Tryz.prog 75 = some (1, false) := by kernel_rfl
@[simp] theorem sz_75 : szT Tryz.prog 75 = some 1 := by kernel_rfl
@[simp] theorem ag_75 : aggT Tryz.prog 75 = some false := by kernel_rfl
@[simp] theorem ld_77 : loadT Tryz.prog 77 = some (2, true) := by kernel_rfl
@[simp] theorem sz_77 : szT Tryz.prog 77 = some 2 := by kernel_rfl
@[simp] theorem ag_77 : aggT Tryz.prog 77 = some true := by kernel_rfl
@[simp] theorem fd_77_0 : fieldT Tryz.prog 77 0 = some (0, 1, false) := by kernel_rfl
@[simp] theorem fd_77_1 : fieldT Tryz.prog 77 1 = some (1, 1, false) := by kernel_rfl
@[simp] theorem pl_77 : placesT Tryz.prog 77 = some [(0, 1), (1, 1)] := by kernel_rfl
@[simp] theorem zt_77 : zeroT Tryz.prog 77 = some (.agg [.int .i64 0, .lst true 0 []]) := by kernel_rfl
@[simp] theorem zr_77 : zeroE Tryz.prog 77 = some (.agg [.int .i64 0, .lst true 0 []]) := by kernel_rfl
@[simp] theorem ld_78 : loadT Tryz.prog 78 = some (2, true) := by kernel_rfl
@[simp] theorem sz_78 : szT Tryz.prog 78 = some 2 := by kernel_rfl
@[simp] theorem ag_78 : aggT Tryz.prog 78 = some true := by kernel_rfl
@[simp] theorem fd_78_0 : fieldT Tryz.prog 78 0 = some (0, 1, false) := by kernel_rfl
@[simp] theorem fd_78_1 : fieldT Tryz.prog 78 1 = some (1, 1, false) := by kernel_rfl
@[simp] theorem pl_78 : placesT Tryz.prog 78 = some [(0, 1), (1, 1)] := by kernel_rfl
@[simp] theorem zt_78 : zeroT Tryz.prog 78 = some (.agg [.int .i64 0, .lst true 0 []]) := by kernel_rfl
@[simp] theorem zr_78 : zeroE Tryz.prog 78 = some (.agg [.int .i64 0, .lst true 0 []]) := by kernel_rfl
@[simp] theorem ld_80 : loadT Tryz.prog 80 = some (1, false) := by kernel_rfl
@[simp] theorem sz_80 : szT Tryz.prog 80 = some 1 := by kernel_rfl
@[simp] theorem ag_80 : aggT Tryz.prog 80 = some false := by kernel_rfl
@[simp] theorem es_80 : esz Tryz.prog 80 = some 3 := by kernel_rfl
@[simp] theorem el_80 : elemT Tryz.prog 80 = some 88 := by kernel_rfl
@[simp] theorem un_80 : Tryz.prog.underlying 80 = some (.slice 88) := by kernel_rfl
@[simp] theorem ii_80 : isIntT Tryz.prog 80 = some false := by kernel_rfl
@[simp] theorem by_88 : bytesT Tryz.prog 88 = some 32 := by kernel_rfl
theorem et_80 : ElemT Tryz.prog 80 88 3 32 := ⟨by kernel_rfl, by kernel_rfl, by kernel_rfl, by kernel_rfl, ⟨.agg [.str ByteArray.empty, .int .i64 0, .int .i64 0], by kernel_rfl, by kernel_rfl⟩, by decide⟩
@[simp] theorem zt_80 : zeroT Tryz.prog 80 = some (.lst true 0 []) := by kernel_rfl
@[simp] theorem zr_80 : zeroE Tryz.prog 80 = some (.lst true 0 []) := by kernel_rfl
@[simp] theorem ld_81 : loadT Tryz.prog 81 = some (1, false) := by kernel_rfl
@[simp] theorem sz_81 : szT Tryz.prog 81 = some 1 := by kernel_rfl
@[simp] theorem ag_81 : aggT Tryz.prog 81 = some false := by kernel_rfl
@[simp] theorem ld_87 : loadT Tryz.prog 87 = some (3, true) := by kernel_rfl
@[simp] theorem sz_87 : szT Tryz.prog 87 = some 3 := by kernel_rfl
@[simp] theorem ag_87 : aggT Tryz.prog 87 = some true := by kernel_rfl
@[simp] theorem fd_87_0 : fieldT Tryz.prog 87 0 = some (0, 1, false) := by kernel_rfl
@[simp] theorem fd_87_1 : fieldT Tryz.prog 87 1 = some (1, 1, false) := by kernel_rfl
@[simp] theorem fd_87_2 : fieldT Tryz.prog 87 2 = some (2, 1, false) := by kernel_rfl
@[simp] theorem pl_87 : placesT Tryz.prog 87 = some [(0, 1), (1, 1), (2, 1)] := by kernel_rfl
@[simp] theorem zt_87 : zeroT Tryz.prog 87 = some (.agg [.str ByteArray.empty, .int .i64 0, .int .i64 0]) := by kernel_rfl
@[simp] theorem zr_87 : zeroE Tryz.prog 87 = some (.agg [.str ByteArray.empty, .int .i64 0, .int .i64 0]) := by kernel_rfl
@[simp] theorem ld_88 : loadT Tryz.prog 88 = some (3, true) := by kernel_rfl
@[simp] theorem sz_88 : szT Tryz.prog 88 = some 3 := by kernel_rfl
@[simp] theorem ag_88 : aggT Tryz.prog 88 = some true := by kernel_rfl
@[simp] theorem fd_88_0 : fieldT Tryz.prog 88 0 = some (0, 1, false) := by kernel_rfl
@[simp] theorem fd_88_1 : fieldT Tryz.prog 88 1 = some (1, 1, false) := by kernel_rfl
@[simp] theorem fd_88_2 : fieldT Tryz.prog 88 2 = some (2, 1, false) := by kernel_rfl
@[simp] theorem pl_88 : placesT Tryz.prog 88 = some [(0, 1), (1, 1), (2, 1)] := by kernel_rfl
@[simp] theorem zt_88 : zeroT Tryz.prog 88 = some (.agg [.str ByteArray.empty, .int .i64 0, .int .i64 0]) := by kernel_rfl
@[simp] theorem zr_88 : zeroE Tryz.prog 88 = some (.agg [.str ByteArray.empty, .int .i64 0, .int .i64 0]) := by kernel_rfl
@[simp] theorem ld_92 : loadT Tryz.prog 92 = some (1, false) := by kernel_rfl
@[simp] theorem sz_92 : szT Tryz.prog 92 = some 1 := by kernel_rfl
@[simp] theorem ag_92 : aggT Tryz.prog 92 = some false := by kernel_rfl
@[simp] theorem es_92 : esz Tryz.prog 92 = some 4 := by kernel_rfl
@[simp] theorem el_92 : elemT Tryz.prog 92 = some 204 := by kernel_rfl
@[simp] theorem un_92 : Tryz.prog.underlying 92 = some (.slice 204) := by kernel_rfl
@[simp] theorem ii_92 : isIntT Tryz.prog 92 = some false := by kernel_rfl
@[simp] theorem by_204 : bytesT Tryz.prog 204 = some 32 := by kernel_rfl
theorem et_92 : ElemT Tryz.prog 92 204 4 32 := ⟨by kernel_rfl, by kernel_rfl, by kernel_rfl, by kernel_rfl, ⟨.agg [.int .i64 0, .int .i64 0, .bool false, .int .i64 0], by kernel_rfl, by kernel_rfl⟩, by decide⟩
@[simp] theorem zt_92 : zeroT Tryz.prog 92 = some (.lst true 0 []) := by kernel_rfl
@[simp] theorem zr_92 : zeroE Tryz.prog 92 = some (.lst true 0 []) := by kernel_rfl
@[simp] theorem ld_93 : loadT Tryz.prog 93 = some (1, false) := by kernel_rfl
@[simp] theorem sz_93 : szT Tryz.prog 93 = some 1 := by kernel_rfl
@[simp] theorem ag_93 : aggT Tryz.prog 93 = some false := by kernel_rfl
@[simp] theorem ld_96 : loadT Tryz.prog 96 = some (1, false) := by kernel_rfl
@[simp] theorem sz_96 : szT Tryz.prog 96 = some 1 := by kernel_rfl
@[simp] theorem ag_96 : aggT Tryz.prog 96 = some false := by kernel_rfl
@[simp] theorem ld_98 : loadT Tryz.prog 98 = some (1, false) := by kernel_rfl
@[simp] theorem sz_98 : szT Tryz.prog 98 = some 1 := by kernel_rfl
@[simp] theorem ag_98 : aggT Tryz.prog 98 = some false := by kernel_rfl
@[simp] theorem ld_100 : loadT Tryz.prog 100 = some (1, false) := by kernel_rfl
@[simp] theorem sz_100 : szT Tryz.prog 100 = some 1 := by kernel_rfl
@[simp] theorem ag_100 : aggT Tryz.prog 100 = some false := by kernel_rfl
@[simp] theorem es_100 : esz Tryz.prog 100 = some 1 := by kernel_rfl
@[simp] theorem el_100 : elemT Tryz.prog 100 = some 214 := by kernel_rfl
@[simp] theorem un_100 : Tryz.prog.underlying 100 = some (.slice 214) := by kernel_rfl
@[simp] theorem ii_100 : isIntT Tryz.prog 100 = some false := by kernel_rfl
@[simp] theorem by_214 : bytesT Tryz.prog 214 = some 24 := by kernel_rfl
theorem et_100 : ElemT Tryz.prog 100 214 1 24 := ⟨by kernel_rfl, by kernel_rfl, by kernel_rfl, by kernel_rfl, ⟨.lst true 0 [], by kernel_rfl, by kernel_rfl⟩, by decide⟩
@[simp] theorem zt_100 : zeroT Tryz.prog 100 = some (.lst true 0 []) := by kernel_rfl
@[simp] theorem zr_100 : zeroE Tryz.prog 100 = some (.lst true 0 []) := by kernel_rfl
@[simp] theorem ld_101 : loadT Tryz.prog 101 = some (1, false) := by kernel_rfl
@[simp] theorem sz_101 : szT Tryz.prog 101 = some 1 := by kernel_rfl
@[simp] theorem ag_101 : aggT Tryz.prog 101 = some false := by kernel_rfl
@[simp] theorem es_101 : esz Tryz.prog 101 = some 6 := by kernel_rfl
@[simp] theorem el_101 : elemT Tryz.prog 101 = some 306 := by kernel_rfl
@[simp] theorem un_101 : Tryz.prog.underlying 101 = some (.slice 306) := by kernel_rfl
@[simp] theorem ii_101 : isIntT Tryz.prog 101 = some false := by kernel_rfl
@[simp] theorem by_306 : bytesT Tryz.prog 306 = some 88 := by kernel_rfl
theorem et_101 : ElemT Tryz.prog 101 306 6 88 := ⟨by kernel_rfl, by kernel_rfl, by kernel_rfl, by kernel_rfl, ⟨.agg [.int .i64 0, .lst true 0 [], .lst true 0 [], .lst true 0 [], .bool false, .bool false], by kernel_rfl, by kernel_rfl⟩, by decide⟩
@[simp] theorem zt_101 : zeroT Tryz.prog 101 = some (.lst true 0 []) := by kernel_rfl
@[simp] theorem zr_101 : zeroE Tryz.prog 101 = some (.lst true 0 []) := by kernel_rfl
@[simp] theorem ld_102 : loadT Tryz.prog 102 = some (4, true) := by kernel_rfl
@[simp] theorem sz_102 : szT Tryz.prog 102 = some 4 := by kernel_rfl
@[simp] theorem ag_102 : aggT Tryz.prog 102 = some true := by kernel_rfl
@[simp] theorem fd_102_0 : fieldT Tryz.prog 102 0 = some (0, 1, false) := by kernel_rfl
@[simp] theorem fd_102_1 : fieldT Tryz.prog 102 1 = some (1, 1, false) := by kernel_rfl
@[simp] theorem fd_102_2 : fieldT Tryz.prog 102 2 = some (2, 1, false) := by kernel_rfl
@[simp] theorem fd_102_3 : fieldT Tryz.prog 102 3 = some (3, 1, false) := by kernel_rfl
@[simp] theorem pl_102 : placesT Tryz.prog 102 = some [(0, 1), (1, 1), (2, 1), (3, 1)] := by kernel_rfl
@[simp] theorem zt_102 : zeroT Tryz.prog 102 = some (.agg [.lst true 0 [], .lst true 0 [], .lst true 0 [], .bool false]) := by kernel_rfl
@[simp] theorem zr_102 : zeroE Tryz.prog 102 = some (.agg [.lst true 0 [], .lst true 0 [], .lst true 0 [], .bool false]) := by kernel_rfl
@[simp] theorem ld_103 : loadT Tryz.prog 103 = some (4, true) := by kernel_rfl
@[simp] theorem sz_103 : szT Tryz.prog 103 = some 4 := by kernel_rfl
@[simp] theorem ag_103 : aggT Tryz.prog 103 = some true := by kernel_rfl
@[simp] theorem fd_103_0 : fieldT Tryz.prog 103 0 = some (0, 1, false) := by kernel_rfl
@[simp] theorem fd_103_1 : fieldT Tryz.prog 103 1 = some (1, 1, false) := by kernel_rfl
@[simp] theorem fd_103_2 : fieldT Tryz.prog 103 2 = some (2, 1, false) := by kernel_rfl
@[simp] theorem fd_103_3 : fieldT Tryz.prog 103 3 = some (3, 1, false) := by kernel_rfl
@[simp] theorem pl_103 : placesT Tryz.prog 103 = some [(0, 1), (1, 1), (2, 1), (3, 1)] := by kernel_rfl
@[simp] theorem zt_103 : zeroT Tryz.prog 103 = some (.agg [.lst true 0 [], .lst true 0 [], .lst true 0 [], .bool false]) := by kernel_rfl
@[simp] theorem zr_103 : zeroE Tryz.prog 103 = some (.agg [.lst true 0 [], .lst true 0 [], .lst true 0 [], .bool false]) := by kernel_rfl
@[simp] theorem ld_106 : loadT Tryz.prog 106 = some (1, false) := by kernel_rfl
@[simp] theorem sz_106 : szT Tryz.prog 106 = some 1 := by kernel_rfl
@[simp] theorem ag_106 : aggT Tryz.prog 106 = some false := by kernel_rfl
@[simp] theorem es_106 : esz Tryz.prog 106 = some 6 := by kernel_rfl
@[simp] theorem el_106 : elemT Tryz.prog 106 = some 124 := by kernel_rfl
@[simp] theorem un_106 : Tryz.prog.underlying 106 = some (.slice 124) := by kernel_rfl
@[simp] theorem ii_106 : isIntT Tryz.prog 106 = some false := by kernel_rfl
@[simp] theorem by_124 : bytesT Tryz.prog 124 = some 88 := by kernel_rfl
theorem et_106 : ElemT Tryz.prog 106 124 6 88 := ⟨by kernel_rfl, by kernel_rfl, by kernel_rfl, by kernel_rfl, ⟨.agg [.int .i64 0, .lst true 0 [], .lst true 0 [], .lst true 0 [], .bool false, .bool false], by kernel_rfl, by kernel_rfl⟩, by decide⟩
@[simp] theorem zt_106 : zeroT Tryz.prog 106 = some (.lst true 0 []) := by kernel_rfl
@[simp] theorem zr_106 : zeroE Tryz.prog 106 = some (.lst true 0 []) := by kernel_rfl
@[simp] theorem ld_107 : loadT Tryz.prog 107 = some (4, true) := by kernel_rfl
@[simp] theorem sz_107 : szT Tryz.prog 107 = some 4 := by kernel_rfl
@[simp] theorem ag_107 : aggT Tryz.prog 107 = some true := by kernel_rfl
@[simp] theorem fd_107_0 : fieldT Tryz.prog 107 0 = some (0, 1, false) := by kernel_rfl
@[simp] theorem fd_107_1 : fieldT Tryz.prog 107 1 = some (1, 1, false) := by kernel_rfl
@[simp] theorem fd_107_2 : fieldT Tryz.prog 107 2 = some (2, 1, false) := by kernel_rfl
@[simp] theorem fd_107_3 : fieldT Tryz.prog 107 3 = some (3, 1, false) := by kernel_rfl
@[simp] theorem pl_107 : placesT Tryz.prog 107 = some [(0, 1), (1, 1), (2, 1), (3, 1)] := by kernel_rfl
@[simp] theorem zt_107 : zeroT Tryz.prog 107 = some (.agg [.lst true 0 [], .lst true 0 [], .lst true 0 [], .bool false]) := by kernel_rfl
@[simp] theorem zr_107 : zeroE Tryz.prog 107 = some (.agg [.lst true 0 [], .lst true 0 [], .lst true 0 [], .bool false]) := by kernel_rfl
@[simp] theorem ld_108 : loadT Tryz.prog 108 = some (4, true) := by kernel_rfl
@[simp] theorem sz_108 : szT Tryz.prog 108 = some 4 := by kernel_rfl
@[simp] theorem ag_108 : aggT Tryz.prog 108 = some true := by kernel_rfl
@[simp] theorem fd_108_0 : fieldT Tryz.prog 108 0 = some (0, 1, false) := by kernel_rfl
@[simp] theorem fd_108_1 : fieldT Tryz.prog 108 1 = some (1, 1, false) := by kernel_rfl
@[simp] theorem fd_108_2 : fieldT Tryz.prog 108 2 = some (2, 1, false) := by kernel_rfl
@[simp] theorem fd_108_3 : fieldT Tryz.prog 108 3 = some (3, 1, false) := by kernel_rfl
@[simp] theorem pl_108 : placesT Tryz.prog 108 = some [(0, 1), (1, 1), (2, 1), (3, 1)] := by kernel_rfl
@[simp] theorem zt_108 : zeroT Tryz.prog 108 = some (.agg [.lst true 0 [], .lst true 0 [], .lst true 0 [], .bool false]) := by kernel_rfl
@[simp] theorem zr_108 : zeroE Tryz.prog 108 = some (.agg [.lst true 0 [], .lst true 0 [], .lst true 0 [], .bool false]) := by kernel_rfl
@[simp] theorem ld_109 : loadT Tryz.prog 109 = some (1, false) := by kernel_rfl
@[simp] theorem sz_109 : szT Tryz.prog 109 = some 1 := by kernel_rfl
@[simp] theorem ag_109 : aggT Tryz.prog 109 = some false := by kernel_rfl
@[simp] theorem ld_111 : loadT Tryz.prog 111 = some (1, false) := by kernel_rfl
@[simp] theorem sz_111 : szT Tryz.prog 111 = some 1 := by kernel_rfl
@[simp] theorem ag_111 : aggT Tryz.prog 111 = some false := by kernel_rfl
@[simp] theorem es_111 : esz Tryz.prog 111 = some 1 := by kernel_rfl
@[simp] theorem el_111 : elemT Tryz.prog 111 = some 33 := by kernel_rfl
@[simp] theorem un_111 : Tryz.prog.underlying 111 = some (.slice 33) := by kernel_rfl
@[simp] theorem ii_111 : isIntT Tryz.prog 111 = some false := by kernel_rfl
@[simp] theorem by_33 : bytesT Tryz.prog 33 = some 24 := by kernel_rfl
theorem et_111 : ElemT Tryz.prog 111 33 1 24 := ⟨by kernel_rfl, by kernel_rfl, by kernel_rfl, by kernel_rfl, ⟨.lst true 0 [], by kernel_rfl, by kernel_rfl⟩, by decide⟩
@[simp] theorem zt_111 : zeroT Tryz.prog 111 = some (.lst true 0 []) := by kernel_rfl
@[simp] theorem zr_111 : zeroE Tryz.prog 111 = some (.lst true 0 []) := by kernel_rfl
@[simp] theorem ld_119 : loadT Tryz.prog 119 = some (1, false) := by kernel_rfl
@[simp] theorem sz_119 : szT Tryz.prog 119 = some 1 := by kernel_rfl
@[simp] theorem ag_119 : aggT Tryz.prog 119 = some false := by kernel_rfl
@[simp] theorem ld_122 : loadT Tryz.prog 122 = some (1, false) := by kernel_rfl
@[simp] theorem sz_122 : szT Tryz.prog 122 = some 1 := by kernel_rfl
@[simp] theorem ag_122 : aggT Tryz.prog 122 = some false := by kernel_rfl
@[simp] theorem es_122 : esz Tryz.prog 122 = some 2 := by kernel_rfl
@[simp] theorem el_122 : elemT Tryz.prog 122 = some 126 := by kernel_rfl
@[simp] theorem un_122 : Tryz.prog.underlying 122 = some (.slice 126) := by kernel_rfl
@[simp] theorem ii_122 : isIntT Tryz.prog 122 = some false := by kernel_rfl
@[simp] theorem by_126 : bytesT Tryz.prog 126 = some 16 := by kernel_rfl
theorem et_122 : ElemT Tryz.prog 122 126 2 16 := ⟨by kernel_rfl, by kernel_rfl, by kernel_rfl, by kernel_rfl, ⟨.agg [.int .i64 0, .int .i64 0], by kernel_rfl, by kernel_rfl⟩, by decide⟩
@[simp] theorem zt_122 : zeroT Tryz.prog 122 = some (.lst true 0 []) := by kernel_rfl
@[simp] theorem zr_122 : zeroE Tryz.prog 122 = some (.lst true 0 []) := by kernel_rfl
@[simp] theorem ld_123 : loadT Tryz.prog 123 = some (6, true) := by kernel_rfl
@[simp] theorem sz_123 : szT Tryz.prog 123 = some 6 := by kernel_rfl
@[simp] theorem ag_123 : aggT Tryz.prog 123 = some true := by kernel_rfl
@[simp] theorem fd_123_0 : fieldT Tryz.prog 123 0 = some (0, 1, false) := by kernel_rfl
@[simp] theorem fd_123_1 : fieldT Tryz.prog 123 1 = some (1, 1, false) := by kernel_rfl
@[simp] theorem fd_123_2 : fieldT Tryz.prog 123 2 = some (2, 1, false) := by kernel_rfl
@[simp] theorem fd_123_3 : fieldT Tryz.prog 123 3 = some (3, 1, false) := by kernel_rfl
@[simp] theorem fd_123_4 : fieldT Tryz.prog 123 4 = some (4, 1, false) := by kernel_rfl
@[simp] theorem fd_123_5 : fieldT Tryz.prog 123 5 = some (5, 1, false) := by kernel_rfl
@[simp] theorem pl_123 : placesT Tryz.prog 123 = some [(0, 1), (1, 1), (2, 1), (3, 1), (4, 1), (5, 1)] := by kernel_rfl
@[simp] theorem zt_123 : zeroT Tryz.prog 123 = some (.agg [.int .i64 0, .lst true 0 [], .lst true 0 [], .lst true 0 [], .bool false, .bool false]) := by kernel_rfl
@[simp] theorem zr_123 : zeroE Tryz.prog 123 = some (.agg [.int .i64 0, .lst true 0 [], .lst true 0 [], .lst true 0 [], .bool false, .bool false]) := by kernel_rfl
@[simp] theorem ld_124 : loadT Tryz.prog 124 = some (6, true) := by kernel_rfl
@[simp] theorem sz_124 : szT Tryz.prog 124 = some 6 := by kernel_rfl
@[simp] theorem ag_124 : aggT Tryz.prog 124 = some true := by kernel_rfl
@[simp] theorem fd_124_0 : fieldT Tryz.prog 124 0 = some (0, 1, false) := by kernel_rfl
@[simp] theorem fd_124_1 : fieldT Tryz.prog 124 1 = some (1, 1, false) := by kernel_rfl
@[simp] theorem fd_124_2 : fieldT Tryz.prog 124 2 = some (2, 1, false) := by kernel_rfl
@[simp] theorem fd_124_3 : fieldT Tryz.prog 124 3 = some (3, 1, false) := by kernel_rfl
@[simp] theorem fd_124_4 : fieldT Tryz.prog 124 4 = some (4, 1, false) := by kernel_rfl
@[simp] theorem fd_124_5 : fieldT Tryz.prog 124 5 = some (5, 1, false) := by kernel_rfl
@[simp] theorem pl_124 : placesT Tryz.prog 124 = some [(0, 1), (1, 1), (2, 1), (3, 1), (4, 1), (5, 1)] := by kernel_rfl
@[simp] theorem zt_124 : zeroT Tryz.prog 124 = some (.agg [.int .i64 0, .lst true 0 [], .lst true 0 [], .lst true 0 [], .bool false, .bool false]) := by kernel_rfl
@[simp] theorem zr_124 : zeroE Tryz.prog 124 = some (.agg [.int .i64 0, .lst true 0 [], .lst true 0 [], .lst true 0 [], .bool false, .bool false]) := by kernel_rfl
@[simp] theorem ld_125 : loadT Tryz.prog 125 = some (2, true) := by kernel_rfl
@[simp] theorem sz_125 : szT Tryz.prog 125 = some 2 := by kernel_rfl
@[simp] theorem ag_125 : aggT Tryz.prog 125 = some true := by kernel_rfl
@[simp] theorem fd_125_0 : fieldT Tryz.prog 125 0 = some (0, 1, false) := by kernel_rfl
@[simp] theorem fd_125_1 : fieldT Tryz.prog 125 1 = some (1, 1, false) := by kernel_rfl
@[simp] theorem pl_125 : placesT Tryz.prog 125 = some [(0, 1), (1, 1)] := by kernel_rfl
@[simp] theorem zt_125 : zeroT Tryz.prog 125 = some (.agg [.int .i64 0, .int .i64 0]) := by kernel_rfl
@[simp] theorem zr_125 : zeroE Tryz.prog 125 = some (.agg [.int .i64 0, .int .i64 0]) := by kernel_rfl
@[simp] theorem ld_126 : loadT Tryz.prog 126 = some (2, true) := by kernel_rfl
@[simp] theorem sz_126 : szT Tryz.prog 126 = some 2 := by kernel_rfl
@[simp] theorem ag_126 : aggT Tryz.prog 126 = some true := by kernel_rfl
@[simp] theorem fd_126_0 : fieldT Tryz.prog 126 0 = some (0, 1, false) := by kernel_rfl
@[simp] theorem fd_126_1 : fieldT Tryz.prog 126 1 = some (1, 1, false) := by kernel_rfl
@[simp] theorem pl_126 : placesT Tryz.prog 126 = some [(0, 1), (1, 1)] := by kernel_rfl
@[simp] theorem zt_126 : zeroT Tryz.prog 126 = some (.agg [.int .i64 0, .int .i64 0]) := by kernel_rfl
@[simp] theorem zr_126 : zeroE Tryz.prog 126 = some (.agg [.int .i64 0, .int .i64 0]) := by kernel_rfl
@[simp] theorem ld_134 : loadT Tryz.prog 134 = some (1, false) := by kernel_rfl
@[simp] theorem sz_134 : szT Tryz.prog 134 = some 1 := by kernel_rfl
@[simp] theorem ag_134 : aggT Tryz.prog 134 = some false := by kernel_rfl
@[simp] theorem un_134 : Tryz.prog.underlying 134 = some (.pointer 138) := by kernel_rfl
@[simp] theorem zt_134 : zeroT Tryz.prog 134 = some (.nilp) := by kernel_rfl
@[simp] theorem zr_134 : zeroE Tryz.prog 134 = some (.nilp) := by kernel_rfl
@[simp] theorem ld_137 : loadT Tryz.prog 137 = some (9, true) := by kernel_rfl
@[simp] theorem sz_137 : szT Tryz.prog 137 = some 9 := by kernel_rfl
@[simp] theorem ag_137 : aggT Tryz.prog 137 = some true := by kernel_rfl
@[simp] theorem fd_137_0 : fieldT Tryz.prog 137 0 = some (0, 2, true) := by kernel_rfl
@[simp] theorem fd_137_1 : fieldT Tryz.prog 137 1 = some (2, 1, false) := by kernel_rfl
@[simp] theorem fd_137_2 : fieldT Tryz.prog 137 2 = some (3, 1, false) := by kernel_rfl
@[simp] theorem fd_137_3 : fieldT Tryz.prog 137 3 = some (4, 1, false) := by kernel_rfl
@[simp] theorem fd_137_4 : fieldT Tryz.prog 137 4 = some (5, 1, false) := by kernel_rfl
@[simp] theorem fd_137_5 : fieldT Tryz.prog 137 5 = some (6, 1, false) := by kernel_rfl
@[simp] theorem fd_137_6 : fieldT Tryz.prog 137 6 = some (7, 1, false) := by kernel_rfl
@[simp] theorem fd_137_7 : fieldT Tryz.prog 137 7 = some (8, 1, false) := by kernel_rfl
@[simp] theorem pl_137 : placesT Tryz.prog 137 = some [(0, 2), (2, 1), (3, 1), (4, 1), (5, 1), (6, 1), (7, 1), (8, 1)] := by kernel_rfl
@[simp] theorem zt_137 : zeroT Tryz.prog 137 = some (.agg [.lst true 0 [], .lst true 0 [], .lst true 0 [], .int .i64 0, .bool false, .lst true 0 [], .lst true 0 [], .int .i64 0, .lst true 0 []]) := by kernel_rfl
@[simp] theorem zr_137 : zeroE Tryz.prog 137 = some (.agg [.lst true 0 [], .lst true 0 [], .lst true 0 [], .int .i64 0, .bool false, .lst true 0 [], .lst true 0 [], .int .i64 0, .lst true 0 []]) := by kernel_rfl
@[simp] theorem ld_138 : loadT Tryz.prog 138 = some (9, true) := by kernel_rfl
@[simp] theorem sz_138 : szT Tryz.prog 138 = some 9 := by kernel_rfl
@[simp] theorem ag_138 : aggT Tryz.prog 138 = some true := by kernel_rfl
@[simp] theorem fd_138_0 : fieldT Tryz.prog 138 0 = some (0, 2, true) := by kernel_rfl
@[simp] theorem fd_138_1 : fieldT Tryz.prog 138 1 = some (2, 1, false) := by kernel_rfl
@[simp] theorem fd_138_2 : fieldT Tryz.prog 138 2 = some (3, 1, false) := by kernel_rfl
@[simp] theorem fd_138_3 : fieldT Tryz.prog 138 3 = some (4, 1, false) := by kernel_rfl
@[simp] theorem fd_138_4 : fieldT Tryz.prog 138 4 = some (5, 1, false) := by kernel_rfl
@[simp] theorem fd_138_5 : fieldT Tryz.prog 138 5 = some (6, 1, false) := by kernel_rfl
@[simp] theorem fd_138_6 : fieldT Tryz.prog 138 6 = some (7, 1, false) := by kernel_rfl
@[simp] theorem fd_138_7 : fieldT Tryz.prog 138 7 = some (8, 1, false) := by kernel_rfl
@[simp] theorem pl_138 : placesT Tryz.prog 138 = some [(0, 2), (2, 1), (3, 1), (4, 1), (5, 1), (6, 1), (7, 1), (8, 1)] := by kernel_rfl
@[simp] theorem zt_138 : zeroT Tryz.prog 138 = some (.agg [.lst true 0 [], .lst true 0 [], .lst true 0 [], .int .i64 0, .bool false, .lst true 0 [], .lst true 0 [], .int .i64 0, .lst true 0 []]) := by kernel_rfl
@[simp] theorem zr_138 : zeroE Tryz.prog 138 = some (.agg [.lst true 0 [], .lst true 0 [], .lst true 0 [], .int .i64 0, .bool false, .lst true 0 [], .lst true 0 [], .int .i64 0, .lst true 0 []]) := by kernel_rfl
@[simp] theorem ld_142 : loadT Tryz.prog 142 = some (1, false) := by kernel_rfl
@[simp] theorem sz_142 : szT Tryz.prog 142 = some 1 := by kernel_rfl
@[simp] theorem ag_142 : aggT Tryz.prog 142 = some false := by kernel_rfl
@[simp] theorem un_142 : Tryz.prog.underlying 142 = some (.pointer 252) := by kernel_rfl
@[simp] theorem zt_142 : zeroT Tryz.prog 142 = some (.nilp) := by kernel_rfl
@[simp] theorem zr_142 : zeroE Tryz.prog 142 = some (.nilp) := by kernel_rfl
@[simp] theorem ld_147 : loadT Tryz.prog 147 = some (3, true) := by kernel_rfl
@[simp] theorem sz_147 : szT Tryz.prog 147 = some 3 := by kernel_rfl
@[simp] theorem ag_147 : aggT Tryz.prog 147 = some true := by kernel_rfl
@[simp] theorem fd_147_0 : fieldT Tryz.prog 147 0 = some (0, 1, false) := by kernel_rfl
@[simp] theorem fd_147_1 : fieldT Tryz.prog 147 1 = some (1, 1, false) := by kernel_rfl
@[simp] theorem fd_147_2 : fieldT Tryz.prog 147 2 = some (2, 1, false) := by kernel_rfl
@[simp] theorem pl_147 : placesT Tryz.prog 147 = some [(0, 1), (1, 1), (2, 1)] := by kernel_rfl
@[simp] theorem zt_147 : zeroT Tryz.prog 147 = some (.agg [.int .i64 0, .int .i64 0, .int .i64 0]) := by kernel_rfl
@[simp] theorem zr_147 : zeroE Tryz.prog 147 = some (.agg [.int .i64 0, .int .i64 0, .int .i64 0]) := by kernel_rfl
@[simp] theorem ld_148 : loadT Tryz.prog 148 = some (3, true) := by kernel_rfl
@[simp] theorem sz_148 : szT Tryz.prog 148 = some 3 := by kernel_rfl
@[simp] theorem ag_148 : aggT Tryz.prog 148 = some true := by kernel_rfl
@[simp] theorem fd_148_0 : fieldT Tryz.prog 148 0 = some (0, 1, false) := by kernel_rfl
@[simp] theorem fd_148_1 : fieldT Tryz.prog 148 1 = some (1, 1, false) := by kernel_rfl
@[simp] theorem fd_148_2 : fieldT Tryz.prog 148 2 = some (2, 1, false) := by kernel_rfl
@[simp] theorem pl_148 : placesT Tryz.prog 148 = some [(0, 1), (1, 1), (2, 1)] := by kernel_rfl
@[simp] theorem zt_148 : zeroT Tryz.prog 148 = some (.agg [.int .i64 0, .int .i64 0, .int .i64 0]) := by kernel_rfl
@[simp] theorem zr_148 : zeroE Tryz.prog 148 = some (.agg [.int .i64 0, .int .i64 0, .int .i64 0]) := by kernel_rfl
@[simp] theorem ld_157 : loadT Tryz.prog 157 = some (1, false) := by kernel_rfl
@[simp] theorem sz_157 : szT Tryz.prog 157 = some 1 := by kernel_rfl
@[simp] theorem ag_157 : aggT Tryz.prog 157 = some false := by kernel_rfl
@[simp] theorem un_157 : Tryz.prog.underlying 157 = some (.pointer 161) := by kernel_rfl
@[simp] theorem zt_157 : zeroT Tryz.prog 157 = some (.nilp) := by kernel_rfl
@[simp] theorem zr_157 : zeroE Tryz.prog 157 = some (.nilp) := by kernel_rfl
@[simp] theorem ld_159 : loadT Tryz.prog 159 = some (1, false) := by kernel_rfl
@[simp] theorem sz_159 : szT Tryz.prog 159 = some 1 := by kernel_rfl
@[simp] theorem ag_159 : aggT Tryz.prog 159 = some false := by kernel_rfl
@[simp] theorem es_159 : esz Tryz.prog 159 = some 2 := by kernel_rfl
@[simp] theorem el_159 : elemT Tryz.prog 159 = some 340 := by kernel_rfl
@[simp] theorem un_159 : Tryz.prog.underlying 159 = some (.slice 340) := by kernel_rfl
@[simp] theorem ii_159 : isIntT Tryz.prog 159 = some false := by kernel_rfl
@[simp] theorem by_340 : bytesT Tryz.prog 340 = some 24 := by kernel_rfl
theorem et_159 : ElemT Tryz.prog 159 340 2 24 := ⟨by kernel_rfl, by kernel_rfl, by kernel_rfl, by kernel_rfl, ⟨.agg [.str ByteArray.empty, .int .i64 0], by kernel_rfl, by kernel_rfl⟩, by decide⟩
@[simp] theorem zt_159 : zeroT Tryz.prog 159 = some (.lst true 0 []) := by kernel_rfl
@[simp] theorem zr_159 : zeroE Tryz.prog 159 = some (.lst true 0 []) := by kernel_rfl
@[simp] theorem ld_160 : loadT Tryz.prog 160 = some (9, true) := by kernel_rfl
@[simp] theorem sz_160 : szT Tryz.prog 160 = some 9 := by kernel_rfl
@[simp] theorem ag_160 : aggT Tryz.prog 160 = some true := by kernel_rfl
@[simp] theorem fd_160_0 : fieldT Tryz.prog 160 0 = some (0, 2, true) := by kernel_rfl
@[simp] theorem fd_160_1 : fieldT Tryz.prog 160 1 = some (2, 1, false) := by kernel_rfl
@[simp] theorem fd_160_2 : fieldT Tryz.prog 160 2 = some (3, 4, true) := by kernel_rfl
@[simp] theorem fd_160_3 : fieldT Tryz.prog 160 3 = some (7, 1, false) := by kernel_rfl
@[simp] theorem fd_160_4 : fieldT Tryz.prog 160 4 = some (8, 1, false) := by kernel_rfl
@[simp] theorem pl_160 : placesT Tryz.prog 160 = some [(0, 2), (2, 1), (3, 4), (7, 1), (8, 1)] := by kernel_rfl
@[simp] theorem zt_160 : zeroT Tryz.prog 160 = some (.agg [.lst true 0 [], .lst true 0 [], .lst true 0 [], .lst true 0 [], .lst true 0 [], .lst true 0 [], .int .i64 0, .lst true 0 [], .int .i64 0]) := by kernel_rfl
@[simp] theorem zr_160 : zeroE Tryz.prog 160 = some (.agg [.lst true 0 [], .lst true 0 [], .lst true 0 [], .lst true 0 [], .lst true 0 [], .lst true 0 [], .int .i64 0, .lst true 0 [], .int .i64 0]) := by kernel_rfl
@[simp] theorem ld_161 : loadT Tryz.prog 161 = some (9, true) := by kernel_rfl
@[simp] theorem sz_161 : szT Tryz.prog 161 = some 9 := by kernel_rfl
@[simp] theorem ag_161 : aggT Tryz.prog 161 = some true := by kernel_rfl
@[simp] theorem fd_161_0 : fieldT Tryz.prog 161 0 = some (0, 2, true) := by kernel_rfl
@[simp] theorem fd_161_1 : fieldT Tryz.prog 161 1 = some (2, 1, false) := by kernel_rfl
@[simp] theorem fd_161_2 : fieldT Tryz.prog 161 2 = some (3, 4, true) := by kernel_rfl
@[simp] theorem fd_161_3 : fieldT Tryz.prog 161 3 = some (7, 1, false) := by kernel_rfl
@[simp] theorem fd_161_4 : fieldT Tryz.prog 161 4 = some (8, 1, false) := by kernel_rfl
@[simp] theorem pl_161 : placesT Tryz.prog 161 = some [(0, 2), (2, 1), (3, 4), (7, 1), (8, 1)] := by kernel_rfl
@[simp] theorem zt_161 : zeroT Tryz.prog 161 = some (.agg [.lst true 0 [], .lst true 0 [], .lst true 0 [], .lst true 0 [], .lst true 0 [], .lst true 0 [], .int .i64 0, .lst true 0 [], .int .i64 0]) := by kernel_rfl
@[simp] theorem zr_161 : zeroE Tryz.prog 161 = some (.agg [.lst true 0 [], .lst true 0 [], .lst true 0 [], .lst true 0 [], .lst true 0 [], .lst true 0 [], .int .i64 0, .lst true 0 [], .int .i64 0]) := by kernel_rfl
@[simp] theorem ld_163 : loadT Tryz.prog 163 = some (9, true) := by kernel_rfl
@[simp] theorem sz_163 : szT Tryz.prog 163 = some 9 := by kernel_rfl
@[simp] theorem ag_163 : aggT Tryz.prog 163 = some true := by kernel_rfl
@[simp] theorem fd_163_0 : fieldT Tryz.prog 163 0 = some (0, 2, true) := by kernel_rfl
@[simp] theorem fd_163_1 : fieldT Tryz.prog 163 1 = some (2, 1, false) := by kernel_rfl
@[simp] theorem fd_163_2 : fieldT Tryz.prog 163 2 = some (3, 4, true) := by kernel_rfl
@[simp] theorem fd_163_3 : fieldT Tryz.prog 163 3 = some (7, 1, false) := by kernel_rfl
@[simp] theorem fd_163_4 : fieldT Tryz.prog 163 4 = some (8, 1, false) := by kernel_rfl
@[simp] theorem pl_163 : placesT Tryz.prog 163 = some [(0, 2), (2, 1), (3, 4), (7, 1), (8, 1)] := by kernel_rfl
@[simp] theorem zt_163 : zeroT Tryz.prog 163 = some (.agg [.lst true 0 [], .lst true 0 [], .lst true 0 [], .lst true 0 [], .lst true 0 [], .lst true 0 [], .int .i64 0, .int .i64 0, .lst true 0 []]) := by kernel_rfl
@[simp] theorem zr_163 : zeroE Tryz.prog 163 = some (.agg [.lst true 0 [], .lst true 0 [], .lst true 0 [], .lst true 0 [], .lst true 0 [], .lst true 0 [], .int .i64 0, .int .i64 0, .lst true 0 []]) := by kernel_rfl
@[simp] theorem ld_164 : loadT Tryz.prog 164 = some (9, true) := by kernel_rfl
@[simp] theorem sz_164 : szT Tryz.prog 164 = some 9 := by kernel_rfl
@[simp] theorem ag_164 : aggT Tryz.prog 164 = some true := by kernel_rfl
@[simp] theorem fd_164_0 : fieldT Tryz.prog 164 0 = some (0, 2, true) := by kernel_rfl
@[simp] theorem fd_164_1 : fieldT Tryz.prog 164 1 = some (2, 1, false) := by kernel_rfl
@[simp] theorem fd_164_2 : fieldT Tryz.prog 164 2 = some (3, 4, true) := by kernel_rfl
@[simp] theorem fd_164_3 : fieldT Tryz.prog 164 3 = some (7, 1, false) := by kernel_rfl
@[simp] theorem fd_164_4 : fieldT Tryz.prog 164 4 = some (8, 1, false) := by kernel_rfl
@[simp] theorem pl_164 : placesT Tryz.prog 164 = some [(0, 2), (2, 1), (3, 4), (7, 1), (8, 1)] := by kernel_rfl
@[simp] theorem zt_164 : zeroT Tryz.prog 164 = some (.agg [.lst true 0 [], .lst true 0 [], .lst true 0 [], .lst true 0 [], .lst true 0 [], .lst true 0 [], .int .i64 0, .int .i64 0, .lst true 0 []]) := by kernel_rfl
@[simp] theorem zr_164 : zeroE Tryz.prog 164 = some (.agg [.lst true 0 [], .lst true 0 [], .lst true 0 [], .lst true 0 [], .lst true 0 [], .lst true 0 [], .int .i64 0, .int .i64 0, .lst true 0 []]) := by kernel_rfl
@[simp] theorem ld_168 : loadT Tryz.prog 168 = some (1, false) := by kernel_rfl
@[simp] theorem sz_168 : szT Tryz.prog 168 = some 1 := by kernel_rfl
@[simp] theorem ag_168 : aggT Tryz.prog 168 = some false := by kernel_rfl
@[simp] theorem un_168 : Tryz.prog.underlying 168 = some (.pointer 261) := by kernel_rfl
@[simp] theorem zt_168 : zeroT Tryz.prog 168 = some (.nilp) := by kernel_rfl
@[simp] theorem zr_168 : zeroE Tryz.prog 168 = some (.nilp) := by kernel_rfl
@[simp] theorem ld_176 : loadT Tryz.prog 176 = some (1, false) := by kernel_rfl
@[simp] theorem sz_176 : szT Tryz.prog 176 = some 1 := by kernel_rfl
@[simp] theorem ag_176 : aggT Tryz.prog 176 = some false := by kernel_rfl
@[simp] theorem ld_186 : loadT Tryz.prog 186 = some (1, false) := by kernel_rfl
@[simp] theorem sz_186 : szT Tryz.prog 186 = some 1 := by kernel_rfl
@[simp] theorem ag_186 : aggT Tryz.prog 186 = some false := by kernel_rfl
@[simp] theorem es_186 : esz Tryz.prog 186 = some 5 := by kernel_rfl
@[simp] theorem el_186 : elemT Tryz.prog 186 = some 193 := by kernel_rfl
@[simp] theorem un_186 : Tryz.prog.underlying 186 = some (.slice 193) := by kernel_rfl
@[simp] theorem ii_186 : isIntT Tryz.prog 186 = some false := by kernel_rfl
@[simp] theorem by_193 : bytesT Tryz.prog 193 = some 64 := by kernel_rfl
theorem et_186 : ElemT Tryz.prog 186 193 5 64 := ⟨by kernel_rfl, by kernel_rfl, by kernel_rfl, by kernel_rfl, ⟨.agg [.str ByteArray.empty, .int .i64 0, .lst true 0 [], .bool false, .int .i64 0], by kernel_rfl, by kernel_rfl⟩, by decide⟩
@[simp] theorem zt_186 : zeroT Tryz.prog 186 = some (.lst true 0 []) := by kernel_rfl
@[simp] theorem zr_186 : zeroE Tryz.prog 186 = some (.lst true 0 []) := by kernel_rfl
@[simp] theorem ld_187 : loadT Tryz.prog 187 = some (1, false) := by kernel_rfl
@[simp] theorem sz_187 : szT Tryz.prog 187 = some 1 := by kernel_rfl
@[simp] theorem ag_187 : aggT Tryz.prog 187 = some false := by kernel_rfl
@[simp] theorem ld_189 : loadT Tryz.prog 189 = some (1, false) := by kernel_rfl
@[simp] theorem sz_189 : szT Tryz.prog 189 = some 1 := by kernel_rfl
@[simp] theorem ag_189 : aggT Tryz.prog 189 = some false := by kernel_rfl
@[simp] theorem es_189 : esz Tryz.prog 189 = some 2 := by kernel_rfl
@[simp] theorem el_189 : elemT Tryz.prog 189 = some 372 := by kernel_rfl
@[simp] theorem un_189 : Tryz.prog.underlying 189 = some (.slice 372) := by kernel_rfl
@[simp] theorem ii_189 : isIntT Tryz.prog 189 = some false := by kernel_rfl
@[simp] theorem by_372 : bytesT Tryz.prog 372 = some 24 := by kernel_rfl
theorem et_189 : ElemT Tryz.prog 189 372 2 24 := ⟨by kernel_rfl, by kernel_rfl, by kernel_rfl, by kernel_rfl, ⟨.agg [.str ByteArray.empty, .int .i64 0], by kernel_rfl, by kernel_rfl⟩, by decide⟩
@[simp] theorem zt_189 : zeroT Tryz.prog 189 = some (.lst true 0 []) := by kernel_rfl
@[simp] theorem zr_189 : zeroE Tryz.prog 189 = some (.lst true 0 []) := by kernel_rfl
@[simp] theorem ld_190 : loadT Tryz.prog 190 = some (2, true) := by kernel_rfl
@[simp] theorem sz_190 : szT Tryz.prog 190 = some 2 := by kernel_rfl
@[simp] theorem ag_190 : aggT Tryz.prog 190 = some true := by kernel_rfl
@[simp] theorem fd_190_0 : fieldT Tryz.prog 190 0 = some (0, 1, false) := by kernel_rfl
@[simp] theorem fd_190_1 : fieldT Tryz.prog 190 1 = some (1, 1, false) := by kernel_rfl
@[simp] theorem pl_190 : placesT Tryz.prog 190 = some [(0, 1), (1, 1)] := by kernel_rfl
@[simp] theorem zt_190 : zeroT Tryz.prog 190 = some (.agg [.int .i64 0, .lst true 0 []]) := by kernel_rfl
@[simp] theorem zr_190 : zeroE Tryz.prog 190 = some (.agg [.int .i64 0, .lst true 0 []]) := by kernel_rfl
@[simp] theorem ld_191 : loadT Tryz.prog 191 = some (2, true) := by kernel_rfl
@[simp] theorem sz_191 : szT Tryz.prog 191 = some 2 := by kernel_rfl
@[simp] theorem ag_191 : aggT Tryz.prog 191 = some true := by kernel_rfl
@[simp] theorem fd_191_0 : fieldT Tryz.prog 191 0 = some (0, 1, false) := by kernel_rfl
@[simp] theorem fd_191_1 : fieldT Tryz.prog 191 1 = some (1, 1, false) := by kernel_rfl
@[simp] theorem pl_191 : placesT Tryz.prog 191 = some [(0, 1), (1, 1)] := by kernel_rfl
@[simp] theorem zt_191 : zeroT Tryz.prog 191 = some (.agg [.int .i64 0, .lst true 0 []]) := by kernel_rfl
@[simp] theorem zr_191 : zeroE Tryz.prog 191 = some (.agg [.int .i64 0, .lst true 0 []]) := by kernel_rfl
@[simp] theorem ld_192 : loadT Tryz.prog 192 = some (5, true) := by kernel_rfl
@[simp] theorem sz_192 : szT Tryz.prog 192 = some 5 := by kernel_rfl
@[simp] theorem ag_192 : aggT Tryz.prog 192 = some true := by kernel_rfl
@[simp] theorem fd_192_0 : fieldT Tryz.prog 192 0 = some (0, 1, false) := by kernel_rfl
@[simp] theorem fd_192_1 : fieldT Tryz.prog 192 1 = some (1, 2, true) := by kernel_rfl
@[simp] theorem fd_192_2 : fieldT Tryz.prog 192 2 = some (3, 1, false) := by kernel_rfl
@[simp] theorem fd_192_3 : fieldT Tryz.prog 192 3 = some (4, 1, false) := by kernel_rfl
@[simp] theorem pl_192 : placesT Tryz.prog 192 = some [(0, 1), (1, 2), (3, 1), (4, 1)] := by kernel_rfl
@[simp] theorem zt_192 : zeroT Tryz.prog 192 = some (.agg [.str ByteArray.empty, .int .i64 0, .lst true 0 [], .bool false, .int .i64 0]) := by kernel_rfl
@[simp] theorem zr_192 : zeroE Tryz.prog 192 = some (.agg [.str ByteArray.empty, .int .i64 0, .lst true 0 [], .bool false, .int .i64 0]) := by kernel_rfl
@[simp] theorem ld_193 : loadT Tryz.prog 193 = some (5, true) := by kernel_rfl
@[simp] theorem sz_193 : szT Tryz.prog 193 = some 5 := by kernel_rfl
@[simp] theorem ag_193 : aggT Tryz.prog 193 = some true := by kernel_rfl
@[simp] theorem fd_193_0 : fieldT Tryz.prog 193 0 = some (0, 1, false) := by kernel_rfl
@[simp] theorem fd_193_1 : fieldT Tryz.prog 193 1 = some (1, 2, true) := by kernel_rfl
@[simp] theorem fd_193_2 : fieldT Tryz.prog 193 2 = some (3, 1, false) := by kernel_rfl
@[simp] theorem fd_193_3 : fieldT Tryz.prog 193 3 = some (4, 1, false) := by kernel_rfl
@[simp] theorem pl_193 : placesT Tryz.prog 193 = some [(0, 1), (1, 2), (3, 1), (4, 1)] := by kernel_rfl
@[simp] theorem zt_193 : zeroT Tryz.prog 193 = some (.agg [.str ByteArray.empty, .int .i64 0, .lst true 0 [], .bool false, .int .i64 0]) := by kernel_rfl
@[simp] theorem zr_193 : zeroE Tryz.prog 193 = some (.agg [.str ByteArray.empty, .int .i64 0, .lst true 0 [], .bool false, .int .i64 0]) := by kernel_rfl
@[simp] theorem ld_196 : loadT Tryz.prog 196 = some (2, true) := by kernel_rfl
@[simp] theorem sz_196 : szT Tryz.prog 196 = some 2 := by kernel_rfl
@[simp] theorem ag_196 : aggT Tryz.prog 196 = some true := by kernel_rfl
@[simp] theorem fd_196_0 : fieldT Tryz.prog 196 0 = some (0, 1, false) := by kernel_rfl
@[simp] theorem fd_196_1 : fieldT Tryz.prog 196 1 = some (1, 1, false) := by kernel_rfl
@[simp] theorem pl_196 : placesT Tryz.prog 196 = some [(0, 1), (1, 1)] := by kernel_rfl
@[simp] theorem zt_196 : zeroT Tryz.prog 196 = some (.agg [.str ByteArray.empty, .int .i64 0]) := by kernel_rfl
@[simp] theorem zr_196 : zeroE Tryz.prog 196 = some (.agg [.str ByteArray.empty, .int .i64 0]) := by kernel_rfl
@[simp] theorem ld_197 : loadT Tryz.prog 197 = some (2, true) := by kernel_rfl
@[simp] theorem sz_197 : szT Tryz.prog 197 = some 2 := by kernel_rfl
@[simp] theorem ag_197 : aggT Tryz.prog 197 = some true := by kernel_rfl
@[simp] theorem fd_197_0 : fieldT Tryz.prog 197 0 = some (0, 1, false) := by kernel_rfl
@[simp] theorem fd_197_1 : fieldT Tryz.prog 197 1 = some (1, 1, false) := by kernel_rfl
@[simp] theorem pl_197 : placesT Tryz.prog 197 = some [(0, 1), (1, 1)] := by kernel_rfl
@[simp] theorem zt_197 : zeroT Tryz.prog 197 = some (.agg [.str ByteArray.empty, .int .i64 0]) := by kernel_rfl
@[simp] theorem zr_197 : zeroE Tryz.prog 197 = some (.agg [.str ByteArray.empty, .int .i64 0]) := by kernel_rfl
@[simp] theorem ld_203 : loadT Tryz.prog 203 = some (4, true) := by kernel_rfl
@[simp] theorem sz_203 : szT Tryz.prog 203 = some 4 := by kernel_rfl
@[simp] theorem ag_203 : aggT Tryz.prog 203 = some true := by kernel_rfl
@[simp] theorem fd_203_0 : fieldT Tryz.prog 203 0 = some (0, 1, false) := by kernel_rfl
@[simp] theorem fd_203_1 : fieldT Tryz.prog 203 1 = some (1, 1, false) := by kernel_rfl
@[simp] theorem fd_203_2 : fieldT Tryz.prog 203 2 = some (2, 1, false) := by kernel_rfl
@[simp] theorem fd_203_3 : fieldT Tryz.prog 203 3 = some (3, 1, false) := by kernel_rfl
@[simp] theorem pl_203 : placesT Tryz.prog 203 = some [(0, 1), (1, 1), (2, 1), (3, 1)] := by kernel_rfl
@[simp] theorem zt_203 : zeroT Tryz.prog 203 = some (.agg [.int .i64 0, .int .i64 0, .bool false, .int .i64 0]) := by kernel_rfl
@[simp] theorem zr_203 : zeroE Tryz.prog 203 = some (.agg [.int .i64 0, .int .i64 0, .bool false, .int .i64 0]) := by kernel_rfl
@[simp] theorem ld_204 : loadT Tryz.prog 204 = some (4, true) := by kernel_rfl
@[simp] theorem sz_204 : szT Tryz.prog 204 = some 4 := by kernel_rfl
@[simp] theorem ag_204 : aggT Tryz.prog 204 = some true := by kernel_rfl
@[simp] theorem fd_204_0 : fieldT Tryz.prog 204 0 = some (0, 1, false) := by kernel_rfl
@[simp] theorem fd_204_1 : fieldT Tryz.prog 204 1 = some (1, 1, false) := by kernel_rfl
@[simp] theorem fd_204_2 : fieldT Tryz.prog 204 2 = some (2, 1, false) := by kernel_rfl
@[simp] theorem fd_204_3 : fieldT Tryz.prog 204 3 = some (3, 1, false) := by kernel_rfl
@[simp] theorem pl_204 : placesT Tryz.prog 204 = some [(0, 1), (1, 1), (2, 1), (3, 1)] := by kernel_rfl
@[simp] theorem zt_204 : zeroT Tryz.prog 204 = some (.agg [.int .i64 0, .int .i64 0, .bool false, .int .i64 0]) := by kernel_rfl
@[simp] theorem zr_204 : zeroE Tryz.prog 204 = some (.agg [.int .i64 0, .int .i64 0, .bool false, .int .i64 0]) := by kernel_rfl
@[simp] theorem ld_205 : loadT Tryz.prog 205 = some (1, false) := by kernel_rfl
@[simp] theorem sz_205 : szT Tryz.prog 205 = some 1 := by kernel_rfl
@[simp] theorem ag_205 : aggT Tryz.prog 205 = some false := by kernel_rfl
@[simp] theorem ld_208 : loadT Tryz.prog 208 = some (1, false) := by kernel_rfl
@[simp] theorem sz_208 : szT Tryz.prog 208 = some 1 := by kernel_rfl
@[simp] theorem ag_208 : aggT Tryz.prog 208 = some false := by kernel_rfl
@[simp] theorem ld_214 : loadT Tryz.prog 214 = some (1, false) := by kernel_rfl
@[simp] theorem sz_214 : szT Tryz.prog 214 = some 1 := by kernel_rfl
@[simp] theorem ag_214 : aggT Tryz.prog 214 = some false := by kernel_rfl
@[simp] theorem es_214 : esz Tryz.prog 214 = some 3 := by kernel_rfl
@[simp] theorem el_214 : elemT Tryz.prog 214 = some 313 := by kernel_rfl
@[simp] theorem un_214 : Tryz.prog.underlying 214 = some (.slice 313) := by kernel_rfl
@[simp] theorem ii_214 : isIntT Tryz.prog 214 = some false := by kernel_rfl
@[simp] theorem by_313 : bytesT Tryz.prog 313 = some 24 := by kernel_rfl
theorem et_214 : ElemT Tryz.prog 214 313 3 24 := ⟨by kernel_rfl, by kernel_rfl, by kernel_rfl, by kernel_rfl, ⟨.agg [.int .i64 0, .int .i64 0, .int .i64 0], by kernel_rfl, by kernel_rfl⟩, by decide⟩
@[simp] theorem zt_214 : zeroT Tryz.prog 214 = some (.lst true 0 []) := by kernel_rfl
@[simp] theorem zr_214 : zeroE Tryz.prog 214 = some (.lst true 0 []) := by kernel_rfl
@[simp] theorem ld_219 : loadT Tryz.prog 219 = some (1, false) := by kernel_rfl
@[simp] theorem sz_219 : szT Tryz.prog 219 = some 1 := by kernel_rfl
@[simp] theorem ag_219 : aggT Tryz.prog 219 = some false := by kernel_rfl
@[simp] theorem un_219 : Tryz.prog.underlying 219 = some (.pointer 108) := by kernel_rfl
@[simp] theorem zt_219 : zeroT Tryz.prog 219 = some (.nilp) := by kernel_rfl
@[simp] theorem zr_219 : zeroE Tryz.prog 219 = some (.nilp) := by kernel_rfl
@[simp] theorem ld_222 : loadT Tryz.prog 222 = some (1, false) := by kernel_rfl
@[simp] theorem sz_222 : szT Tryz.prog 222 = some 1 := by kernel_rfl
@[simp] theorem ag_222 : aggT Tryz.prog 222 = some false := by kernel_rfl
@[simp] theorem un_222 : Tryz.prog.underlying 222 = some (.pointer 317) := by kernel_rfl
@[simp] theorem zt_222 : zeroT Tryz.prog 222 = some (.nilp) := by kernel_rfl
@[simp] theorem zr_222 : zeroE Tryz.prog 222 = some (.nilp) := by kernel_rfl
@[simp] theorem ld_223 : loadT Tryz.prog 223 = some (1, false) := by kernel_rfl
@[simp] theorem sz_223 : szT Tryz.prog 223 = some 1 := by kernel_rfl
@[simp] theorem ag_223 : aggT Tryz.prog 223 = some false := by kernel_rfl
@[simp] theorem ld_234 : loadT Tryz.prog 234 = some (2, true) := by kernel_rfl
@[simp] theorem sz_234 : szT Tryz.prog 234 = some 2 := by kernel_rfl
@[simp] theorem ag_234 : aggT Tryz.prog 234 = some true := by kernel_rfl
@[simp] theorem fd_234_0 : fieldT Tryz.prog 234 0 = some (0, 1, false) := by kernel_rfl
@[simp] theorem fd_234_1 : fieldT Tryz.prog 234 1 = some (1, 1, false) := by kernel_rfl
@[simp] theorem pl_234 : placesT Tryz.prog 234 = some [(0, 1), (1, 1)] := by kernel_rfl
@[simp] theorem zt_234 : zeroT Tryz.prog 234 = some (.agg [.str ByteArray.empty, .int .i64 0]) := by kernel_rfl
@[simp] theorem zr_234 : zeroE Tryz.prog 234 = some (.agg [.str ByteArray.empty, .int .i64 0]) := by kernel_rfl
@[simp] theorem ld_236 : loadT Tryz.prog 236 = some (19, true) := by kernel_rfl
@[simp] theorem sz_236 : szT Tryz.prog 236 = some 19 := by kernel_rfl
@[simp] theorem ag_236 : aggT Tryz.prog 236 = some true := by kernel_rfl
@[simp] theorem fd_236_0 : fieldT Tryz.prog 236 0 = some (0, 1, false) := by kernel_rfl
@[simp] theorem fd_236_1 : fieldT Tryz.prog 236 1 = some (1, 1, false) := by kernel_rfl
@[simp] theorem fd_236_2 : fieldT Tryz.prog 236 2 = some (2, 4, true) := by kernel_rfl
@[simp] theorem fd_236_3 : fieldT Tryz.prog 236 3 = some (6, 4, true) := by kernel_rfl
@[simp] theorem fd_236_4 : fieldT Tryz.prog 236 4 = some (10, 4, true) := by kernel_rfl
@[simp] theorem fd_236_5 : fieldT Tryz.prog 236 5 = some (14, 4, true) := by kernel_rfl
@[simp] theorem fd_236_6 : fieldT Tryz.prog 236 6 = some (18, 1, false) := by kernel_rfl
@[simp] theorem pl_236 : placesT Tryz.prog 236 = some [(0, 1), (1, 1), (2, 4), (6, 4), (10, 4), (14, 4), (18, 1)] := by kernel_rfl
@[simp] theorem zt_236 : zeroT Tryz.prog 236 = some (.agg [.int .i64 0, .str ByteArray.empty, .int .i64 0, .int .i64 0, .str ByteArray.empty, .lst true 0 [], .int .i64 0, .int .i64 0, .str ByteArray.empty, .lst true 0 [], .int .i64 0, .int .i64 0, .str ByteArray.empty, .lst true 0 [], .int .i64 0, .int .i64 0, .str ByteArray.empty, .lst true 0 [], .lst true 0 []]) := by kernel_rfl
@[simp] theorem zr_236 : zeroE Tryz.prog 236 = some (.agg [.int .i64 0, .str ByteArray.empty, .int .i64 0, .int .i64 0, .str ByteArray.empty, .lst true 0 [], .int .i64 0, .int .i64 0, .str ByteArray.empty, .lst true 0 [], .int .i64 0, .int .i64 0, .str ByteArray.empty, .lst true 0 [], .int .i64 0, .int .i64 0, .str ByteArray.empty, .lst true 0 [], .lst true 0 []]) := by kernel_rfl
@[simp] theorem ld_237 : loadT Tryz.prog 237 = some (19, true) := by kernel_rfl
@[simp] theorem sz_237 : szT Tryz.prog 237 = some 19 := by kernel_rfl
@[simp] theorem ag_237 : aggT Tryz.prog 237 = some true := by kernel_rfl
@[simp] theorem fd_237_0 : fieldT Tryz.prog 237 0 = some (0, 1, false) := by kernel_rfl
@[simp] theorem fd_237_1 : fieldT Tryz.prog 237 1 = some (1, 1, false) := by kernel_rfl
@[simp] theorem fd_237_2 : fieldT Tryz.prog 237 2 = some (2, 4, true) := by kernel_rfl
@[simp] theorem fd_237_3 : fieldT Tryz.prog 237 3 = some (6, 4, true) := by kernel_rfl
@[simp] theorem fd_237_4 : fieldT Tryz.prog 237 4 = some (10, 4, true) := by kernel_rfl
@[simp] theorem fd_237_5 : fieldT Tryz.prog 237 5 = some (14, 4, true) := by kernel_rfl
@[simp] theorem fd_237_6 : fieldT Tryz.prog 237 6 = some (18, 1, false) := by kernel_rfl
@[simp] theorem pl_237 : placesT Tryz.prog 237 = some [(0, 1), (1, 1), (2, 4), (6, 4), (10, 4), (14, 4), (18, 1)] := by kernel_rfl
@[simp] theorem zt_237 : zeroT Tryz.prog 237 = some (.agg [.int .i64 0, .str ByteArray.empty, .int .i64 0, .int .i64 0, .str ByteArray.empty, .lst true 0 [], .int .i64 0, .int .i64 0, .str ByteArray.empty, .lst true 0 [], .int .i64 0, .int .i64 0, .str ByteArray.empty, .lst true 0 [], .int .i64 0, .int .i64 0, .str ByteArray.empty, .lst true 0 [], .lst true 0 []]) := by kernel_rfl
@[simp] theorem zr_237 : zeroE Tryz.prog 237 = some (.agg [.int .i64 0, .str ByteArray.empty, .int .i64 0, .int .i64 0, .str ByteArray.empty, .lst true 0 [], .int .i64 0, .int .i64 0, .str ByteArray.empty, .lst true 0 [], .int .i64 0, .int .i64 0, .str ByteArray.empty, .lst true 0 [], .int .i64 0, .int .i64 0, .str ByteArray.empty, .lst true 0 [], .lst true 0 []]) := by kernel_rfl
@[simp] theorem ld_249 : loadT Tryz.prog 249 = some (1, false) := by kernel_rfl
@[simp] theorem sz_249 : szT Tryz.prog 249 = some 1 := by kernel_rfl
@[simp] theorem ag_249 : aggT Tryz.prog 249 = some false := by kernel_rfl
@[simp] theorem un_249 : Tryz.prog.underlying 249 = some (.pointer 326) := by kernel_rfl
@[simp] theorem zt_249 : zeroT Tryz.prog 249 = some (.nilp) := by kernel_rfl
@[simp] theorem zr_249 : zeroE Tryz.prog 249 = some (.nilp) := by kernel_rfl
@[simp] theorem ld_251 : loadT Tryz.prog 251 = some (4, true) := by kernel_rfl
@[simp] theorem sz_251 : szT Tryz.prog 251 = some 4 := by kernel_rfl
@[simp] theorem ag_251 : aggT Tryz.prog 251 = some true := by kernel_rfl
@[simp] theorem fd_251_0 : fieldT Tryz.prog 251 0 = some (0, 1, false) := by kernel_rfl
@[simp] theorem fd_251_1 : fieldT Tryz.prog 251 1 = some (1, 1, false) := by kernel_rfl
@[simp] theorem fd_251_2 : fieldT Tryz.prog 251 2 = some (2, 1, false) := by kernel_rfl
@[simp] theorem fd_251_3 : fieldT Tryz.prog 251 3 = some (3, 1, false) := by kernel_rfl
@[simp] theorem pl_251 : placesT Tryz.prog 251 = some [(0, 1), (1, 1), (2, 1), (3, 1)] := by kernel_rfl
@[simp] theorem zt_251 : zeroT Tryz.prog 251 = some (.agg [.nilp, .int .i64 0, .lst true 0 [], .bool false]) := by kernel_rfl
@[simp] theorem zr_251 : zeroE Tryz.prog 251 = some (.agg [.nilp, .int .i64 0, .lst true 0 [], .bool false]) := by kernel_rfl
@[simp] theorem ld_252 : loadT Tryz.prog 252 = some (4, true) := by kernel_rfl
@[simp] theorem sz_252 : szT Tryz.prog 252 = some 4 := by kernel_rfl
@[simp] theorem ag_252 : aggT Tryz.prog 252 = some true := by kernel_rfl
@[simp] theorem fd_252_0 : fieldT Tryz.prog 252 0 = some (0, 1, false) := by kernel_rfl
@[simp] theorem fd_252_1 : fieldT Tryz.prog 252 1 = some (1, 1, false) := by kernel_rfl
@[simp] theorem fd_252_2 : fieldT Tryz.prog 252 2 = some (2, 1, false) := by kernel_rfl
@[simp] theorem fd_252_3 : fieldT Tryz.prog 252 3 = some (3, 1, false) := by kernel_rfl
@[simp] theorem pl_252 : placesT Tryz.prog 252 = some [(0, 1), (1, 1), (2, 1), (3, 1)] := by kernel_rfl
@[simp] theorem zt_252 : zeroT Tryz.prog 252 = some (.agg [.nilp, .int .i64 0, .lst true 0 [], .bool false]) := by kernel_rfl
@[simp] theorem zr_252 : zeroE Tryz.prog 252 = some (.agg [.nilp, .int .i64 0, .lst true 0 [], .bool false]) := by kernel_rfl
@[simp] theorem ld_259 : loadT Tryz.prog 259 = some (1, false) := by kernel_rfl
@[simp] theorem sz_259 : szT Tryz.prog 259 = some 1 := by kernel_rfl
@[simp] theorem ag_259 : aggT Tryz.prog 259 = some false := by kernel_rfl
@[simp] theorem un_259 : Tryz.prog.underlying 259 = some (.pointer 164) := by kernel_rfl
@[simp] theorem zt_259 : zeroT Tryz.prog 259 = some (.nilp) := by kernel_rfl
@[simp] theorem zr_259 : zeroE Tryz.prog 259 = some (.nilp) := by kernel_rfl
@[simp] theorem ld_260 : loadT Tryz.prog 260 = some (3, true) := by kernel_rfl
@[simp] theorem sz_260 : szT Tryz.prog 260 = some 3 := by kernel_rfl
@[simp] theorem ag_260 : aggT Tryz.prog 260 = some true := by kernel_rfl
@[simp] theorem fd_260_0 : fieldT Tryz.prog 260 0 = some (0, 1, false) := by kernel_rfl
@[simp] theorem fd_260_1 : fieldT Tryz.prog 260 1 = some (1, 1, false) := by kernel_rfl
@[simp] theorem fd_260_2 : fieldT Tryz.prog 260 2 = some (2, 1, false) := by kernel_rfl
@[simp] theorem pl_260 : placesT Tryz.prog 260 = some [(0, 1), (1, 1), (2, 1)] := by kernel_rfl
@[simp] theorem zt_260 : zeroT Tryz.prog 260 = some (.agg [.lst true 0 [], .int .i64 0, .int .i64 0]) := by kernel_rfl
@[simp] theorem zr_260 : zeroE Tryz.prog 260 = some (.agg [.lst true 0 [], .int .i64 0, .int .i64 0]) := by kernel_rfl
@[simp] theorem ld_261 : loadT Tryz.prog 261 = some (3, true) := by kernel_rfl
@[simp] theorem sz_261 : szT Tryz.prog 261 = some 3 := by kernel_rfl
@[simp] theorem ag_261 : aggT Tryz.prog 261 = some true := by kernel_rfl
@[simp] theorem fd_261_0 : fieldT Tryz.prog 261 0 = some (0, 1, false) := by kernel_rfl
@[simp] theorem fd_261_1 : fieldT Tryz.prog 261 1 = some (1, 1, false) := by kernel_rfl
@[simp] theorem fd_261_2 : fieldT Tryz.prog 261 2 = some (2, 1, false) := by kernel_rfl
@[simp] theorem pl_261 : placesT Tryz.prog 261 = some [(0, 1), (1, 1), (2, 1)] := by kernel_rfl
@[simp] theorem zt_261 : zeroT Tryz.prog 261 = some (.agg [.lst true 0 [], .int .i64 0, .int .i64 0]) := by kernel_rfl
@[simp] theorem zr_261 : zeroE Tryz.prog 261 = some (.agg [.lst true 0 [], .int .i64 0, .int .i64 0]) := by kernel_rfl
@[simp] theorem ld_263 : loadT Tryz.prog 263 = some (1, false) := by kernel_rfl
@[simp] theorem sz_263 : szT Tryz.prog 263 = some 1 := by kernel_rfl
@[simp] theorem ag_263 : aggT Tryz.prog 263 = some false := by kernel_rfl
@[simp] theorem ld_275 : loadT Tryz.prog 275 = some (16, true) := by kernel_rfl
@[simp] theorem sz_275 : szT Tryz.prog 275 = some 16 := by kernel_rfl
@[simp] theorem ag_275 : aggT Tryz.prog 275 = some true := by kernel_rfl
@[simp] theorem un_275 : Tryz.prog.underlying 275 = some (.array 4 43) := by kernel_rfl
@[simp] theorem pl_275 : placesT Tryz.prog 275 = some [(0, 4), (4, 4), (8, 4), (12, 4)] := by kernel_rfl
@[simp] theorem zt_275 : zeroT Tryz.prog 275 = some (.agg [.int .i64 0, .int .i64 0, .str ByteArray.empty, .lst true 0 [], .int .i64 0, .int .i64 0, .str ByteArray.empty, .lst true 0 [], .int .i64 0, .int .i64 0, .str ByteArray.empty, .lst true 0 [], .int .i64 0, .int .i64 0, .str ByteArray.empty, .lst true 0 []]) := by kernel_rfl
@[simp] theorem zr_275 : zeroE Tryz.prog 275 = some (.agg [.int .i64 0, .int .i64 0, .str ByteArray.empty, .lst true 0 [], .int .i64 0, .int .i64 0, .str ByteArray.empty, .lst true 0 [], .int .i64 0, .int .i64 0, .str ByteArray.empty, .lst true 0 [], .int .i64 0, .int .i64 0, .str ByteArray.empty, .lst true 0 []]) := by kernel_rfl
@[simp] theorem ld_277 : loadT Tryz.prog 277 = some (4, true) := by kernel_rfl
@[simp] theorem sz_277 : szT Tryz.prog 277 = some 4 := by kernel_rfl
@[simp] theorem ag_277 : aggT Tryz.prog 277 = some true := by kernel_rfl
@[simp] theorem fd_277_0 : fieldT Tryz.prog 277 0 = some (0, 1, false) := by kernel_rfl
@[simp] theorem fd_277_1 : fieldT Tryz.prog 277 1 = some (1, 1, false) := by kernel_rfl
@[simp] theorem fd_277_2 : fieldT Tryz.prog 277 2 = some (2, 1, false) := by kernel_rfl
@[simp] theorem fd_277_3 : fieldT Tryz.prog 277 3 = some (3, 1, false) := by kernel_rfl
@[simp] theorem pl_277 : placesT Tryz.prog 277 = some [(0, 1), (1, 1), (2, 1), (3, 1)] := by kernel_rfl
@[simp] theorem zt_277 : zeroT Tryz.prog 277 = some (.agg [.lst true 0 [], .lst true 0 [], .int .i64 0, .bool false]) := by kernel_rfl
@[simp] theorem zr_277 : zeroE Tryz.prog 277 = some (.agg [.lst true 0 [], .lst true 0 [], .int .i64 0, .bool false]) := by kernel_rfl
@[simp] theorem ld_278 : loadT Tryz.prog 278 = some (4, true) := by kernel_rfl
@[simp] theorem sz_278 : szT Tryz.prog 278 = some 4 := by kernel_rfl
@[simp] theorem ag_278 : aggT Tryz.prog 278 = some true := by kernel_rfl
@[simp] theorem fd_278_0 : fieldT Tryz.prog 278 0 = some (0, 1, false) := by kernel_rfl
@[simp] theorem fd_278_1 : fieldT Tryz.prog 278 1 = some (1, 1, false) := by kernel_rfl
@[simp] theorem fd_278_2 : fieldT Tryz.prog 278 2 = some (2, 1, false) := by kernel_rfl
@[simp] theorem fd_278_3 : fieldT Tryz.prog 278 3 = some (3, 1, false) := by kernel_rfl
@[simp] theorem pl_278 : placesT Tryz.prog 278 = some [(0, 1), (1, 1), (2, 1), (3, 1)] := by kernel_rfl
@[simp] theorem zt_278 : zeroT Tryz.prog 278 = some (.agg [.lst true 0 [], .lst true 0 [], .int .i64 0, .bool false]) := by kernel_rfl
@[simp] theorem zr_278 : zeroE Tryz.prog 278 = some (.agg [.lst true 0 [], .lst true 0 [], .int .i64 0, .bool false]) := by kernel_rfl
@[simp] theorem ld_281 : loadT Tryz.prog 281 = some (1, false) := by kernel_rfl
@[simp] theorem sz_281 : szT Tryz.prog 281 = some 1 := by kernel_rfl
@[simp] theorem ag_281 : aggT Tryz.prog 281 = some false := by kernel_rfl
@[simp] theorem ld_285 : loadT Tryz.prog 285 = some (1, false) := by kernel_rfl
@[simp] theorem sz_285 : szT Tryz.prog 285 = some 1 := by kernel_rfl
@[simp] theorem ag_285 : aggT Tryz.prog 285 = some false := by kernel_rfl
@[simp] theorem ld_293 : loadT Tryz.prog 293 = some (1, false) := by kernel_rfl
@[simp] theorem sz_293 : szT Tryz.prog 293 = some 1 := by kernel_rfl
@[simp] theorem ag_293 : aggT Tryz.prog 293 = some false := by kernel_rfl
@[simp] theorem un_293 : Tryz.prog.underlying 293 = some (.pointer 295) := by kernel_rfl
@[simp] theorem zt_293 : zeroT Tryz.prog 293 = some (.nilp) := by kernel_rfl
@[simp] theorem zr_293 : zeroE Tryz.prog 293 = some (.nilp) := by kernel_rfl
@[simp] theorem ld_294 : loadT Tryz.prog 294 = some (3, true) := by kernel_rfl
@[simp] theorem sz_294 : szT Tryz.prog 294 = some 3 := by kernel_rfl
@[simp] theorem ag_294 : aggT Tryz.prog 294 = some true := by kernel_rfl
@[simp] theorem fd_294_0 : fieldT Tryz.prog 294 0 = some (0, 1, false) := by kernel_rfl
@[simp] theorem fd_294_1 : fieldT Tryz.prog 294 1 = some (1, 1, false) := by kernel_rfl
@[simp] theorem fd_294_2 : fieldT Tryz.prog 294 2 = some (2, 1, false) := by kernel_rfl
@[simp] theorem pl_294 : placesT Tryz.prog 294 = some [(0, 1), (1, 1), (2, 1)] := by kernel_rfl
@[simp] theorem zt_294 : zeroT Tryz.prog 294 = some (.agg [.lst true 0 [], .lst true 0 [], .bool false]) := by kernel_rfl
@[simp] theorem zr_294 : zeroE Tryz.prog 294 = some (.agg [.lst true 0 [], .lst true 0 [], .bool false]) := by kernel_rfl
@[simp] theorem ld_295 : loadT Tryz.prog 295 = some (3, true) := by kernel_rfl
@[simp] theorem sz_295 : szT Tryz.prog 295 = some 3 := by kernel_rfl
@[simp] theorem ag_295 : aggT Tryz.prog 295 = some true := by kernel_rfl
@[simp] theorem fd_295_0 : fieldT Tryz.prog 295 0 = some (0, 1, false) := by kernel_rfl
@[simp] theorem fd_295_1 : fieldT Tryz.prog 295 1 = some (1, 1, false) := by kernel_rfl
@[simp] theorem fd_295_2 : fieldT Tryz.prog 295 2 = some (2, 1, false) := by kernel_rfl
@[simp] theorem pl_295 : placesT Tryz.prog 295 = some [(0, 1), (1, 1), (2, 1)] := by kernel_rfl
@[simp] theorem zt_295 : zeroT Tryz.prog 295 = some (.agg [.lst true 0 [], .lst true 0 [], .bool false]) := by kernel_rfl
@[simp] theorem zr_295 : zeroE Tryz.prog 295 = some (.agg [.lst true 0 [], .lst true 0 [], .bool false]) := by kernel_rfl
@[simp] theorem ld_301 : loadT Tryz.prog 301 = some (1, false) := by kernel_rfl
@[simp] theorem sz_301 : szT Tryz.prog 301 = some 1 := by kernel_rfl
@[simp] theorem ag_301 : aggT Tryz.prog 301 = some false := by kernel_rfl
@[simp] theorem un_301 : Tryz.prog.underlying 301 = some (.int .u64) := by kernel_rfl
@[simp] theorem zt_301 : zeroT Tryz.prog 301 = some (.int .u64 0) := by kernel_rfl
@[simp] theorem zr_301 : zeroE Tryz.prog 301 = some (.int .u64 0) := by kernel_rfl
@[simp] theorem ld_304 : loadT Tryz.prog 304 = some (1, false) := by kernel_rfl
@[simp] theorem sz_304 : szT Tryz.prog 304 = some 1 := by kernel_rfl
@[simp] theorem ag_304 : aggT Tryz.prog 304 = some false := by kernel_rfl
@[simp] theorem es_304 : esz Tryz.prog 304 = some 2 := by kernel_rfl
@[simp] theorem el_304 : elemT Tryz.prog 304 = some 435 := by kernel_rfl
@[simp] theorem un_304 : Tryz.prog.underlying 304 = some (.slice 435) := by kernel_rfl
@[simp] theorem ii_304 : isIntT Tryz.prog 304 = some false := by kernel_rfl
@[simp] theorem by_435 : bytesT Tryz.prog 435 = some 16 := by kernel_rfl
theorem et_304 : ElemT Tryz.prog 304 435 2 16 := ⟨by kernel_rfl, by kernel_rfl, by kernel_rfl, by kernel_rfl, ⟨.agg [.int .i64 0, .int .i64 0], by kernel_rfl, by kernel_rfl⟩, by decide⟩
@[simp] theorem zt_304 : zeroT Tryz.prog 304 = some (.lst true 0 []) := by kernel_rfl
@[simp] theorem zr_304 : zeroE Tryz.prog 304 = some (.lst true 0 []) := by kernel_rfl
@[simp] theorem ld_305 : loadT Tryz.prog 305 = some (6, true) := by kernel_rfl
@[simp] theorem sz_305 : szT Tryz.prog 305 = some 6 := by kernel_rfl
@[simp] theorem ag_305 : aggT Tryz.prog 305 = some true := by kernel_rfl
@[simp] theorem fd_305_0 : fieldT Tryz.prog 305 0 = some (0, 1, false) := by kernel_rfl
@[simp] theorem fd_305_1 : fieldT Tryz.prog 305 1 = some (1, 1, false) := by kernel_rfl
@[simp] theorem fd_305_2 : fieldT Tryz.prog 305 2 = some (2, 1, false) := by kernel_rfl
@[simp] theorem fd_305_3 : fieldT Tryz.prog 305 3 = some (3, 1, false) := by kernel_rfl
@[simp] theorem fd_305_4 : fieldT Tryz.prog 305 4 = some (4, 1, false) := by kernel_rfl
@[simp] theorem fd_305_5 : fieldT Tryz.prog 305 5 = some (5, 1, false) := by kernel_rfl
@[simp] theorem pl_305 : placesT Tryz.prog 305 = some [(0, 1), (1, 1), (2, 1), (3, 1), (4, 1), (5, 1)] := by kernel_rfl
@[simp] theorem zt_305 : zeroT Tryz.prog 305 = some (.agg [.int .i64 0, .lst true 0 [], .lst true 0 [], .lst true 0 [], .bool false, .bool false]) := by kernel_rfl
@[simp] theorem zr_305 : zeroE Tryz.prog 305 = some (.agg [.int .i64 0, .lst true 0 [], .lst true 0 [], .lst true 0 [], .bool false, .bool false]) := by kernel_rfl
@[simp] theorem ld_306 : loadT Tryz.prog 306 = some (6, true) := by kernel_rfl
@[simp] theorem sz_306 : szT Tryz.prog 306 = some 6 := by kernel_rfl
@[simp] theorem ag_306 : aggT Tryz.prog 306 = some true := by kernel_rfl
@[simp] theorem fd_306_0 : fieldT Tryz.prog 306 0 = some (0, 1, false) := by kernel_rfl
@[simp] theorem fd_306_1 : fieldT Tryz.prog 306 1 = some (1, 1, false) := by kernel_rfl
@[simp] theorem fd_306_2 : fieldT Tryz.prog 306 2 = some (2, 1, false) := by kernel_rfl
@[simp] theorem fd_306_3 : fieldT Tryz.prog 306 3 = some (3, 1, false) := by kernel_rfl
@[simp] theorem fd_306_4 : fieldT Tryz.prog 306 4 = some (4, 1, false) := by kernel_rfl
@[simp] theorem fd_306_5 : fieldT Tryz.prog 306 5 = some (5, 1, false) := by kernel_rfl
@[simp] theorem pl_306 : placesT Tryz.prog 306 = some [(0, 1), (1, 1), (2, 1), (3, 1), (4, 1), (5, 1)] := by kernel_rfl
@[simp] theorem zt_306 : zeroT Tryz.prog 306 = some (.agg [.int .i64 0, .lst true 0 [], .lst true 0 [], .lst true 0 [], .bool false, .bool false]) := by kernel_rfl
@[simp] theorem zr_306 : zeroE Tryz.prog 306 = some (.agg [.int .i64 0, .lst true 0 [], .lst true 0 [], .lst true 0 [], .bool false, .bool false]) := by kernel_rfl
@[simp] theorem ld_308 : loadT Tryz.prog 308 = some (1, false) := by kernel_rfl
@[simp] theorem sz_308 : szT Tryz.prog 308 = some 1 := by kernel_rfl
@[simp] theorem ag_308 : aggT Tryz.prog 308 = some false := by kernel_rfl
@[simp] theorem un_308 : Tryz.prog.underlying 308 = some (.pointer 124) := by kernel_rfl
@[simp] theorem zt_308 : zeroT Tryz.prog 308 = some (.nilp) := by kernel_rfl
@[simp] theorem zr_308 : zeroE Tryz.prog 308 = some (.nilp) := by kernel_rfl
@[simp] theorem ld_313 : loadT Tryz.prog 313 = some (3, true) := by kernel_rfl
@[simp] theorem sz_313 : szT Tryz.prog 313 = some 3 := by kernel_rfl
@[simp] theorem ag_313 : aggT Tryz.prog 313 = some true := by kernel_rfl
@[simp] theorem fd_313_0 : fieldT Tryz.prog 313 0 = some (0, 1, false) := by kernel_rfl
@[simp] theorem fd_313_1 : fieldT Tryz.prog 313 1 = some (1, 1, false) := by kernel_rfl
@[simp] theorem fd_313_2 : fieldT Tryz.prog 313 2 = some (2, 1, false) := by kernel_rfl
@[simp] theorem pl_313 : placesT Tryz.prog 313 = some [(0, 1), (1, 1), (2, 1)] := by kernel_rfl
@[simp] theorem zt_313 : zeroT Tryz.prog 313 = some (.agg [.int .i64 0, .int .i64 0, .int .i64 0]) := by kernel_rfl
@[simp] theorem zr_313 : zeroE Tryz.prog 313 = some (.agg [.int .i64 0, .int .i64 0, .int .i64 0]) := by kernel_rfl
@[simp] theorem ld_316 : loadT Tryz.prog 316 = some (3, true) := by kernel_rfl
@[simp] theorem sz_316 : szT Tryz.prog 316 = some 3 := by kernel_rfl
@[simp] theorem ag_316 : aggT Tryz.prog 316 = some true := by kernel_rfl
@[simp] theorem fd_316_0 : fieldT Tryz.prog 316 0 = some (0, 1, false) := by kernel_rfl
@[simp] theorem fd_316_1 : fieldT Tryz.prog 316 1 = some (1, 1, false) := by kernel_rfl
@[simp] theorem fd_316_2 : fieldT Tryz.prog 316 2 = some (2, 1, false) := by kernel_rfl
@[simp] theorem pl_316 : placesT Tryz.prog 316 = some [(0, 1), (1, 1), (2, 1)] := by kernel_rfl
@[simp] theorem zt_316 : zeroT Tryz.prog 316 = some (.agg [.nilp, .nilp, .lst true 0 []]) := by kernel_rfl
@[simp] theorem zr_316 : zeroE Tryz.prog 316 = some (.agg [.nilp, .nilp, .lst true 0 []]) := by kernel_rfl
@[simp] theorem ld_317 : loadT Tryz.prog 317 = some (3, true) := by kernel_rfl
@[simp] theorem sz_317 : szT Tryz.prog 317 = some 3 := by kernel_rfl
@[simp] theorem ag_317 : aggT Tryz.prog 317 = some true := by kernel_rfl
@[simp] theorem fd_317_0 : fieldT Tryz.prog 317 0 = some (0, 1, false) := by kernel_rfl
@[simp] theorem fd_317_1 : fieldT Tryz.prog 317 1 = some (1, 1, false) := by kernel_rfl
@[simp] theorem fd_317_2 : fieldT Tryz.prog 317 2 = some (2, 1, false) := by kernel_rfl
@[simp] theorem pl_317 : placesT Tryz.prog 317 = some [(0, 1), (1, 1), (2, 1)] := by kernel_rfl
@[simp] theorem zt_317 : zeroT Tryz.prog 317 = some (.agg [.nilp, .nilp, .lst true 0 []]) := by kernel_rfl
@[simp] theorem zr_317 : zeroE Tryz.prog 317 = some (.agg [.nilp, .nilp, .lst true 0 []]) := by kernel_rfl
@[simp] theorem ld_321 : loadT Tryz.prog 321 = some (1, false) := by kernel_rfl
@[simp] theorem sz_321 : szT Tryz.prog 321 = some 1 := by kernel_rfl
@[simp] theorem ag_321 : aggT Tryz.prog 321 = some false := by kernel_rfl
@[simp] theorem ld_325 : loadT Tryz.prog 325 = some (5, true) := by kernel_rfl
@[simp] theorem sz_325 : szT Tryz.prog 325 = some 5 := by kernel_rfl
@[simp] theorem ag_325 : aggT Tryz.prog 325 = some true := by kernel_rfl
@[simp] theorem fd_325_0 : fieldT Tryz.prog 325 0 = some (0, 2, true) := by kernel_rfl
@[simp] theorem fd_325_1 : fieldT Tryz.prog 325 1 = some (2, 1, false) := by kernel_rfl
@[simp] theorem fd_325_2 : fieldT Tryz.prog 325 2 = some (3, 1, false) := by kernel_rfl
@[simp] theorem fd_325_3 : fieldT Tryz.prog 325 3 = some (4, 1, false) := by kernel_rfl
@[simp] theorem pl_325 : placesT Tryz.prog 325 = some [(0, 2), (2, 1), (3, 1), (4, 1)] := by kernel_rfl
@[simp] theorem zt_325 : zeroT Tryz.prog 325 = some (.agg [.lst true 0 [], .lst true 0 [], .lst true 0 [], .lst true 0 [], .int .i64 0]) := by kernel_rfl
@[simp] theorem zr_325 : zeroE Tryz.prog 325 = some (.agg [.lst true 0 [], .lst true 0 [], .lst true 0 [], .lst true 0 [], .int .i64 0]) := by kernel_rfl
@[simp] theorem ld_326 : loadT Tryz.prog 326 = some (5, true) := by kernel_rfl
@[simp] theorem sz_326 : szT Tryz.prog 326 = some 5 := by kernel_rfl
@[simp] theorem ag_326 : aggT Tryz.prog 326 = some true := by kernel_rfl
@[simp] theorem fd_326_0 : fieldT Tryz.prog 326 0 = some (0, 2, true) := by kernel_rfl
@[simp] theorem fd_326_1 : fieldT Tryz.prog 326 1 = some (2, 1, false) := by kernel_rfl
@[simp] theorem fd_326_2 : fieldT Tryz.prog 326 2 = some (3, 1, false) := by kernel_rfl
@[simp] theorem fd_326_3 : fieldT Tryz.prog 326 3 = some (4, 1, false) := by kernel_rfl
@[simp] theorem pl_326 : placesT Tryz.prog 326 = some [(0, 2), (2, 1), (3, 1), (4, 1)] := by kernel_rfl
@[simp] theorem zt_326 : zeroT Tryz.prog 326 = some (.agg [.lst true 0 [], .lst true 0 [], .lst true 0 [], .lst true 0 [], .int .i64 0]) := by kernel_rfl
@[simp] theorem zr_326 : zeroE Tryz.prog 326 = some (.agg [.lst true 0 [], .lst true 0 [], .lst true 0 [], .lst true 0 [], .int .i64 0]) := by kernel_rfl
@[simp] theorem ld_333 : loadT Tryz.prog 333 = some (1, false) := by kernel_rfl
@[simp] theorem sz_333 : szT Tryz.prog 333 = some 1 := by kernel_rfl
@[simp] theorem ag_333 : aggT Tryz.prog 333 = some false := by kernel_rfl
@[simp] theorem ld_339 : loadT Tryz.prog 339 = some (2, true) := by kernel_rfl
@[simp] theorem sz_339 : szT Tryz.prog 339 = some 2 := by kernel_rfl
@[simp] theorem ag_339 : aggT Tryz.prog 339 = some true := by kernel_rfl
@[simp] theorem fd_339_0 : fieldT Tryz.prog 339 0 = some (0, 1, false) := by kernel_rfl
@[simp] theorem fd_339_1 : fieldT Tryz.prog 339 1 = some (1, 1, false) := by kernel_rfl
@[simp] theorem pl_339 : placesT Tryz.prog 339 = some [(0, 1), (1, 1)] := by kernel_rfl
@[simp] theorem zt_339 : zeroT Tryz.prog 339 = some (.agg [.str ByteArray.empty, .int .i64 0]) := by kernel_rfl
@[simp] theorem zr_339 : zeroE Tryz.prog 339 = some (.agg [.str ByteArray.empty, .int .i64 0]) := by kernel_rfl
@[simp] theorem ld_340 : loadT Tryz.prog 340 = some (2, true) := by kernel_rfl
@[simp] theorem sz_340 : szT Tryz.prog 340 = some 2 := by kernel_rfl
@[simp] theorem ag_340 : aggT Tryz.prog 340 = some true := by kernel_rfl
@[simp] theorem fd_340_0 : fieldT Tryz.prog 340 0 = some (0, 1, false) := by kernel_rfl
@[simp] theorem fd_340_1 : fieldT Tryz.prog 340 1 = some (1, 1, false) := by kernel_rfl
@[simp] theorem pl_340 : placesT Tryz.prog 340 = some [(0, 1), (1, 1)] := by kernel_rfl
@[simp] theorem zt_340 : zeroT Tryz.prog 340 = some (.agg [.str ByteArray.empty, .int .i64 0]) := by kernel_rfl
@[simp] theorem zr_340 : zeroE Tryz.prog 340 = some (.agg [.str ByteArray.empty, .int .i64 0]) := by kernel_rfl
@[simp] theorem ld_344 : loadT Tryz.prog 344 = some (1, false) := by kernel_rfl
@[simp] theorem sz_344 : szT Tryz.prog 344 = some 1 := by kernel_rfl
@[simp] theorem ag_344 : aggT Tryz.prog 344 = some false := by kernel_rfl
@[simp] theorem un_344 : Tryz.prog.underlying 344 = some (.pointer 3) := by kernel_rfl
@[simp] theorem zt_344 : zeroT Tryz.prog 344 = some (.nilp) := by kernel_rfl
@[simp] theorem zr_344 : zeroE Tryz.prog 344 = some (.nilp) := by kernel_rfl
@[simp] theorem ld_346 : loadT Tryz.prog 346 = some (1, false) := by kernel_rfl
@[simp] theorem sz_346 : szT Tryz.prog 346 = some 1 := by kernel_rfl
@[simp] theorem ag_346 : aggT Tryz.prog 346 = some false := by kernel_rfl
@[simp] theorem es_346 : esz Tryz.prog 346 = some 3 := by kernel_rfl
@[simp] theorem el_346 : elemT Tryz.prog 346 = some 416 := by kernel_rfl
@[simp] theorem un_346 : Tryz.prog.underlying 346 = some (.slice 416) := by kernel_rfl
@[simp] theorem ii_346 : isIntT Tryz.prog 346 = some false := by kernel_rfl
@[simp] theorem by_416 : bytesT Tryz.prog 416 = some 32 := by kernel_rfl
theorem et_346 : ElemT Tryz.prog 346 416 3 32 := ⟨by kernel_rfl, by kernel_rfl, by kernel_rfl, by kernel_rfl, ⟨.agg [.int .i64 0, .str ByteArray.empty, .int .i64 0], by kernel_rfl, by kernel_rfl⟩, by decide⟩
@[simp] theorem zt_346 : zeroT Tryz.prog 346 = some (.lst true 0 []) := by kernel_rfl
@[simp] theorem zr_346 : zeroE Tryz.prog 346 = some (.lst true 0 []) := by kernel_rfl
@[simp] theorem ld_347 : loadT Tryz.prog 347 = some (1, false) := by kernel_rfl
@[simp] theorem sz_347 : szT Tryz.prog 347 = some 1 := by kernel_rfl
@[simp] theorem ag_347 : aggT Tryz.prog 347 = some false := by kernel_rfl
@[simp] theorem ld_349 : loadT Tryz.prog 349 = some (1, false) := by kernel_rfl
@[simp] theorem sz_349 : szT Tryz.prog 349 = some 1 := by kernel_rfl
@[simp] theorem ag_349 : aggT Tryz.prog 349 = some false := by kernel_rfl
@[simp] theorem un_349 : Tryz.prog.underlying 349 = some (.pointer 351) := by kernel_rfl
@[simp] theorem zt_349 : zeroT Tryz.prog 349 = some (.nilp) := by kernel_rfl
@[simp] theorem zr_349 : zeroE Tryz.prog 349 = some (.nilp) := by kernel_rfl
@[simp] theorem ld_350 : loadT Tryz.prog 350 = some (4, true) := by kernel_rfl
@[simp] theorem sz_350 : szT Tryz.prog 350 = some 4 := by kernel_rfl
@[simp] theorem ag_350 : aggT Tryz.prog 350 = some true := by kernel_rfl
@[simp] theorem fd_350_0 : fieldT Tryz.prog 350 0 = some (0, 1, false) := by kernel_rfl
@[simp] theorem fd_350_1 : fieldT Tryz.prog 350 1 = some (1, 1, false) := by kernel_rfl
@[simp] theorem fd_350_2 : fieldT Tryz.prog 350 2 = some (2, 1, false) := by kernel_rfl
@[simp] theorem fd_350_3 : fieldT Tryz.prog 350 3 = some (3, 1, false) := by kernel_rfl
@[simp] theorem pl_350 : placesT Tryz.prog 350 = some [(0, 1), (1, 1), (2, 1), (3, 1)] := by kernel_rfl
@[simp] theorem zt_350 : zeroT Tryz.prog 350 = some (.agg [.lst true 0 [], .int .i64 0, .int .i64 0, .bool false]) := by kernel_rfl
@[simp] theorem zr_350 : zeroE Tryz.prog 350 = some (.agg [.lst true 0 [], .int .i64 0, .int .i64 0, .bool false]) := by kernel_rfl
@[simp] theorem ld_351 : loadT Tryz.prog 351 = some (4, true) := by kernel_rfl
@[simp] theorem sz_351 : szT Tryz.prog 351 = some 4 := by kernel_rfl
@[simp] theorem ag_351 : aggT Tryz.prog 351 = some true := by kernel_rfl
@[simp] theorem fd_351_0 : fieldT Tryz.prog 351 0 = some (0, 1, false) := by kernel_rfl
@[simp] theorem fd_351_1 : fieldT Tryz.prog 351 1 = some (1, 1, false) := by kernel_rfl
@[simp] theorem fd_351_2 : fieldT Tryz.prog 351 2 = some (2, 1, false) := by kernel_rfl
@[simp] theorem fd_351_3 : fieldT Tryz.prog 351 3 = some (3, 1, false) := by kernel_rfl
@[simp] theorem pl_351 : placesT Tryz.prog 351 = some [(0, 1), (1, 1), (2, 1), (3, 1)] := by kernel_rfl
@[simp] theorem zt_351 : zeroT Tryz.prog 351 = some (.agg [.lst true 0 [], .int .i64 0, .int .i64 0, .bool false]) := by kernel_rfl
@[simp] theorem zr_351 : zeroE Tryz.prog 351 = some (.agg [.lst true 0 [], .int .i64 0, .int .i64 0, .bool false]) := by kernel_rfl
@[simp] theorem ld_365 : loadT Tryz.prog 365 = some (1, false) := by kernel_rfl
@[simp] theorem sz_365 : szT Tryz.prog 365 = some 1 := by kernel_rfl
@[simp] theorem ag_365 : aggT Tryz.prog 365 = some false := by kernel_rfl
@[simp] theorem ld_370 : loadT Tryz.prog 370 = some (1, false) := by kernel_rfl
@[simp] theorem sz_370 : szT Tryz.prog 370 = some 1 := by kernel_rfl
@[simp] theorem ag_370 : aggT Tryz.prog 370 = some false := by kernel_rfl
@[simp] theorem un_370 : Tryz.prog.underlying 370 = some (.pointer 278) := by kernel_rfl
@[simp] theorem zt_370 : zeroT Tryz.prog 370 = some (.nilp) := by kernel_rfl
@[simp] theorem zr_370 : zeroE Tryz.prog 370 = some (.nilp) := by kernel_rfl
@[simp] theorem ld_372 : loadT Tryz.prog 372 = some (2, true) := by kernel_rfl
@[simp] theorem sz_372 : szT Tryz.prog 372 = some 2 := by kernel_rfl
@[simp] theorem ag_372 : aggT Tryz.prog 372 = some true := by kernel_rfl
@[simp] theorem fd_372_0 : fieldT Tryz.prog 372 0 = some (0, 1, false) := by kernel_rfl
@[simp] theorem fd_372_1 : fieldT Tryz.prog 372 1 = some (1, 1, false) := by kernel_rfl
@[simp] theorem pl_372 : placesT Tryz.prog 372 = some [(0, 1), (1, 1)] := by kernel_rfl
@[simp] theorem zt_372 : zeroT Tryz.prog 372 = some (.agg [.str ByteArray.empty, .int .i64 0]) := by kernel_rfl
@[simp] theorem zr_372 : zeroE Tryz.prog 372 = some (.agg [.str ByteArray.empty, .int .i64 0]) := by kernel_rfl
@[simp] theorem ld_382 : loadT Tryz.prog 382 = some (1, false) := by kernel_rfl
@[simp] theorem sz_382 : szT Tryz.prog 382 = some 1 := by kernel_rfl
@[simp] theorem ag_382 : aggT Tryz.prog 382 = some false := by kernel_rfl
@[simp] theorem ld_383 : loadT Tryz.prog 383 = some (1, false) := by kernel_rfl
@[simp] theorem sz_383 : szT Tryz.prog 383 = some 1 := by kernel_rfl
@[simp] theorem ag_383 : aggT Tryz.prog 383 = some false := by kernel_rfl
@[simp] theorem ld_390 : loadT Tryz.prog 390 = some (1, false) := by kernel_rfl
@[simp] theorem sz_390 : szT Tryz.prog 390 = some 1 := by kernel_rfl
@[simp] theorem ag_390 : aggT Tryz.prog 390 = some false := by kernel_rfl
@[simp] theorem un_390 : Tryz.prog.underlying 390 = some (.int .u32) := by kernel_rfl
@[simp] theorem zt_390 : zeroT Tryz.prog 390 = some (.int .u32 0) := by kernel_rfl
@[simp] theorem zr_390 : zeroE Tryz.prog 390 = some (.int .u32 0) := by kernel_rfl
@[simp] theorem ld_392 : loadT Tryz.prog 392 = some (1, false) := by kernel_rfl
@[simp] theorem sz_392 : szT Tryz.prog 392 = some 1 := by kernel_rfl
@[simp] theorem ag_392 : aggT Tryz.prog 392 = some false := by kernel_rfl
@[simp] theorem un_392 : Tryz.prog.underlying 392 = some (.int .u64) := by kernel_rfl
@[simp] theorem zt_392 : zeroT Tryz.prog 392 = some (.int .u64 0) := by kernel_rfl
@[simp] theorem zr_392 : zeroE Tryz.prog 392 = some (.int .u64 0) := by kernel_rfl
@[simp] theorem ld_409 : loadT Tryz.prog 409 = some (1, false) := by kernel_rfl
@[simp] theorem sz_409 : szT Tryz.prog 409 = some 1 := by kernel_rfl
@[simp] theorem ag_409 : aggT Tryz.prog 409 = some false := by kernel_rfl
@[simp] theorem ld_413 : loadT Tryz.prog 413 = some (1, false) := by kernel_rfl
@[simp] theorem sz_413 : szT Tryz.prog 413 = some 1 := by kernel_rfl
@[simp] theorem ag_413 : aggT Tryz.prog 413 = some false := by kernel_rfl
@[simp] theorem es_413 : esz Tryz.prog 413 = some 1 := by kernel_rfl
@[simp] theorem el_413 : elemT Tryz.prog 413 = some 26 := by kernel_rfl
@[simp] theorem un_413 : Tryz.prog.underlying 413 = some (.slice 26) := by kernel_rfl
@[simp] theorem ii_413 : isIntT Tryz.prog 413 = some false := by kernel_rfl
@[simp] theorem by_26 : bytesT Tryz.prog 26 = some 24 := by kernel_rfl
theorem et_413 : ElemT Tryz.prog 413 26 1 24 := ⟨by kernel_rfl, by kernel_rfl, by kernel_rfl, by kernel_rfl, ⟨.lst true 0 [], by kernel_rfl, by kernel_rfl⟩, by decide⟩
@[simp] theorem zt_413 : zeroT Tryz.prog 413 = some (.lst true 0 []) := by kernel_rfl
@[simp] theorem zr_413 : zeroE Tryz.prog 413 = some (.lst true 0 []) := by kernel_rfl
@[simp] theorem ld_415 : loadT Tryz.prog 415 = some (3, true) := by kernel_rfl
@[simp] theorem sz_415 : szT Tryz.prog 415 = some 3 := by kernel_rfl
@[simp] theorem ag_415 : aggT Tryz.prog 415 = some true := by kernel_rfl
@[simp] theorem fd_415_0 : fieldT Tryz.prog 415 0 = some (0, 1, false) := by kernel_rfl
@[simp] theorem fd_415_1 : fieldT Tryz.prog 415 1 = some (1, 1, false) := by kernel_rfl
@[simp] theorem fd_415_2 : fieldT Tryz.prog 415 2 = some (2, 1, false) := by kernel_rfl
@[simp] theorem pl_415 : placesT Tryz.prog 415 = some [(0, 1), (1, 1), (2, 1)] := by kernel_rfl
@[simp] theorem zt_415 : zeroT Tryz.prog 415 = some (.agg [.int .i64 0, .str ByteArray.empty, .int .i64 0]) := by kernel_rfl
@[simp] theorem zr_415 : zeroE Tryz.prog 415 = some (.agg [.int .i64 0, .str ByteArray.empty, .int .i64 0]) := by kernel_rfl
@[simp] theorem ld_416 : loadT Tryz.prog 416 = some (3, true) := by kernel_rfl
@[simp] theorem sz_416 : szT Tryz.prog 416 = some 3 := by kernel_rfl
@[simp] theorem ag_416 : aggT Tryz.prog 416 = some true := by kernel_rfl
@[simp] theorem fd_416_0 : fieldT Tryz.prog 416 0 = some (0, 1, false) := by kernel_rfl
@[simp] theorem fd_416_1 : fieldT Tryz.prog 416 1 = some (1, 1, false) := by kernel_rfl
@[simp] theorem fd_416_2 : fieldT Tryz.prog 416 2 = some (2, 1, false) := by kernel_rfl
@[simp] theorem pl_416 : placesT Tryz.prog 416 = some [(0, 1), (1, 1), (2, 1)] := by kernel_rfl
@[simp] theorem zt_416 : zeroT Tryz.prog 416 = some (.agg [.int .i64 0, .str ByteArray.empty, .int .i64 0]) := by kernel_rfl
@[simp] theorem zr_416 : zeroE Tryz.prog 416 = some (.agg [.int .i64 0, .str ByteArray.empty, .int .i64 0]) := by kernel_rfl
@[simp] theorem ld_417 : loadT Tryz.prog 417 = some (1, false) := by kernel_rfl
@[simp] theorem sz_417 : szT Tryz.prog 417 = some 1 := by kernel_rfl
@[simp] theorem ag_417 : aggT Tryz.prog 417 = some false := by kernel_rfl
@[simp] theorem ld_427 : loadT Tryz.prog 427 = some (1, false) := by kernel_rfl
@[simp] theorem sz_427 : szT Tryz.prog 427 = some 1 := by kernel_rfl
@[simp] theorem ag_427 : aggT Tryz.prog 427 = some false := by kernel_rfl
@[simp] theorem es_427 : esz Tryz.prog 427 = some 1 := by kernel_rfl
@[simp] theorem el_427 : elemT Tryz.prog 427 = some 189 := by kernel_rfl
@[simp] theorem un_427 : Tryz.prog.underlying 427 = some (.slice 189) := by kernel_rfl
@[simp] theorem ii_427 : isIntT Tryz.prog 427 = some false := by kernel_rfl
@[simp] theorem by_189 : bytesT Tryz.prog 189 = some 24 := by kernel_rfl
theorem et_427 : ElemT Tryz.prog 427 189 1 24 := ⟨by kernel_rfl, by kernel_rfl, by kernel_rfl, by kernel_rfl, ⟨.lst true 0 [], by kernel_rfl, by kernel_rfl⟩, by decide⟩
@[simp] theorem zt_427 : zeroT Tryz.prog 427 = some (.lst true 0 []) := by kernel_rfl
@[simp] theorem zr_427 : zeroE Tryz.prog 427 = some (.lst true 0 []) := by kernel_rfl
@[simp] theorem ld_435 : loadT Tryz.prog 435 = some (2, true) := by kernel_rfl
@[simp] theorem sz_435 : szT Tryz.prog 435 = some 2 := by kernel_rfl
@[simp] theorem ag_435 : aggT Tryz.prog 435 = some true := by kernel_rfl
@[simp] theorem fd_435_0 : fieldT Tryz.prog 435 0 = some (0, 1, false) := by kernel_rfl
@[simp] theorem fd_435_1 : fieldT Tryz.prog 435 1 = some (1, 1, false) := by kernel_rfl
@[simp] theorem pl_435 : placesT Tryz.prog 435 = some [(0, 1), (1, 1)] := by kernel_rfl
@[simp] theorem zt_435 : zeroT Tryz.prog 435 = some (.agg [.int .i64 0, .int .i64 0]) := by kernel_rfl
@[simp] theorem zr_435 : zeroE Tryz.prog 435 = some (.agg [.int .i64 0, .int .i64 0]) := by kernel_rfl
@[simp] theorem ld_485 : loadT Tryz.prog 485 = some (1, false) := by kernel_rfl
@[simp] theorem sz_485 : szT Tryz.prog 485 = some 1 := by kernel_rfl
@[simp] theorem ag_485 : aggT Tryz.prog 485 = some false := by kernel_rfl
@[simp] theorem un_485 : Tryz.prog.underlying 485 = some (.pointer 5) := by kernel_rfl
@[simp] theorem zt_485 : zeroT Tryz.prog 485 = some (.nilp) := by kernel_rfl
@[simp] theorem zr_485 : zeroE Tryz.prog 485 = some (.nilp) := by kernel_rfl
@[simp] theorem ld_490 : loadT Tryz.prog 490 = some (1, false) := by kernel_rfl
@[simp] theorem sz_490 : szT Tryz.prog 490 = some 1 := by kernel_rfl
@[simp] theorem ag_490 : aggT Tryz.prog 490 = some false := by kernel_rfl
end Go.T
