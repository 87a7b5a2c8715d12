/- Facts about the types of the program. The cursor over a draw's bytes: what its functions may answer. Numbers that go round: what the program and the reference compute; the law's function. The bytes that a law is handed, beside the table. Names: what the program and the reference compute. What the laws' measuring, copying and comparing functions compute. What the laws' copying and comparing functions compute. What is right: what the program and the reference compute. What is right: what the program and the reference compute. Expressions that are right: what the program computes. Expressions that are right: what the reference computes. -/
import Derived.Test.YtdbnllfjmkmdiaaGreatDoorG8
import Derived.Test.YtdbnllfjmkmdiaaGreatDoorG3
import Derived.Test.YtdbnllfjmkmdiaaGreatDoorProg
import Derived.Test.YtdbnllfjmkmdiaaGreatDoorG4
set_option linter.unusedSimpArgs false
set_option linter.unusedVariables false
namespace Go.T
open Go Go.Proofs
set_option maxRecDepth 10000
@[simp] theorem ld_2 : loadT Tryz.prog 2 = some (1, false) := by kernel_rfl
@[simp] theorem sz_2 : szT Tryz.prog 2 = some 1 := by kernel_rfl
@[simp] theorem ag_2 : aggT Tryz.prog 2 = some false := by kernel_rfl
@[simp] theorem un_2 : Tryz.prog.underlying 2 = some (.int .i64) := by kernel_rfl
@[simp] theorem zt_2 : zeroT Tryz.prog 2 = some (.int .i64 0) := by kernel_rfl
@[simp] theorem zr_2 : zeroE Tryz.prog 2 = some (.int .i64 0) := by kernel_rfl
@[simp] theorem ld_3 : loadT Tryz.prog 3 = some (1, false) := by kernel_rfl
@[simp] theorem sz_3 : szT Tryz.prog 3 = some 1 := by kernel_rfl
@[simp] theorem ag_3 : aggT Tryz.prog 3 = some false := by kernel_rfl
@[simp] theorem un_3 : Tryz.prog.underlying 3 = some (.int .i64) := by kernel_rfl
@[simp] theorem zt_3 : zeroT Tryz.prog 3 = some (.int .i64 0) := by kernel_rfl
@[simp] theorem zr_3 : zeroE Tryz.prog 3 = some (.int .i64 0) := by kernel_rfl
@[simp] theorem ld_4 : loadT Tryz.prog 4 = some (1, false) := by kernel_rfl
@[simp] theorem sz_4 : szT Tryz.prog 4 = some 1 := by kernel_rfl
@[simp] theorem ag_4 : aggT Tryz.prog 4 = some false := by kernel_rfl
@[simp] theorem un_4 : Tryz.prog.underlying 4 = some .bool := by kernel_rfl
@[simp] theorem zt_4 : zeroT Tryz.prog 4 = some (.bool false) := by kernel_rfl
@[simp] theorem zr_4 : zeroE Tryz.prog 4 = some (.bool false) := by kernel_rfl
@[simp] theorem ld_5 : loadT Tryz.prog 5 = some (1, false) := by kernel_rfl
@[simp] theorem sz_5 : szT Tryz.prog 5 = some 1 := by kernel_rfl
@[simp] theorem ag_5 : aggT Tryz.prog 5 = some false := by kernel_rfl
@[simp] theorem un_5 : Tryz.prog.underlying 5 = some (.int .u8) := by kernel_rfl
@[simp] theorem zt_5 : zeroT Tryz.prog 5 = some (.int .u8 0) := by kernel_rfl
@[simp] theorem zr_5 : zeroE Tryz.prog 5 = some (.int .u8 0) := by kernel_rfl
@[simp] theorem ld_9 : loadT Tryz.prog 9 = some (1, false) := by kernel_rfl
@[simp] theorem sz_9 : szT Tryz.prog 9 = some 1 := by kernel_rfl
@[simp] theorem ag_9 : aggT Tryz.prog 9 = some false := by kernel_rfl
@[simp] theorem un_9 : Tryz.prog.underlying 9 = some .string := by kernel_rfl
@[simp] theorem zt_9 : zeroT Tryz.prog 9 = some (.str ByteArray.empty) := by kernel_rfl
@[simp] theorem zr_9 : zeroE Tryz.prog 9 = some (.str ByteArray.empty) := by kernel_rfl
@[simp] theorem ld_21 : loadT Tryz.prog 21 = some (1, false) := by kernel_rfl
@[simp] theorem sz_21 : szT Tryz.prog 21 = some 1 := by kernel_rfl
@[simp] theorem ag_21 : aggT Tryz.prog 21 = some false := by kernel_rfl
@[simp] theorem un_21 : Tryz.prog.underlying 21 = some (.int .i32) := by kernel_rfl
@[simp] theorem zt_21 : zeroT Tryz.prog 21 = some (.int .i32 0) := by kernel_rfl
@[simp] theorem zr_21 : zeroE Tryz.prog 21 = some (.int .i32 0) := by kernel_rfl
@[simp] theorem ld_22 : loadT Tryz.prog 22 = some (1, false) := by kernel_rfl
@[simp] theorem sz_22 : szT Tryz.prog 22 = some 1 := by kernel_rfl
@[simp] theorem ag_22 : aggT Tryz.prog 22 = some false := by kernel_rfl
@[simp] theorem es_22 : esz Tryz.prog 22 = some 1 := by kernel_rfl
@[simp] theorem el_22 : elemT Tryz.prog 22 = some 5 := by kernel_rfl
@[simp] theorem un_22 : Tryz.prog.underlying 22 = some (.slice 5) := by kernel_rfl
@[simp] theorem ii_22 : isIntT Tryz.prog 22 = some false := by kernel_rfl
@[simp] theorem by_5 : bytesT Tryz.prog 5 = some 1 := by kernel_rfl
theorem et_22 : ElemT Tryz.prog 22 5 1 1 := ⟨by kernel_rfl, by kernel_rfl, by kernel_rfl, by kernel_rfl, ⟨.int .u8 0, by kernel_rfl, by kernel_rfl⟩, by decide⟩
@[simp] theorem zt_22 : zeroT Tryz.prog 22 = some (.lst true 0 []) := by kernel_rfl
@[simp] theorem zr_22 : zeroE Tryz.prog 22 = some (.lst true 0 []) := by kernel_rfl
@[simp] theorem ld_24 : loadT Tryz.prog 24 = some (1, false) := by kernel_rfl
@[simp] theorem sz_24 : szT Tryz.prog 24 = some 1 := by kernel_rfl
@[simp] theorem ag_24 : aggT Tryz.prog 24 = some false := by kernel_rfl
@[simp] theorem es_24 : esz Tryz.prog 24 = some 4 := by kernel_rfl
@[simp] theorem el_24 : elemT Tryz.prog 24 = some 26 := by kernel_rfl
@[simp] theorem un_24 : Tryz.prog.underlying 24 = some (.slice 26) := by kernel_rfl
@[simp] theorem ii_24 : isIntT Tryz.prog 24 = some false := by kernel_rfl
@[simp] theorem by_26 : bytesT Tryz.prog 26 = some 56 := by kernel_rfl
theorem et_24 : ElemT Tryz.prog 24 26 4 56 := ⟨by kernel_rfl, by kernel_rfl, by kernel_rfl, by kernel_rfl, ⟨.agg [.int .i64 0, .int .i64 0, .str ByteArray.empty, .lst true 0 []], by kernel_rfl, by kernel_rfl⟩, by decide⟩
@[simp] theorem zt_24 : zeroT Tryz.prog 24 = some (.lst true 0 []) := by kernel_rfl
@[simp] theorem zr_24 : zeroE Tryz.prog 24 = some (.lst true 0 []) := by kernel_rfl
@[simp] theorem ld_26 : loadT Tryz.prog 26 = some (4, true) := by kernel_rfl
@[simp] theorem sz_26 : szT Tryz.prog 26 = some 4 := by kernel_rfl
@[simp] theorem ag_26 : aggT Tryz.prog 26 = some true := by kernel_rfl
@[simp] theorem fd_26_0 : fieldT Tryz.prog 26 0 = some (0, 1, false) := by kernel_rfl
@[simp] theorem fd_26_1 : fieldT Tryz.prog 26 1 = some (1, 1, false) := by kernel_rfl
@[simp] theorem fd_26_2 : fieldT Tryz.prog 26 2 = some (2, 1, false) := by kernel_rfl
@[simp] theorem fd_26_3 : fieldT Tryz.prog 26 3 = some (3, 1, false) := by kernel_rfl
@[simp] theorem pl_26 : placesT Tryz.prog 26 = some [(0, 1), (1, 1), (2, 1), (3, 1)] := by kernel_rfl
@[simp] theorem zt_26 : zeroT Tryz.prog 26 = some (.agg [.int .i64 0, .int .i64 0, .str ByteArray.empty, .lst true 0 []]) := by kernel_rfl
@[simp] theorem zr_26 : zeroE Tryz.prog 26 = some (.agg [.int .i64 0, .int .i64 0, .str ByteArray.empty, .lst true 0 []]) := by kernel_rfl
@[simp] theorem ld_29 : loadT Tryz.prog 29 = some (1, false) := by kernel_rfl
@[simp] theorem sz_29 : szT Tryz.prog 29 = some 1 := by kernel_rfl
@[simp] theorem ag_29 : aggT Tryz.prog 29 = some false := by kernel_rfl
@[simp] theorem es_29 : esz Tryz.prog 29 = some 2 := by kernel_rfl
@[simp] theorem el_29 : elemT Tryz.prog 29 = some 57 := by kernel_rfl
@[simp] theorem un_29 : Tryz.prog.underlying 29 = some (.slice 57) := by kernel_rfl
@[simp] theorem ii_29 : isIntT Tryz.prog 29 = some false := by kernel_rfl
@[simp] theorem by_57 : bytesT Tryz.prog 57 = some 24 := by kernel_rfl
theorem et_29 : ElemT Tryz.prog 29 57 2 24 := ⟨by kernel_rfl, by kernel_rfl, by kernel_rfl, by kernel_rfl, ⟨.agg [.str ByteArray.empty, .int .i64 0], by kernel_rfl, by kernel_rfl⟩, by decide⟩
@[simp] theorem zt_29 : zeroT Tryz.prog 29 = some (.lst true 0 []) := by kernel_rfl
@[simp] theorem zr_29 : zeroE Tryz.prog 29 = some (.lst true 0 []) := by kernel_rfl
@[simp] theorem ld_30 : loadT Tryz.prog 30 = some (1, false) := by kernel_rfl
@[simp] theorem sz_30 : szT Tryz.prog 30 = some 1 := by kernel_rfl
@[simp] theorem ag_30 : aggT Tryz.prog 30 = some false := by kernel_rfl
@[simp] theorem es_30 : esz Tryz.prog 30 = some 19 := by kernel_rfl
@[simp] theorem el_30 : elemT Tryz.prog 30 = some 83 := by kernel_rfl
@[simp] theorem un_30 : Tryz.prog.underlying 30 = some (.slice 83) := by kernel_rfl
@[simp] theorem ii_30 : isIntT Tryz.prog 30 = some false := by kernel_rfl
@[simp] theorem by_83 : bytesT Tryz.prog 83 = some 272 := by kernel_rfl
theorem et_30 : ElemT Tryz.prog 30 83 19 272 := ⟨by kernel_rfl, by kernel_rfl, by kernel_rfl, by kernel_rfl, ⟨.agg [.int .i64 0, .str ByteArray.empty, .int .i64 0, .int .i64 0, .str ByteArray.empty, .lst true 0 [], .int .i64 0, .int .i64 0, .str ByteArray.empty, .lst true 0 [], .int .i64 0, .int .i64 0, .str ByteArray.empty, .lst true 0 [], .int .i64 0, .int .i64 0, .str ByteArray.empty, .lst true 0 [], .lst true 0 []], by kernel_rfl, by kernel_rfl⟩, by decide⟩
@[simp] theorem zt_30 : zeroT Tryz.prog 30 = some (.lst true 0 []) := by kernel_rfl
@[simp] theorem zr_30 : zeroE Tryz.prog 30 = some (.lst true 0 []) := by kernel_rfl
@[simp] theorem ld_32 : loadT Tryz.prog 32 = some (2, true) := by kernel_rfl
@[simp] theorem sz_32 : szT Tryz.prog 32 = some 2 := by kernel_rfl
@[simp] theorem ag_32 : aggT Tryz.prog 32 = some true := by kernel_rfl
@[simp] theorem fd_32_0 : fieldT Tryz.prog 32 0 = some (0, 1, false) := by kernel_rfl
@[simp] theorem fd_32_1 : fieldT Tryz.prog 32 1 = some (1, 1, false) := by kernel_rfl
@[simp] theorem pl_32 : placesT Tryz.prog 32 = some [(0, 1), (1, 1)] := by kernel_rfl
@[simp] theorem zt_32 : zeroT Tryz.prog 32 = some (.agg [.lst true 0 [], .lst true 0 []]) := by kernel_rfl
@[simp] theorem zr_32 : zeroE Tryz.prog 32 = some (.agg [.lst true 0 [], .lst true 0 []]) := by kernel_rfl
@[simp] theorem ld_40 : loadT Tryz.prog 40 = some (1, false) := by kernel_rfl
@[simp] theorem sz_40 : szT Tryz.prog 40 = some 1 := by kernel_rfl
@[simp] theorem ag_40 : aggT Tryz.prog 40 = some false := by kernel_rfl
@[simp] theorem es_40 : esz Tryz.prog 40 = some 3 := by kernel_rfl
@[simp] theorem el_40 : elemT Tryz.prog 40 = some 77 := by kernel_rfl
@[simp] theorem un_40 : Tryz.prog.underlying 40 = some (.slice 77) := by kernel_rfl
@[simp] theorem ii_40 : isIntT Tryz.prog 40 = some false := by kernel_rfl
@[simp] theorem by_77 : bytesT Tryz.prog 77 = some 32 := by kernel_rfl
theorem et_40 : ElemT Tryz.prog 40 77 3 32 := ⟨by kernel_rfl, by kernel_rfl, by kernel_rfl, by kernel_rfl, ⟨.agg [.int .i64 0, .str ByteArray.empty, .int .i64 0], by kernel_rfl, by kernel_rfl⟩, by decide⟩
@[simp] theorem zt_40 : zeroT Tryz.prog 40 = some (.lst true 0 []) := by kernel_rfl
@[simp] theorem zr_40 : zeroE Tryz.prog 40 = some (.lst true 0 []) := by kernel_rfl
@[simp] theorem ld_49 : loadT Tryz.prog 49 = some (1, false) := by kernel_rfl
@[simp] theorem sz_49 : szT Tryz.prog 49 = some 1 := by kernel_rfl
@[simp] theorem ag_49 : aggT Tryz.prog 49 = some false := by kernel_rfl
@[simp] theorem un_49 : Tryz.prog.underlying 49 = some (.pointer 110) := by kernel_rfl
@[simp] theorem zt_49 : zeroT Tryz.prog 49 = some (.nilp) := by kernel_rfl
@[simp] theorem zr_49 : zeroE Tryz.prog 49 = some (.nilp) := by kernel_rfl
@[simp] theorem ld_53 : loadT Tryz.prog 53 = some (1, false) := by kernel_rfl
@[simp] theorem sz_53 : szT Tryz.prog 53 = some 1 := by kernel_rfl
@[simp] theorem ag_53 : aggT Tryz.prog 53 = some false := by kernel_rfl
@[simp] theorem un_53 : Tryz.prog.underlying 53 = some (.pointer 55) := by kernel_rfl
@[simp] theorem zt_53 : zeroT Tryz.prog 53 = some (.nilp) := by kernel_rfl
@[simp] theorem zr_53 : zeroE Tryz.prog 53 = some (.nilp) := by kernel_rfl
@[simp] theorem ld_55 : loadT Tryz.prog 55 = some (2, true) := by kernel_rfl
@[simp] theorem sz_55 : szT Tryz.prog 55 = some 2 := by kernel_rfl
@[simp] theorem ag_55 : aggT Tryz.prog 55 = some true := by kernel_rfl
@[simp] theorem fd_55_0 : fieldT Tryz.prog 55 0 = some (0, 1, false) := by kernel_rfl
@[simp] theorem fd_55_1 : fieldT Tryz.prog 55 1 = some (1, 1, false) := by kernel_rfl
@[simp] theorem pl_55 : placesT Tryz.prog 55 = some [(0, 1), (1, 1)] := by kernel_rfl
@[simp] theorem zt_55 : zeroT Tryz.prog 55 = some (.agg [.nilp, .lst true 0 []]) := by kernel_rfl
@[simp] theorem zr_55 : zeroE Tryz.prog 55 = some (.agg [.nilp, .lst true 0 []]) := by kernel_rfl
@[simp] theorem ld_57 : loadT Tryz.prog 57 = some (2, true) := by kernel_rfl
@[simp] theorem sz_57 : szT Tryz.prog 57 = some 2 := by kernel_rfl
@[simp] theorem ag_57 : aggT Tryz.prog 57 = some true := by kernel_rfl
@[simp] theorem fd_57_0 : fieldT Tryz.prog 57 0 = some (0, 1, false) := by kernel_rfl
@[simp] theorem fd_57_1 : fieldT Tryz.prog 57 1 = some (1, 1, false) := by kernel_rfl
@[simp] theorem pl_57 : placesT Tryz.prog 57 = some [(0, 1), (1, 1)] := by kernel_rfl
@[simp] theorem zt_57 : zeroT Tryz.prog 57 = some (.agg [.str ByteArray.empty, .int .i64 0]) := by kernel_rfl
@[simp] theorem zr_57 : zeroE Tryz.prog 57 = some (.agg [.str ByteArray.empty, .int .i64 0]) := by kernel_rfl
@[simp] theorem ld_68 : loadT Tryz.prog 68 = some (4, true) := by kernel_rfl
@[simp] theorem sz_68 : szT Tryz.prog 68 = some 4 := by kernel_rfl
@[simp] theorem ag_68 : aggT Tryz.prog 68 = some true := by kernel_rfl
@[simp] theorem fd_68_0 : fieldT Tryz.prog 68 0 = some (0, 1, false) := by kernel_rfl
@[simp] theorem fd_68_1 : fieldT Tryz.prog 68 1 = some (1, 1, false) := by kernel_rfl
@[simp] theorem fd_68_2 : fieldT Tryz.prog 68 2 = some (2, 1, false) := by kernel_rfl
@[simp] theorem fd_68_3 : fieldT Tryz.prog 68 3 = some (3, 1, false) := by kernel_rfl
@[simp] theorem pl_68 : placesT Tryz.prog 68 = some [(0, 1), (1, 1), (2, 1), (3, 1)] := by kernel_rfl
@[simp] theorem zt_68 : zeroT Tryz.prog 68 = some (.agg [.lst true 0 [], .int .i64 0, .int .i64 0, .bool false]) := by kernel_rfl
@[simp] theorem zr_68 : zeroE Tryz.prog 68 = some (.agg [.lst true 0 [], .int .i64 0, .int .i64 0, .bool false]) := by kernel_rfl
@[simp] theorem ld_70 : loadT Tryz.prog 70 = some (1, false) := by kernel_rfl
@[simp] theorem sz_70 : szT Tryz.prog 70 = some 1 := by kernel_rfl
@[simp] theorem ag_70 : aggT Tryz.prog 70 = some false := by kernel_rfl
@[simp] theorem es_70 : esz Tryz.prog 70 = some 1 := by kernel_rfl
@[simp] theorem el_70 : elemT Tryz.prog 70 = some 9 := by kernel_rfl
@[simp] theorem un_70 : Tryz.prog.underlying 70 = some (.slice 9) := by kernel_rfl
@[simp] theorem ii_70 : isIntT Tryz.prog 70 = some false := by kernel_rfl
@[simp] theorem by_9 : bytesT Tryz.prog 9 = some 16 := by kernel_rfl
theorem et_70 : ElemT Tryz.prog 70 9 1 16 := ⟨by kernel_rfl, by kernel_rfl, by kernel_rfl, by kernel_rfl, ⟨.str ByteArray.empty, by kernel_rfl, by kernel_rfl⟩, by decide⟩
@[simp] theorem zt_70 : zeroT Tryz.prog 70 = some (.lst true 0 []) := by kernel_rfl
@[simp] theorem zr_70 : zeroE Tryz.prog 70 = some (.lst true 0 []) := by kernel_rfl
@[simp] theorem ld_77 : loadT Tryz.prog 77 = some (3, true) := by kernel_rfl
@[simp] theorem sz_77 : szT Tryz.prog 77 = some 3 := by kernel_rfl
@[simp] theorem ag_77 : aggT Tryz.prog 77 = some true := by kernel_rfl
@[simp] theorem fd_77_0 : fieldT Tryz.prog 77 0 = some (0, 1, false) := by kernel_rfl
@[simp] theorem fd_77_1 : fieldT Tryz.prog 77 1 = some (1, 1, false) := by kernel_rfl
@[simp] theorem fd_77_2 : fieldT Tryz.prog 77 2 = some (2, 1, false) := by kernel_rfl
@[simp] theorem pl_77 : placesT Tryz.prog 77 = some [(0, 1), (1, 1), (2, 1)] := by kernel_rfl
@[simp] theorem zt_77 : zeroT Tryz.prog 77 = some (.agg [.int .i64 0, .str ByteArray.empty, .int .i64 0]) := by kernel_rfl
@[simp] theorem zr_77 : zeroE Tryz.prog 77 = some (.agg [.int .i64 0, .str ByteArray.empty, .int .i64 0]) := by kernel_rfl
@[simp] theorem ld_83 : loadT Tryz.prog 83 = some (19, true) := by kernel_rfl
@[simp] theorem sz_83 : szT Tryz.prog 83 = some 19 := by kernel_rfl
@[simp] theorem ag_83 : aggT Tryz.prog 83 = some true := by kernel_rfl
@[simp] theorem fd_83_0 : fieldT Tryz.prog 83 0 = some (0, 1, false) := by kernel_rfl
@[simp] theorem fd_83_1 : fieldT Tryz.prog 83 1 = some (1, 1, false) := by kernel_rfl
@[simp] theorem fd_83_2 : fieldT Tryz.prog 83 2 = some (2, 4, true) := by kernel_rfl
@[simp] theorem fd_83_3 : fieldT Tryz.prog 83 3 = some (6, 4, true) := by kernel_rfl
@[simp] theorem fd_83_4 : fieldT Tryz.prog 83 4 = some (10, 4, true) := by kernel_rfl
@[simp] theorem fd_83_5 : fieldT Tryz.prog 83 5 = some (14, 4, true) := by kernel_rfl
@[simp] theorem fd_83_6 : fieldT Tryz.prog 83 6 = some (18, 1, false) := by kernel_rfl
@[simp] theorem pl_83 : placesT Tryz.prog 83 = some [(0, 1), (1, 1), (2, 4), (6, 4), (10, 4), (14, 4), (18, 1)] := by kernel_rfl
@[simp] theorem zt_83 : zeroT Tryz.prog 83 = some (.agg [.int .i64 0, .str ByteArray.empty, .int .i64 0, .int .i64 0, .str ByteArray.empty, .lst true 0 [], .int .i64 0, .int .i64 0, .str ByteArray.empty, .lst true 0 [], .int .i64 0, .int .i64 0, .str ByteArray.empty, .lst true 0 [], .int .i64 0, .int .i64 0, .str ByteArray.empty, .lst true 0 [], .lst true 0 []]) := by kernel_rfl
@[simp] theorem zr_83 : zeroE Tryz.prog 83 = some (.agg [.int .i64 0, .str ByteArray.empty, .int .i64 0, .int .i64 0, .str ByteArray.empty, .lst true 0 [], .int .i64 0, .int .i64 0, .str ByteArray.empty, .lst true 0 [], .int .i64 0, .int .i64 0, .str ByteArray.empty, .lst true 0 [], .int .i64 0, .int .i64 0, .str ByteArray.empty, .lst true 0 [], .lst true 0 []]) := by kernel_rfl
@[simp] theorem ld_110 : loadT Tryz.prog 110 = some (3, true) := by kernel_rfl
@[simp] theorem sz_110 : szT Tryz.prog 110 = some 3 := by kernel_rfl
@[simp] theorem ag_110 : aggT Tryz.prog 110 = some true := by kernel_rfl
@[simp] theorem fd_110_0 : fieldT Tryz.prog 110 0 = some (0, 1, false) := by kernel_rfl
@[simp] theorem fd_110_1 : fieldT Tryz.prog 110 1 = some (1, 1, false) := by kernel_rfl
@[simp] theorem fd_110_2 : fieldT Tryz.prog 110 2 = some (2, 1, false) := by kernel_rfl
@[simp] theorem pl_110 : placesT Tryz.prog 110 = some [(0, 1), (1, 1), (2, 1)] := by kernel_rfl
@[simp] theorem zt_110 : zeroT Tryz.prog 110 = some (.agg [.lst true 0 [], .int .i64 0, .int .i64 0]) := by kernel_rfl
@[simp] theorem zr_110 : zeroE Tryz.prog 110 = some (.agg [.lst true 0 [], .int .i64 0, .int .i64 0]) := by kernel_rfl
@[simp] theorem ld_112 : loadT Tryz.prog 112 = some (1, false) := by kernel_rfl
@[simp] theorem sz_112 : szT Tryz.prog 112 = some 1 := by kernel_rfl
@[simp] theorem ag_112 : aggT Tryz.prog 112 = some false := by kernel_rfl
@[simp] theorem es_112 : esz Tryz.prog 112 = some 1 := by kernel_rfl
@[simp] theorem el_112 : elemT Tryz.prog 112 = some 3 := by kernel_rfl
@[simp] theorem un_112 : Tryz.prog.underlying 112 = some (.slice 3) := by kernel_rfl
@[simp] theorem ii_112 : isIntT Tryz.prog 112 = some false := by kernel_rfl
@[simp] theorem by_3 : bytesT Tryz.prog 3 = some 8 := by kernel_rfl
theorem et_112 : ElemT Tryz.prog 112 3 1 8 := ⟨by kernel_rfl, by kernel_rfl, by kernel_rfl, by kernel_rfl, ⟨.int .i64 0, by kernel_rfl, by kernel_rfl⟩, by decide⟩
@[simp] theorem zt_112 : zeroT Tryz.prog 112 = some (.lst true 0 []) := by kernel_rfl
@[simp] theorem zr_112 : zeroE Tryz.prog 112 = some (.lst true 0 []) := by kernel_rfl
@[simp] theorem ld_120 : loadT Tryz.prog 120 = some (1, false) := by kernel_rfl
@[simp] theorem sz_120 : szT Tryz.prog 120 = some 1 := by kernel_rfl
@[simp] theorem ag_120 : aggT Tryz.prog 120 = some false := by kernel_rfl
@[simp] theorem un_120 : Tryz.prog.underlying 120 = some (.pointer 5) := by kernel_rfl
@[simp] theorem zt_120 : zeroT Tryz.prog 120 = some (.nilp) := by kernel_rfl
@[simp] theorem zr_120 : zeroE Tryz.prog 120 = some (.nilp) := by kernel_rfl
@[simp] theorem ld_122 : loadT Tryz.prog 122 = some (1, false) := by kernel_rfl
@[simp] theorem sz_122 : szT Tryz.prog 122 = some 1 := by kernel_rfl
@[simp] theorem ag_122 : aggT Tryz.prog 122 = some false := by kernel_rfl
@[simp] theorem un_122 : Tryz.prog.underlying 122 = some (.pointer 68) := by kernel_rfl
@[simp] theorem zt_122 : zeroT Tryz.prog 122 = some (.nilp) := by kernel_rfl
@[simp] theorem zr_122 : zeroE Tryz.prog 122 = some (.nilp) := by kernel_rfl
@[simp] theorem ld_151 : loadT Tryz.prog 151 = some (1, false) := by kernel_rfl
@[simp] theorem sz_151 : szT Tryz.prog 151 = some 1 := by kernel_rfl
@[simp] theorem ag_151 : aggT Tryz.prog 151 = some false := by kernel_rfl
@[simp] theorem ld_158 : loadT Tryz.prog 158 = some (1, false) := by kernel_rfl
@[simp] theorem sz_158 : szT Tryz.prog 158 = some 1 := by kernel_rfl
@[simp] theorem ag_158 : aggT Tryz.prog 158 = some false := by kernel_rfl
@[simp] theorem un_158 : Tryz.prog.underlying 158 = some (.int .u64) := by kernel_rfl
@[simp] theorem zt_158 : zeroT Tryz.prog 158 = some (.int .u64 0) := by kernel_rfl
@[simp] theorem zr_158 : zeroE Tryz.prog 158 = some (.int .u64 0) := by kernel_rfl
@[simp] theorem ld_168 : loadT Tryz.prog 168 = some (1, false) := by kernel_rfl
@[simp] theorem sz_168 : szT Tryz.prog 168 = some 1 := by kernel_rfl
@[simp] theorem ag_168 : aggT Tryz.prog 168 = some false := by kernel_rfl
@[simp] theorem es_168 : esz Tryz.prog 168 = some 1 := by kernel_rfl
@[simp] theorem el_168 : elemT Tryz.prog 168 = some 70 := by kernel_rfl
@[simp] theorem un_168 : Tryz.prog.underlying 168 = some (.slice 70) := by kernel_rfl
@[simp] theorem ii_168 : isIntT Tryz.prog 168 = some false := by kernel_rfl
@[simp] theorem by_70 : bytesT Tryz.prog 70 = some 24 := by kernel_rfl
theorem et_168 : ElemT Tryz.prog 168 70 1 24 := ⟨by kernel_rfl, by kernel_rfl, by kernel_rfl, by kernel_rfl, ⟨.lst true 0 [], by kernel_rfl, by kernel_rfl⟩, by decide⟩
@[simp] theorem zt_168 : zeroT Tryz.prog 168 = some (.lst true 0 []) := by kernel_rfl
@[simp] theorem zr_168 : zeroE Tryz.prog 168 = some (.lst true 0 []) := by kernel_rfl
@[simp] theorem ld_176 : loadT Tryz.prog 176 = some (16, true) := by kernel_rfl
@[simp] theorem sz_176 : szT Tryz.prog 176 = some 16 := by kernel_rfl
@[simp] theorem ag_176 : aggT Tryz.prog 176 = some true := by kernel_rfl
@[simp] theorem un_176 : Tryz.prog.underlying 176 = some (.array 4 26) := by kernel_rfl
@[simp] theorem pl_176 : placesT Tryz.prog 176 = some [(0, 4), (4, 4), (8, 4), (12, 4)] := by kernel_rfl
@[simp] theorem zt_176 : zeroT Tryz.prog 176 = some (.agg [.int .i64 0, .int .i64 0, .str ByteArray.empty, .lst true 0 [], .int .i64 0, .int .i64 0, .str ByteArray.empty, .lst true 0 [], .int .i64 0, .int .i64 0, .str ByteArray.empty, .lst true 0 [], .int .i64 0, .int .i64 0, .str ByteArray.empty, .lst true 0 []]) := by kernel_rfl
@[simp] theorem zr_176 : zeroE Tryz.prog 176 = some (.agg [.int .i64 0, .int .i64 0, .str ByteArray.empty, .lst true 0 [], .int .i64 0, .int .i64 0, .str ByteArray.empty, .lst true 0 [], .int .i64 0, .int .i64 0, .str ByteArray.empty, .lst true 0 [], .int .i64 0, .int .i64 0, .str ByteArray.empty, .lst true 0 []]) := by kernel_rfl
end Go.T
namespace Go.T
open Go Go.Proofs
set_option maxRecDepth 10000
set_option maxHeartbeats 1000000
def bys (l : List Int) : AV := .lst false 1 (l.map (AV.int .u8))
def byOk (l : List Int) : Prop := l.length <= 1048576 /\ ∀ x ∈ l, 0 <= x /\ x <= 255
def Cur (l : List Int) (g : Nat) (m : Mem) : Prop := ∃ i h : Int, 0 <= i /\ i <= l.length /\ m g = some (.box [bys l, .int .i64 i, .int .i64 h])
def and64 (a b : Int) : Int := IntKind.wrap .i64 ((BitVec.ofInt 64 a &&& BitVec.ofInt 64 b).toNat : Int)
def xor64 (a b : Int) : Int := IntKind.wrap .i64 ((BitVec.ofInt 64 a ^^^ BitVec.ofInt 64 b).toNat : Int)
theorem and_i64 (a b : Int) : intA .and .i64 a b = some (.int .i64 (and64 a b)) := rfl
theorem xor_i64 (a b : Int) : intA .xor .i64 a b = some (.int .i64 (xor64 a b)) := rfl
theorem shr33 (a : Int) : binA .shr (.int .i64 a) (.int .u64 33) = some (.int .i64 (a.fdiv 8589934592)) := rfl
theorem shr47 (a : Int) : binA .shr (.int .i64 a) (.int .u64 47) = some (.int .i64 (a.fdiv 140737488355328)) := rfl
theorem and255 (a : Int) : 0 <= and64 a 255 /\ and64 a 255 <= 255 := by
 have h : (BitVec.ofInt 64 a &&& BitVec.ofInt 64 255).toNat <= 255 := by
  rw [BitVec.toNat_and]
  exact Nat.le_trans Nat.and_le_right (by decide)
 unfold and64
 rw [wrap64 (by omega) (by omega)]
 omega
theorem c_l1New (l : List Int) (hl : byOk l) {m : Mem} {K : AV -> Mem -> Prop} (hK : ∀ g m', m g = none -> Cur l g m' -> Ext m m' -> K (.ptr g 0) m') : WCall Tryz.prog 28 [bys l] m K := by
 obtain ⟨hlen, hby⟩ := hl
 refine wcall_of Tryz.func28 (by kernel_rfl) rfl (by simp [Tryz.f28]) ?_
 unfold bys
 (repeat refine qA ?_);refine rA ?_
 try simp
 (repeat refine qA ?_);refine rA ?_
 try simp
 (repeat refine qA ?_);refine rA ?_
 try simp
 (try refine qA ?_)
 refine AWp.cutA (fun st => st.slots 0 = .lst false 1 (l.map (AV.int .u8)) /\ (∃ h, st.slots 3 = .int .i64 h) /\ st.mem = m) ?_ ?_
 ·refine AWp.block (AWp.rounds (fun k st => ∃ (i : Nat) (h : Int), k = l.length - i /\ i <= l.length /\ st.slots 0 = .lst false 1 (l.map (AV.int .u8)) /\ st.slots 3 = .int .i64 h /\ st.slots 4 = .int .i64 i /\ st.mem = m) l.length ⟨0, _, by simp, by simp, by simp, by simp; rfl, by simp, by simp⟩ ?_)
  rintro R k st hR ⟨i, h, rfl, hi, s0, s3, s4, sm⟩
  by_cases hb : i < l.length
  ·have hq : l[i]? = some l[i] := List.getElem?_eq_getElem hb
   have hw := iA i (by omega)
   have hx : ∀ m, idxA Tryz.prog m 22 (.lst false 1 (l.map (AV.int .u8))) (.int .i64 i) = some (.ref [.int .u8 l[i]]) := fun m => idx (y := .int .u8 l[i]) es_22 (by simp [hq])
   by_cases h4 : (i : Int) < 4000
   ·(repeat refine qA ?_);refine raA ?_
    simp [s0, s4, hb, h4]
    (repeat refine qA ?_);refine tA ?_
    refine kA ?_
    try simp
    (repeat refine qA ?_);refine bA ?_
    (repeat refine qA ?_);refine rA ?_
    simp [s0, s3, s4, hx, and_i64]
    (repeat refine qA ?_);refine rA ?_
    simp [s4, hw]
    exact hR _ (l.length - (i + 1)) (by omega) ⟨i + 1, _, rfl, hb, by simp [s0], by simp; rfl, by simp, by simp [sm]⟩
   (repeat refine qA ?_);refine raA ?_
   simp [s0, s4, hb, h4]
   (repeat refine qA ?_);refine fA ?_
   refine eA ?_
   simp [s0, s3, sm]
  (repeat refine qA ?_);refine raA ?_
  simp [s0, s4, hb]
  (repeat refine qA ?_);refine fA ?_
  refine eA ?_
  simp [s0, s3, sm]
 rintro st ⟨s0, ⟨h, s3⟩, sm⟩
 (repeat refine qA ?_);refine rA ?_
 simp [s0, s3, sm]
 intro g hg
 refine AWp.ret (post_retW rfl ⟨_, _, View.refl _ _, ?_⟩)
 simp [sm]
 exact hK g _ hg ⟨0, h, by omega, by omega, by simp [set_at, bys]⟩ ((Ext.refl m).set hg _)
theorem c_l1Byte {l : List Int} (hl : byOk l) {g : Nat} {m : Mem} (hm : Cur l g m) {K : AV -> Mem -> Prop} (hK : ∀ x m', 0 <= x -> x <= 255 -> Cur l g m' -> (∀ k, k ≠ g -> m' k = m k) -> K (.int .i64 x) m') : WCall Tryz.prog 128 [.ptr g 0] m K := by
 obtain ⟨hlen, hby⟩ := hl
 obtain ⟨i, h, hi0, hil, hm⟩ := hm
 unfold bys at hm
 refine wcall_of Tryz.func128 (by kernel_rfl) rfl (by simp [Tryz.f128]) ?_
 (repeat refine qA ?_);refine rA ?_
 try simp
 (repeat refine qA ?_);refine rA ?_
 simp [hm]
 generalize IntKind.wrap .i64 (IntKind.wrap .i64 (h * 6364136223846793005) + 1442695040888963407) = h1
 have hgg := set_same m g (.box [.lst false 1 (l.map (AV.int .u8)), .int .i64 i, .int .i64 h1])
 have ho : ∀ k, k ≠ g -> (m.set g (.box [.lst false 1 (l.map (AV.int .u8)), .int .i64 i, .int .i64 h1])) k = m k := fun k hk => Mem.set_other hk
 generalize m.set g (.box [.lst false 1 (l.map (AV.int .u8)), .int .i64 i, .int .i64 h1]) = m1 at *
 (repeat refine qA ?_);refine raA ?_
 simp [hgg, and_i64, xor_i64, shr33, shr47]
 have ha := and255 (xor64 (h1.fdiv 8589934592) (h1.fdiv 140737488355328))
 generalize and64 (xor64 (h1.fdiv 8589934592) (h1.fdiv 140737488355328)) 255 = x at *
 (repeat refine qA ?_);refine raA ?_
 simp [hgg]
 by_cases hlt : i < l.length
 ·obtain ⟨n, rfl⟩ := Int.eq_ofNat_of_zero_le hi0
  have hln : n < l.length := by omega
  have hq : l[n]? = some l[n] := List.getElem?_eq_getElem hln
  have hw : IntKind.wrap .i64 ((n : Int) + 1) = (n : Int) + 1 := wrap64 (by omega) (by omega)
  have hx : ∀ m, idxA Tryz.prog m 22 (.lst false 1 (l.map (AV.int .u8))) (.int .i64 n) = some (.ref [.int .u8 l[n]]) := fun m => idx (y := .int .u8 l[n]) es_22 (by simp [hq])
  (repeat refine qA ?_);refine AWp.condT (by simp [hln]) ?_
  (repeat refine qA ?_);refine raA ?_
  simp [hgg, hx, and_i64]
  have hb2 := and255 (IntKind.wrap .i64 (x + IntKind.wrap .i64 l[n]))
  generalize and64 (IntKind.wrap .i64 (x + IntKind.wrap .i64 l[n])) 255 = y at *
  (repeat refine qA ?_);refine rA ?_
  simp [hgg, hw]
  (repeat refine qA ?_);refine rA ?_
  simp
  refine AWp.ret (post_retW rfl ⟨_, _, View.refl _ _, ?_⟩)
  simp
  exact hK y _ hb2.1 hb2.2 ⟨n + 1, h1, by omega, by omega, by simp [set_at, bys]⟩ fun k hk => by rw [set_at, if_neg hk]; exact ho k hk
 (repeat refine qA ?_);refine AWp.condF (by simp; omega) ?_
 refine kA ?_
 try simp
 (repeat refine qA ?_);refine rA ?_
 simp
 refine AWp.ret (post_retW rfl ⟨_, _, View.refl _ _, ?_⟩)
 simp
 exact hK x m1 ha.1 ha.2 ⟨i, h1, hi0, hil, hgg⟩ ho
theorem c_l1Below {l : List Int} (hl : byOk l) {g : Nat} {m : Mem} (hm : Cur l g m) (n : Int) (h0 : 0 < n) {K : AV -> Mem -> Prop} (hK : ∀ x m', 0 <= x -> x < n -> Cur l g m' -> (∀ k, k ≠ g -> m' k = m k) -> K (.int .i64 x) m') : WCall Tryz.prog 75 [.ptr g 0, .int .i64 n] m K := by
 refine wcall_of Tryz.func75 (by kernel_rfl) rfl (by simp [Tryz.f75]) ?_
 (repeat refine qA ?_);refine rA ?_
 try simp
 (repeat refine qA ?_);refine rA ?_
 try simp
 (repeat refine qA ?_);refine AWp.condF (by simp; omega) ?_
 refine kA ?_
 try simp
 (repeat refine qA ?_);refine rA ?_
 try simp
 have key : ∀ x : Int, 0 <= x -> 0 <= x.tmod n /\ x.tmod n < n := fun x hx => by
  rw [Int.tmod_eq_emod_of_nonneg hx]; exact ⟨Int.emod_nonneg _ (by omega), Int.emod_lt_of_pos _ h0⟩
 have hn : ¬ n = 0 := by omega
 by_cases h2 : n <= 256
 ·(repeat refine qA ?_);refine AWp.condT (by simp [h2]) ?_
  (repeat refine qA ?_);refine rA ?_
  simp
  refine wA ?_
  refine c_l1Byte hl hm fun x m' x0 x1 hc ho => ?_
  simp [hn]
  refine AWp.ret (post_retW rfl ⟨_, _, View.refl _ _, ?_⟩)
  simp
  exact hK _ _ (key x x0).1 (key x x0).2 hc ho
 (repeat refine qA ?_);refine AWp.condF (by simp; omega) ?_
 refine kA ?_
 try simp
 (repeat refine qA ?_);refine rA ?_
 simp
 refine wA ?_
 refine c_l1Byte hl hm fun x m1 x0 x1 hc1 ho1 => ?_
 simp
 (repeat refine qA ?_);refine rA ?_
 simp
 refine wA ?_
 refine c_l1Byte hl hc1 fun y m2 y0 y1 hc2 ho2 => ?_
 simp
 (repeat refine qA ?_);refine rA ?_
 simp
 refine wA ?_
 refine c_l1Byte hl hc2 fun z m3 z0 z1 hc3 ho3 => ?_
 simp
 have w1 : IntKind.wrap .i64 (x * 65536) = x * 65536 := wrap64 (by omega) (by omega)
 have w2 : IntKind.wrap .i64 (y * 256) = y * 256 := wrap64 (by omega) (by omega)
 have w3 : IntKind.wrap .i64 (x * 65536 + y * 256) = x * 65536 + y * 256 := wrap64 (by omega) (by omega)
 have w4 : IntKind.wrap .i64 (x * 65536 + y * 256 + z) = x * 65536 + y * 256 + z := wrap64 (by omega) (by omega)
 (repeat refine qA ?_);refine rA ?_
 simp [w1, w2, w3, w4, hn]
 refine AWp.ret (post_retW rfl ⟨_, _, View.refl _ _, ?_⟩)
 simp
 exact hK _ _ (key _ (by omega)).1 (key _ (by omega)).2 hc3 fun k hk => (ho3 k hk).trans ((ho2 k hk).trans (ho1 k hk))
theorem c_l1Int {l : List Int} (hl : byOk l) {g : Nat} {m : Mem} (hm : Cur l g m) (f : Bool) (ns : List Int) (h0 : 0 < ns.length) (h1 : ns.length <= 1000) {K : AV -> Mem -> Prop} (hK : ∀ x m', x ∈ ns -> Cur l g m' -> (∀ k, k ≠ g -> m' k = m k) -> K (.int .i64 x) m') : WCall Tryz.prog 84 [.ptr g 0, .lst f 1 (ns.map (AV.int .i64))] m K := by
 refine wcall_of Tryz.func84 (by kernel_rfl) rfl (by simp [Tryz.f84]) ?_
 (repeat refine qA ?_);refine rA ?_
 try simp
 (repeat refine qA ?_);refine rA ?_
 simp
 refine wA ?_
 refine c_l1Below hl hm ns.length (by omega) fun x m' x0 x1 hc ho => ?_
 obtain ⟨j, rfl⟩ := Int.eq_ofNat_of_zero_le x0
 have hj : j < ns.length := by omega
 have hx : ∀ m, idxA Tryz.prog m 112 (.lst f 1 (ns.map (AV.int .i64))) (.int .i64 j) = some (.ref [.int .i64 ns[j]]) := fun m => idx (y := .int .i64 ns[j]) es_112 (by simp [List.getElem?_eq_getElem hj])
 simp [hx]
 refine AWp.ret (post_retW rfl ⟨_, _, View.refl _ _, ?_⟩)
 simp
 exact hK _ _ (List.getElem_mem hj) hc ho
theorem c_big (l : List Int) (hl : byOk l) : PCall Tryz.prog 6 [bys l] (.bool false) := by
 refine pO Tryz.func6 (by kernel_rfl) rfl (by simp [Tryz.f6]) ?_
 unfold bys
 (repeat refine qA ?_);refine rA ?_
 try simp
 (repeat refine qA ?_);refine rA ?_
 simp
 exact AWp.ret (pR1 rfl (by simp; have := hl.1; omega))
theorem c_bigT (l : List Int) (hl : ¬ l.length <= 1048576) : PCall Tryz.prog 6 [bys l] (.bool true) := by
 refine pO Tryz.func6 (by kernel_rfl) rfl (by simp [Tryz.f6]) ?_
 unfold bys
 (repeat refine qA ?_);refine rA ?_
 try simp
 (repeat refine qA ?_);refine rA ?_
 simp
 exact AWp.ret (pR1 rfl (by simp; omega))
def words : List Int := [0, 1, 2, 3, 7, -1, -5, 100, 65536, 2147483647, -2147483648, 2147483648, 4294967296, -2147483649, 9223372036854775807, -9223372036854775808]
section
variable {H : Type} {enc : TypeId × Value -> H} {W : World}
theorem o_Bytes (fuel : Nat) : Opens enc Tryz.prog W 22 (fun l : List Int => [bys l]) (fun l => l.length <= 9223372036854775807 /\ ∀ x ∈ l, 0 <= x /\ x <= 255) fuel := by
 cases fuel with
 | zero => exact opens_zero
 | succ k => exact Opens.map (opens_slice Tryz.underlying22 (n := 1) (elt := AV.int .u8) (by kernel_rfl) (by omega) (fun _ => rfl) (fun _ => rfl) (opens_u8 Tryz.underlying5 k)) id fun x hx => ⟨hx, Les.refl _⟩
end
theorem cells_any {w : World} {S S' : Nat -> Prop} {b : Nat} {k : IntKind} : ∀ {zs : List Int} {o : Nat}, Cells w S b o (intsA k zs) -> Cells w S' b o (intsA k zs)
 | [], o, h => .nil _ _
 | z :: zs, o, h => by
  unfold intsA at h ⊢
  simp only [List.map_cons] at h ⊢
  cases h with
  | cons hc hr ht =>
  cases hr
  exact .cons hc (.int _ _) (cells_any ht)
theorem bys_but {W : World} {g : Nat} {T : TypeId} {S : Nat -> Prop} (hb : BlkRep W S g (tabBlk T)) {l : List Int} {v : Value} (h : Rep W (Old W) (bys l) v) : Rep W (OldBut W g) (bys l) v := by
 have hrow := tab_row hb
 unfold bys at h ⊢
 cases l with
 | nil =>
  simp only [List.map_nil] at h ⊢
  cases h with
  | lnil f e A c hf => exact .lnil _ _ _ _ hf
  | lst f e b o c hS he hle hf hc => exact .lnil _ _ _ _ (fun h => by cases h)
 | cons x xs =>
  generalize hL : (x :: xs) = L at h ⊢
  have hne : L.map (AV.int .u8) ≠ [] := by rw [<- hL]; simp
  generalize hM : L.map (AV.int .u8) = M at h ⊢ hne
  cases h with
  | lnil f e A c hf => exact absurd rfl hne
  | lst f e b o c hS he hle hf hc =>
   have hflat : flat M = intsA .u8 L := by rw [<- hM]; exact flat_ints .u8 L
   rw [hflat] at hc
   refine .lst _ _ b o c ⟨hS, ?_⟩ he hle hf (by rw [hflat]; exact cells_any hc)
   rintro rfl
   rw [<- hL] at hc
   unfold intsA at hc
   simp only [List.map_cons] at hc
   cases hc with
   | cons h1 h2 h3 =>
   cases h2
   simp only [World.cell?, hrow] at h1
   rw [List.getElem?_toArray, List.getElem?_map] at h1
   obtain ⟨z, _, hz⟩ := Option.map_eq_some_iff.1 h1
   cases hz
theorem c_l1In (a b c : Int) : PCall Tryz.prog 100 [.int .i64 a, .int .i64 b, .int .i64 c] (.bool (inR a b c)) := by
 refine pO Tryz.func100 (by kernel_rfl) rfl (by simp [Tryz.f100]) ?_
 (repeat refine qA ?_);refine rA ?_
 simp
 (repeat refine qA ?_);refine rA ?_
 by_cases h : b <= a
 ·simp [h]
  exact AWp.ret (pR1 rfl (by simp [inR, h]))
 simp [h]
 exact AWp.ret (pR1 rfl (by simp [inR, h]))
theorem c_inRange (a b c : Int) : PCall Tryz.prog 87 [.int .i64 a, .int .i64 b, .int .i64 c] (.bool (inR a b c)) := by
 refine pO Tryz.func87 (by kernel_rfl) rfl (by simp [Tryz.f87]) ?_
 (repeat refine qA ?_);refine rA ?_
 simp
 (repeat refine qA ?_);refine rA ?_
 by_cases h : b <= a
 ·simp [h]
  exact AWp.ret (pR1 rfl (by simp [inR, h]))
 simp [h]
 exact AWp.ret (pR1 rfl (by simp [inR, h]))
theorem c_l2Small (c : UInt8) : PCall Tryz.prog 149 [.int .u8 c.toNat] (.bool (small c)) := by
 refine pO Tryz.func149 (by kernel_rfl) rfl (by simp [Tryz.f149]) ?_
 (repeat refine qA ?_);refine rA ?_
 simp
 (repeat refine qA ?_);refine raA ?_
 have hw : IntKind.wrap .i64 (c.toNat : Int) = c.toNat := wrap64 (by omega) (by have := c.toNat_lt; omega)
 simp [hw]
 refine aop_call _ _ _ _ _ _ _ _ (c_l1In _ _ _) ?_
 simp
 exact AWp.ret (pR1 rfl (by simp [small]))
theorem c_isLetter (c : UInt8) : PCall Tryz.prog 108 [.int .u8 c.toNat] (.bool (small c)) := by
 refine pO Tryz.func108 (by kernel_rfl) rfl (by simp [Tryz.f108]) ?_
 (repeat refine qA ?_);refine rA ?_
 simp
 (repeat refine qA ?_);refine rA ?_
 by_cases h : (97 : Int) <= c.toNat
 ·simp [h]
  exact AWp.ret (pR1 rfl (by simp [inR, small, h]))
 simp [h]
 exact AWp.ret (pR1 rfl (by simp [inR, small, h]))
theorem c_l2Has (l : List ByteArray) (s : ByteArray) (hl : l.length <= 9223372036854775806) : PCall Tryz.prog 106 [strs l, .str s] (.bool (has l s)) := by
 refine pO Tryz.func106 (by kernel_rfl) rfl (by simp [Tryz.f106]) ?_
 (repeat refine qA ?_);refine rA ?_
 simp
 (repeat refine qA ?_);refine rA ?_
 simp
 (repeat refine qA ?_);refine AWp.block (AWp.rounds (fun n st => ∃ i : Nat, n = l.length - i /\ i <= l.length /\ st.slots 0 = strs l /\ st.slots 1 = .str s /\ st.slots 5 = .int .i64 i /\ has l s = has (l.drop i) s) l.length ⟨0, by simp⟩ ?_)
 rintro R n st hR ⟨i, rfl, hi, h0, h1, h5, hr⟩
 (repeat refine qA ?_);refine rA ?_
 simp [h0, h5, strs]
 refine AWp.cond (b := decide (i < l.length)) (by simp) (fun hb => ?_) (fun hb => ?_)
 ·simp at hb
  have hg : l[i]? = some l[i] := List.getElem?_eq_getElem hb
  have hd : l.drop i = l[i] :: l.drop (i + 1) := List.drop_eq_getElem_cons hb
  refine kA ?_
  simp
  (repeat refine qA ?_);refine bA ?_;(repeat refine qA ?_);refine rA ?_
  have hx : idxA Tryz.prog st.mem 70 (.lst false 1 (List.map AV.str l)) (.int .i64 i) = some (.ref [.str l[i]]) := idx (y := .str l[i]) es_70 (by simp [hg])
  simp [h0, h1, h5, strs, hx]
  refine AWp.cond (b := decide (l[i] = s)) (by simp) (fun he => ?_) (fun he => ?_)
  ·(repeat refine qA ?_);refine rA ?_
   simp
   refine AWp.ret (pR1 rfl ?_)
   simp at he
   rw [hr, hd, has, List.any_cons]
   simp [he, has]
  simp at he
  refine kA ?_
  simp
  refine rA ?_
  have hw := iA i (by omega)
  simp [h0, h1, h5, hw]
  refine hR _ (l.length - (i + 1)) (by omega) ⟨i + 1, rfl, hb, by simp [h0, strs], by simp [h1], by simp, ?_⟩
  rw [hr, hd, has, List.any_cons]
  simp [he, has]
 simp at hb
 refine eA ?_
 simp
 (repeat refine qA ?_);refine rA ?_
 simp
 refine AWp.ret (pR1 rfl ?_)
 have : i = l.length := by omega
 subst this
 simpa [has] using hr
theorem c_l2Kept (s : ByteArray) : PCall Tryz.prog 150 [.str s] (.bool (kept s)) := by
 refine pO Tryz.func150 (by kernel_rfl) rfl (by simp [Tryz.f150]) ?_
 (repeat refine qA ?_);refine rA ?_
 simp
 (repeat refine qA ?_);refine raA ?_
 simp
 refine aop_call _ _ _ _ _ _ _ _ ((c_l2Has keptL s (by decide)).arg (.cons (Le.lst _ _ _) (.cons (Le.refl _) .nil))) ?_
 simp
 exact AWp.ret (pR1 rfl (by simp [kept]))
theorem c_isKept (s : ByteArray) : PCall Tryz.prog 109 [.str s] (.bool (kept s)) := by
 refine pO Tryz.func109 (by kernel_rfl) rfl (by simp [Tryz.f109]) ?_
 (repeat refine qA ?_);refine rA ?_
 simp
 (repeat refine qA ?_);refine rA ?_
 simp
 (repeat refine qA ?_);refine bA ?_
 (repeat refine qA ?_);refine rA ?_
 simp
 refine AWp.cond (b := decide (s = ⟨#[97, 114, 114, 97, 121]⟩)) (by simp) (fun h => ?_) (fun h0 => ?_)
 ·simp at h
  refine kA ?_
  simp
  refine AWp.cond (b := true) (by simp [h]) (fun _ => ?_) (fun h => by cases h)
  (repeat refine qA ?_);refine rA ?_
  simp
  exact AWp.ret (pR1 rfl (by simp [kept, has, keptL, h]))
 simp at h0
 (repeat refine qA ?_);refine rA ?_
 simp
 refine AWp.cond (b := decide (s = ⟨#[102, 111, 114]⟩)) (by simp) (fun h => ?_) (fun h1 => ?_)
 ·simp at h
  refine kA ?_
  simp
  refine AWp.cond (b := true) (by simp [h]) (fun _ => ?_) (fun h => by cases h)
  (repeat refine qA ?_);refine rA ?_
  simp
  exact AWp.ret (pR1 rfl (by simp [kept, has, keptL, h]))
 simp at h1
 (repeat refine qA ?_);refine rA ?_
 simp
 refine AWp.cond (b := decide (s = ⟨#[116, 111]⟩)) (by simp) (fun h => ?_) (fun h2 => ?_)
 ·simp at h
  refine kA ?_
  simp
  refine AWp.cond (b := true) (by simp [h]) (fun _ => ?_) (fun h => by cases h)
  (repeat refine qA ?_);refine rA ?_
  simp
  exact AWp.ret (pR1 rfl (by simp [kept, has, keptL, h]))
 simp at h2
 (repeat refine qA ?_);refine rA ?_
 simp
 refine AWp.cond (b := decide (s = ⟨#[112, 114, 105, 110, 116]⟩)) (by simp) (fun h => ?_) (fun h3 => ?_)
 ·simp at h
  refine kA ?_
  simp
  refine AWp.cond (b := true) (by simp [h]) (fun _ => ?_) (fun h => by cases h)
  (repeat refine qA ?_);refine rA ?_
  simp
  exact AWp.ret (pR1 rfl (by simp [kept, has, keptL, h]))
 simp at h3
 (repeat refine qA ?_);refine rA ?_
 simp
 refine AWp.cond (b := decide (s = ⟨#[109, 105, 110]⟩)) (by simp) (fun h => ?_) (fun h4 => ?_)
 ·simp at h
  refine kA ?_
  simp
  refine AWp.cond (b := true) (by simp [h]) (fun _ => ?_) (fun h => by cases h)
  (repeat refine qA ?_);refine rA ?_
  simp
  exact AWp.ret (pR1 rfl (by simp [kept, has, keptL, h]))
 simp at h4
 (repeat refine qA ?_);refine rA ?_
 simp
 refine AWp.cond (b := decide (s = ⟨#[109, 97, 120]⟩)) (by simp) (fun h => ?_) (fun h5 => ?_)
 ·simp at h
  (repeat refine qA ?_);refine rA ?_
  simp
  exact AWp.ret (pR1 rfl (by simp [kept, has, keptL, h]))
 simp at h5
 refine kA ?_
 simp
 (repeat refine qA ?_);refine rA ?_
 simp
 refine AWp.ret (pR1 rfl ?_)
 simp [kept, has, keptL]
 refine ⟨Ne.symm h0, Ne.symm h1, Ne.symm h2, Ne.symm h3, Ne.symm h4, Ne.symm h5⟩
theorem xNO (s : ByteArray) (hs : s.size <= 9223372036854775806) : PCall Tryz.prog 99 [.str s] (.bool (nameOk s)) := by
 refine pO Tryz.func99 (by kernel_rfl) rfl (by simp [Tryz.f99]) ?_
 (repeat refine qA ?_);refine rA ?_
 simp
 (repeat refine qA ?_);refine rA ?_
 simp
 (repeat refine qA ?_);refine AWp.block (AWp.rounds (fun n st => ∃ i : Nat, n = s.size - i /\ i <= s.size /\ st.slots 0 = .str s /\ st.slots 3 = .int .i64 i /\ s.data.toList.all small = (s.data.toList.drop i).all small) s.size ⟨0, by simp⟩ ?_)
 rintro R n st hR ⟨i, rfl, hi, h0, h3, hr⟩
 (repeat refine qA ?_);refine rA ?_
 simp [h0, h3]
 refine AWp.cond (b := decide (i < s.size)) (by simp) (fun hb => ?_) (fun hb => ?_)
 ·simp at hb
  obtain ⟨b, hg, hd⟩ := all_drop hb small
  refine kA ?_
  simp
  (repeat refine qA ?_);refine bA ?_;(repeat refine qA ?_);refine raA ?_
  have hx : sidxA Tryz.prog 9 (.str s) (.int .i64 i) = some (.int .u8 b.toNat) := sidx un_9 hg
  simp [h0, h3, hx]
  refine aop_call _ _ _ _ _ _ _ _ (c_l2Small _) ?_
  simp
  refine AWp.cond (b := !small b) (by simp) (fun he => ?_) (fun he => ?_)
  ·(repeat refine qA ?_);refine rA ?_
   simp
   refine AWp.ret (pR1 rfl ?_)
   simp at he
   simp [nameOk, hr, hd, he]
  simp at he
  refine kA ?_
  simp
  refine rA ?_
  have hw := iA i (by omega)
  simp [h0, h3, hw]
  refine hR _ (s.size - (i + 1)) (by omega) ⟨i + 1, rfl, hb, by simp [h0], by simp, ?_⟩
  rw [hr, hd, he, Bool.true_and]
 simp at hb
 have : i = s.size := by omega
 subst this
 rw [drop_size] at hr
 refine eA ?_
 simp
 (repeat refine qA ?_);refine raA ?_
 simp [h0]
 refine aop_call _ _ _ _ _ _ _ _ (c_l1In _ _ _) ?_
 cases h1 : inR (s.size : Int) 1 6
 ·simp
  exact AWp.ret (pR1 rfl (by simp [nameOk, h1]))
 simp [h0]
 refine aop_call _ _ _ _ _ _ _ _ (c_l2Kept _) ?_
 simp
 exact AWp.ret (pR1 rfl (by simp [nameOk, hr, h1]))
theorem c_impl_NameOk (s : ByteArray) (hs : s.size <= 9223372036854775806) : PCall Tryz.prog 110 [.str s] (.bool (nameOk s)) := by
 refine pO Tryz.func110 (by kernel_rfl) rfl (by simp [Tryz.f110]) ?_
 (repeat refine qA ?_);refine rA ?_
 simp
 (repeat refine qA ?_);refine rA ?_
 simp
 (repeat refine qA ?_);refine AWp.block (AWp.rounds (fun n st => ∃ i : Nat, n = s.size - i /\ i <= s.size /\ st.slots 0 = .str s /\ st.slots 3 = .int .i64 i /\ s.data.toList.all small = (s.data.toList.drop i).all small) s.size ⟨0, by simp⟩ ?_)
 rintro R n st hR ⟨i, rfl, hi, h0, h3, hr⟩
 (repeat refine qA ?_);refine rA ?_
 simp [h0, h3]
 refine AWp.cond (b := decide (i < s.size)) (by simp) (fun hb => ?_) (fun hb => ?_)
 ·simp at hb
  obtain ⟨b, hg, hd⟩ := all_drop hb small
  refine kA ?_
  simp
  (repeat refine qA ?_);refine bA ?_;(repeat refine qA ?_);refine raA ?_
  have hx : sidxA Tryz.prog 9 (.str s) (.int .i64 i) = some (.int .u8 b.toNat) := sidx un_9 hg
  simp [h0, h3, hx]
  refine aop_call _ _ _ _ _ _ _ _ (c_isLetter _) ?_
  simp
  refine AWp.cond (b := !small b) (by simp) (fun he => ?_) (fun he => ?_)
  ·(repeat refine qA ?_);refine rA ?_
   simp
   refine AWp.ret (pR1 rfl ?_)
   simp at he
   simp [nameOk, hr, hd, he]
  simp at he
  refine kA ?_
  simp
  refine rA ?_
  have hw := iA i (by omega)
  simp [h0, h3, hw]
  refine hR _ (s.size - (i + 1)) (by omega) ⟨i + 1, rfl, hb, by simp [h0], by simp, ?_⟩
  rw [hr, hd, he, Bool.true_and]
 simp at hb
 have : i = s.size := by omega
 subst this
 rw [drop_size] at hr
 refine eA ?_
 simp
 (repeat refine qA ?_);refine raA ?_
 simp [h0]
 refine aop_call _ _ _ _ _ _ _ _ (c_inRange _ _ _) ?_
 cases h1 : inR (s.size : Int) 1 6
 ·simp
  exact AWp.ret (pR1 rfl (by simp [nameOk, h1]))
 simp [h0]
 refine aop_call _ _ _ _ _ _ _ _ (c_isKept _) ?_
 simp
 exact AWp.ret (pR1 rfl (by simp [nameOk, hr, h1]))


theorem c_isTwo (k : Int) : PCall Tryz.prog 175 [.int .i64 k] (.bool (inR k 4 8)) := by
 refine pO Tryz.func175 (by kernel_rfl) rfl (by simp [Tryz.f175]) ?_
 repeat' (first
  | refine qA ?_
  | (refine raA ?_; simp)
  | (refine gA ?_; simp)
  | (refine kA ?_; try simp)
  | (refine eA ?_; try simp)
  | refine bA ?_
  | (refine oC' (c_inRange _ _ _) ?_; simp)
  | (refine AWp.ret (pR1 rfl ?_); (simp; done))
  | (refine guardI (fun hq => ?_) (fun hq => ?_) <;> (try simp at hq) <;> (try simp))
  | (refine cRI (fun hq => ?_) (fun hq => ?_) <;> (try simp at hq) <;> (try simp))
  | (refine iteI ?_ ?_ <;> intro hq <;> (try simp)))
theorem c_partsOk (k n : Int) (s : ByteArray) (l : List Ex) (hs : s.size <= 9223372036854775806) : PCall Tryz.prog 142 [(Ex.mk k n s l).av] (.bool (partsOk k n s l.length)) := by
 refine pO Tryz.func142 (by kernel_rfl) rfl (by simp [Tryz.f142]) ?_
 unfold Ex.av
 rw [Ex.cells_mk]
 (repeat refine qA ?_);refine rA ?_
 simp
 intro g
 by_cases k1 : k = 1
 ·repeat' (first
  | refine qA ?_
  | (refine raA ?_; simp [*])
  | (refine gA ?_; simp [*])
  | (refine kA ?_; try simp)
  | (refine eA ?_; try simp)
  | refine bA ?_
  | (refine oC' (c_inRange _ _ _) ?_; simp [*])
  | (refine oC' (c_impl_NameOk _ hs) ?_; simp [*])
  | (refine oC' (c_isTwo _) ?_; simp [*])
  | (refine AWp.ret (pR1 rfl ?_); (simp_all [partsOk, noS]; done))
  | (refine guardI (fun hq => ?_) (fun hq => ?_) <;> (try simp at hq) <;> (try simp [*]))
  | (refine cRI (fun hq => ?_) (fun hq => ?_) <;> (try simp at hq) <;> (try simp [*]))
  | (refine iteI ?_ ?_ <;> intro hq <;> (try simp [*])))
 by_cases k2 : k = 2
 ·repeat' (first
  | refine qA ?_
  | (refine raA ?_; simp [*])
  | (refine gA ?_; simp [*])
  | (refine kA ?_; try simp)
  | (refine eA ?_; try simp)
  | refine bA ?_
  | (refine oC' (c_inRange _ _ _) ?_; simp [*])
  | (refine oC' (c_impl_NameOk _ hs) ?_; simp [*])
  | (refine oC' (c_isTwo _) ?_; simp [*])
  | (refine AWp.ret (pR1 rfl ?_); (simp_all [partsOk, noS]; done))
  | (refine guardI (fun hq => ?_) (fun hq => ?_) <;> (try simp at hq) <;> (try simp [*]))
  | (refine cRI (fun hq => ?_) (fun hq => ?_) <;> (try simp at hq) <;> (try simp [*]))
  | (refine iteI ?_ ?_ <;> intro hq <;> (try simp [*])))
 by_cases k3 : k = 3
 ·repeat' (first
  | refine qA ?_
  | (refine raA ?_; simp [*])
  | (refine gA ?_; simp [*])
  | (refine kA ?_; try simp)
  | (refine eA ?_; try simp)
  | refine bA ?_
  | (refine oC' (c_inRange _ _ _) ?_; simp [*])
  | (refine oC' (c_impl_NameOk _ hs) ?_; simp [*])
  | (refine oC' (c_isTwo _) ?_; simp [*])
  | (refine AWp.ret (pR1 rfl ?_); (simp_all [partsOk, noS]; done))
  | (refine guardI (fun hq => ?_) (fun hq => ?_) <;> (try simp at hq) <;> (try simp [*]))
  | (refine cRI (fun hq => ?_) (fun hq => ?_) <;> (try simp at hq) <;> (try simp [*]))
  | (refine iteI ?_ ?_ <;> intro hq <;> (try simp [*])))
 repeat' (first
  | refine qA ?_
  | (refine raA ?_; simp [*])
  | (refine gA ?_; simp [*])
  | (refine kA ?_; try simp)
  | (refine eA ?_; try simp)
  | refine bA ?_
  | (refine oC' (c_inRange _ _ _) ?_; simp [*])
  | (refine oC' (c_impl_NameOk _ hs) ?_; simp [*])
  | (refine oC' (c_isTwo _) ?_; simp [*])
  | (refine AWp.ret (pR1 rfl ?_); (simp_all [partsOk, noS]; done))
  | (refine guardI (fun hq => ?_) (fun hq => ?_) <;> (try simp at hq) <;> (try simp [*]))
  | (refine cRI (fun hq => ?_) (fun hq => ?_) <;> (try simp at hq) <;> (try simp [*]))
  | (refine iteI ?_ ?_ <;> intro hq <;> (try simp [*])))
theorem c_l3Parts (k : Int) : PCall Tryz.prog 147 [.int .i64 k] (.int .i64 (partsN k)) := by
 refine pO Tryz.func147 (by kernel_rfl) rfl (by simp [Tryz.f147]) ?_
 by_cases k1 : k = 1
 ·subst k1
  repeat' (first
  | refine qA ?_
  | (refine raA ?_; simp [*])
  | (refine gA ?_; simp [*])
  | (refine kA ?_; try simp)
  | (refine eA ?_; try simp)
  | refine bA ?_
  | (refine AWp.ret (pR1 rfl ?_); (simp_all [partsN, inR]; done))
  | (refine guardI (fun hq => ?_) (fun hq => ?_) <;> (try simp at hq) <;> (try simp [*]))
  | (refine cRI (fun hq => ?_) (fun hq => ?_) <;> (try simp at hq) <;> (try simp [*]))
  | (refine iteI ?_ ?_ <;> intro hq <;> (try simp [*])))
 by_cases k2 : k = 2
 ·subst k2
  repeat' (first
  | refine qA ?_
  | (refine raA ?_; simp [*])
  | (refine gA ?_; simp [*])
  | (refine kA ?_; try simp)
  | (refine eA ?_; try simp)
  | refine bA ?_
  | (refine AWp.ret (pR1 rfl ?_); (simp_all [partsN, inR]; done))
  | (refine guardI (fun hq => ?_) (fun hq => ?_) <;> (try simp at hq) <;> (try simp [*]))
  | (refine cRI (fun hq => ?_) (fun hq => ?_) <;> (try simp at hq) <;> (try simp [*]))
  | (refine iteI ?_ ?_ <;> intro hq <;> (try simp [*])))
 by_cases k3 : k = 3
 ·subst k3
  repeat' (first
  | refine qA ?_
  | (refine raA ?_; simp [*])
  | (refine gA ?_; simp [*])
  | (refine kA ?_; try simp)
  | (refine eA ?_; try simp)
  | refine bA ?_
  | (refine AWp.ret (pR1 rfl ?_); (simp_all [partsN, inR]; done))
  | (refine guardI (fun hq => ?_) (fun hq => ?_) <;> (try simp at hq) <;> (try simp [*]))
  | (refine cRI (fun hq => ?_) (fun hq => ?_) <;> (try simp at hq) <;> (try simp [*]))
  | (refine iteI ?_ ?_ <;> intro hq <;> (try simp [*])))
 by_cases k4 : k = 4
 ·subst k4
  repeat' (first
  | refine qA ?_
  | (refine raA ?_; simp [*])
  | (refine gA ?_; simp [*])
  | (refine kA ?_; try simp)
  | (refine eA ?_; try simp)
  | refine bA ?_
  | (refine AWp.ret (pR1 rfl ?_); (simp_all [partsN, inR]; done))
  | (refine guardI (fun hq => ?_) (fun hq => ?_) <;> (try simp at hq) <;> (try simp [*]))
  | (refine cRI (fun hq => ?_) (fun hq => ?_) <;> (try simp at hq) <;> (try simp [*]))
  | (refine iteI ?_ ?_ <;> intro hq <;> (try simp [*])))
 by_cases k5 : k = 5
 ·subst k5
  repeat' (first
  | refine qA ?_
  | (refine raA ?_; simp [*])
  | (refine gA ?_; simp [*])
  | (refine kA ?_; try simp)
  | (refine eA ?_; try simp)
  | refine bA ?_
  | (refine AWp.ret (pR1 rfl ?_); (simp_all [partsN, inR]; done))
  | (refine guardI (fun hq => ?_) (fun hq => ?_) <;> (try simp at hq) <;> (try simp [*]))
  | (refine cRI (fun hq => ?_) (fun hq => ?_) <;> (try simp at hq) <;> (try simp [*]))
  | (refine iteI ?_ ?_ <;> intro hq <;> (try simp [*])))
 by_cases k6 : k = 6
 ·subst k6
  repeat' (first
  | refine qA ?_
  | (refine raA ?_; simp [*])
  | (refine gA ?_; simp [*])
  | (refine kA ?_; try simp)
  | (refine eA ?_; try simp)
  | refine bA ?_
  | (refine AWp.ret (pR1 rfl ?_); (simp_all [partsN, inR]; done))
  | (refine guardI (fun hq => ?_) (fun hq => ?_) <;> (try simp at hq) <;> (try simp [*]))
  | (refine cRI (fun hq => ?_) (fun hq => ?_) <;> (try simp at hq) <;> (try simp [*]))
  | (refine iteI ?_ ?_ <;> intro hq <;> (try simp [*])))
 by_cases k7 : k = 7
 ·subst k7
  repeat' (first
  | refine qA ?_
  | (refine raA ?_; simp [*])
  | (refine gA ?_; simp [*])
  | (refine kA ?_; try simp)
  | (refine eA ?_; try simp)
  | refine bA ?_
  | (refine AWp.ret (pR1 rfl ?_); (simp_all [partsN, inR]; done))
  | (refine guardI (fun hq => ?_) (fun hq => ?_) <;> (try simp at hq) <;> (try simp [*]))
  | (refine cRI (fun hq => ?_) (fun hq => ?_) <;> (try simp at hq) <;> (try simp [*]))
  | (refine iteI ?_ ?_ <;> intro hq <;> (try simp [*])))
 by_cases k8 : k = 8
 ·subst k8
  repeat' (first
  | refine qA ?_
  | (refine raA ?_; simp [*])
  | (refine gA ?_; simp [*])
  | (refine kA ?_; try simp)
  | (refine eA ?_; try simp)
  | refine bA ?_
  | (refine AWp.ret (pR1 rfl ?_); (simp_all [partsN, inR]; done))
  | (refine guardI (fun hq => ?_) (fun hq => ?_) <;> (try simp at hq) <;> (try simp [*]))
  | (refine cRI (fun hq => ?_) (fun hq => ?_) <;> (try simp at hq) <;> (try simp [*]))
  | (refine iteI ?_ ?_ <;> intro hq <;> (try simp [*])))
 have hk : ¬ (4 <= k /\ k <= 8) := by omega
 repeat' (first
  | refine qA ?_
  | (refine raA ?_; simp [*])
  | (refine gA ?_; simp [*])
  | (refine kA ?_; try simp)
  | (refine eA ?_; try simp)
  | refine bA ?_
  | (refine AWp.ret (pR1 rfl ?_); (simp_all [partsN, inR]; done))
  | (refine guardI (fun hq => ?_) (fun hq => ?_) <;> (try simp at hq) <;> (try simp [*]))
  | (refine cRI (fun hq => ?_) (fun hq => ?_) <;> (try simp at hq) <;> (try simp [*]))
  | (refine iteI ?_ ?_ <;> intro hq <;> (try simp [*])))
theorem c_l3Here (k n : Int) (s : ByteArray) (l : List Ex) (hs : s.size <= 9223372036854775806) : PCall Tryz.prog 96 [(Ex.mk k n s l).av] (.bool (partsOk k n s l.length)) := by
 refine pO Tryz.func96 (by kernel_rfl) rfl (by simp [Tryz.f96]) ?_
 unfold Ex.av
 rw [Ex.cells_mk]
 (repeat refine qA ?_);refine rA ?_
 simp
 intro g
 by_cases k1 : k = 1
 ·subst k1
  repeat' (first
  | refine qA ?_
  | (refine raA ?_; simp [*])
  | (refine gA ?_; simp [*])
  | (refine kA ?_; try simp)
  | (refine eA ?_; try simp)
  | refine bA ?_
  | (refine oC' (c_l3Parts _) ?_; simp [*])
  | (refine oC' (c_l1In _ _ _) ?_; simp [*])
  | (refine oC' (xNO _ hs) ?_; simp [*])
  | (refine AWp.ret (pR1 rfl ?_); (simp_all [partsOk, partsN, noS, @eq_comm Int]; done))
  | (refine guardI (fun hq => ?_) (fun hq => ?_) <;> (try simp at hq) <;> (try simp [*]))
  | (refine cRI (fun hq => ?_) (fun hq => ?_) <;> (try simp at hq) <;> (try simp [*]))
  | (refine iteI ?_ ?_ <;> intro hq <;> (try simp [*])))
 by_cases n0 : n = 0
 ·subst n0
  by_cases k2 : k = 2
  ·subst k2
   repeat' (first
  | refine qA ?_
  | (refine raA ?_; simp [*])
  | (refine gA ?_; simp [*])
  | (refine kA ?_; try simp)
  | (refine eA ?_; try simp)
  | refine bA ?_
  | (refine oC' (c_l3Parts _) ?_; simp [*])
  | (refine oC' (c_l1In _ _ _) ?_; simp [*])
  | (refine oC' (xNO _ hs) ?_; simp [*])
  | (refine AWp.ret (pR1 rfl ?_); (simp_all [partsOk, partsN, noS, @eq_comm Int]; done))
  | (refine guardI (fun hq => ?_) (fun hq => ?_) <;> (try simp at hq) <;> (try simp [*]))
  | (refine cRI (fun hq => ?_) (fun hq => ?_) <;> (try simp at hq) <;> (try simp [*]))
  | (refine iteI ?_ ?_ <;> intro hq <;> (try simp [*])))
  by_cases k3 : k = 3
  ·subst k3
   repeat' (first
  | refine qA ?_
  | (refine raA ?_; simp [*])
  | (refine gA ?_; simp [*])
  | (refine kA ?_; try simp)
  | (refine eA ?_; try simp)
  | refine bA ?_
  | (refine oC' (c_l3Parts _) ?_; simp [*])
  | (refine oC' (c_l1In _ _ _) ?_; simp [*])
  | (refine oC' (xNO _ hs) ?_; simp [*])
  | (refine AWp.ret (pR1 rfl ?_); (simp_all [partsOk, partsN, noS, @eq_comm Int]; done))
  | (refine guardI (fun hq => ?_) (fun hq => ?_) <;> (try simp at hq) <;> (try simp [*]))
  | (refine cRI (fun hq => ?_) (fun hq => ?_) <;> (try simp at hq) <;> (try simp [*]))
  | (refine iteI ?_ ?_ <;> intro hq <;> (try simp [*])))
  by_cases k4 : inR k 4 8 = true
  ·repeat' (first
  | refine qA ?_
  | (refine raA ?_; simp [*])
  | (refine gA ?_; simp [*])
  | (refine kA ?_; try simp)
  | (refine eA ?_; try simp)
  | refine bA ?_
  | (refine oC' (c_l3Parts _) ?_; simp [*])
  | (refine oC' (c_l1In _ _ _) ?_; simp [*])
  | (refine oC' (xNO _ hs) ?_; simp [*])
  | (refine AWp.ret (pR1 rfl ?_); (simp_all [partsOk, partsN, noS, @eq_comm Int]; done))
  | (refine guardI (fun hq => ?_) (fun hq => ?_) <;> (try simp at hq) <;> (try simp [*]))
  | (refine cRI (fun hq => ?_) (fun hq => ?_) <;> (try simp at hq) <;> (try simp [*]))
  | (refine iteI ?_ ?_ <;> intro hq <;> (try simp [*])))
  ·repeat' (first
  | refine qA ?_
  | (refine raA ?_; simp [*])
  | (refine gA ?_; simp [*])
  | (refine kA ?_; try simp)
  | (refine eA ?_; try simp)
  | refine bA ?_
  | (refine oC' (c_l3Parts _) ?_; simp [*])
  | (refine oC' (c_l1In _ _ _) ?_; simp [*])
  | (refine oC' (xNO _ hs) ?_; simp [*])
  | (refine AWp.ret (pR1 rfl ?_); (simp_all [partsOk, partsN, noS, @eq_comm Int]; done))
  | (refine guardI (fun hq => ?_) (fun hq => ?_) <;> (try simp at hq) <;> (try simp [*]))
  | (refine cRI (fun hq => ?_) (fun hq => ?_) <;> (try simp at hq) <;> (try simp [*]))
  | (refine iteI ?_ ?_ <;> intro hq <;> (try simp [*])))
 by_cases k2 : k = 2
 ·subst k2
  repeat' (first
 | refine qA ?_
 | (refine raA ?_; simp [*])
 | (refine gA ?_; simp [*])
 | (refine kA ?_; try simp)
 | (refine eA ?_; try simp)
 | refine bA ?_
 | (refine oC' (c_l3Parts _) ?_; simp [*])
 | (refine oC' (c_l1In _ _ _) ?_; simp [*])
 | (refine oC' (xNO _ hs) ?_; simp [*])
 | (refine AWp.ret (pR1 rfl ?_); (simp_all [partsOk, partsN, noS, @eq_comm Int]; done))
 | (refine guardI (fun hq => ?_) (fun hq => ?_) <;> (try simp at hq) <;> (try simp [*]))
 | (refine cRI (fun hq => ?_) (fun hq => ?_) <;> (try simp at hq) <;> (try simp [*]))
 | (refine iteI ?_ ?_ <;> intro hq <;> (try simp [*])))
 by_cases k3 : k = 3
 ·subst k3
  repeat' (first
 | refine qA ?_
 | (refine raA ?_; simp [*])
 | (refine gA ?_; simp [*])
 | (refine kA ?_; try simp)
 | (refine eA ?_; try simp)
 | refine bA ?_
 | (refine oC' (c_l3Parts _) ?_; simp [*])
 | (refine oC' (c_l1In _ _ _) ?_; simp [*])
 | (refine oC' (xNO _ hs) ?_; simp [*])
 | (refine AWp.ret (pR1 rfl ?_); (simp_all [partsOk, partsN, noS, @eq_comm Int]; done))
 | (refine guardI (fun hq => ?_) (fun hq => ?_) <;> (try simp at hq) <;> (try simp [*]))
 | (refine cRI (fun hq => ?_) (fun hq => ?_) <;> (try simp at hq) <;> (try simp [*]))
 | (refine iteI ?_ ?_ <;> intro hq <;> (try simp [*])))
 by_cases k4 : inR k 4 8 = true
 ·repeat' (first
 | refine qA ?_
 | (refine raA ?_; simp [*])
 | (refine gA ?_; simp [*])
 | (refine kA ?_; try simp)
 | (refine eA ?_; try simp)
 | refine bA ?_
 | (refine oC' (c_l3Parts _) ?_; simp [*])
 | (refine oC' (c_l1In _ _ _) ?_; simp [*])
 | (refine oC' (xNO _ hs) ?_; simp [*])
 | (refine AWp.ret (pR1 rfl ?_); (simp_all [partsOk, partsN, noS, @eq_comm Int]; done))
 | (refine guardI (fun hq => ?_) (fun hq => ?_) <;> (try simp at hq) <;> (try simp [*]))
 | (refine cRI (fun hq => ?_) (fun hq => ?_) <;> (try simp at hq) <;> (try simp [*]))
 | (refine iteI ?_ ?_ <;> intro hq <;> (try simp [*])))
 ·repeat' (first
 | refine qA ?_
 | (refine raA ?_; simp [*])
 | (refine gA ?_; simp [*])
 | (refine kA ?_; try simp)
 | (refine eA ?_; try simp)
 | refine bA ?_
 | (refine oC' (c_l3Parts _) ?_; simp [*])
 | (refine oC' (c_l1In _ _ _) ?_; simp [*])
 | (refine oC' (xNO _ hs) ?_; simp [*])
 | (refine AWp.ret (pR1 rfl ?_); (simp_all [partsOk, partsN, noS, @eq_comm Int]; done))
 | (refine guardI (fun hq => ?_) (fun hq => ?_) <;> (try simp at hq) <;> (try simp [*]))
 | (refine cRI (fun hq => ?_) (fun hq => ?_) <;> (try simp at hq) <;> (try simp [*]))
 | (refine iteI ?_ ?_ <;> intro hq <;> (try simp [*])))
theorem c_measure0 (k n : Int) (s : ByteArray) (l : List Ex) (ht : (Ex.mk k n s l).tot <= 1048576) (h : ∀ x ∈ l, ∀ d : Nat, d <= 9 -> PCall Tryz.prog 88 [x.av, .int .i64 d] (.int .i64 (x.msr d))) (d : Nat) (hd : d <= 9) :
  PCall Tryz.prog 88 [(Ex.mk k n s l).av, .int .i64 d] (.int .i64 ((Ex.mk k n s l).msr d)) := by
 rw [Ex.msr_mk]
 rw [Ex.tot_mk] at ht
 have hlen := totL_len Ex.tot l
 have hsum := sumL_le Ex.nodes Ex.tot l (fun x _ => Ex.nodes_le x)
 have hs : s.size <= 9223372036854775806 := by omega
 refine pO Tryz.func88 (by kernel_rfl) rfl (by simp [Tryz.f88]) ?_
 have hav : (Ex.mk k n s l).av = .agg [.int .i64 k, .int .i64 n, .str s, .lst false 4 (l.map Ex.av)] := by unfold Ex.av; rw [Ex.cells_mk]; rfl
 rw [hav]
 (repeat refine qA ?_);refine rA ?_
 simp
 intro g
 have c1 := c_partsOk k n s l hs
 rw [hav] at c1
 by_cases hd8 : 8 < d
 ·have hd9 : ¬ d <= 8 := by omega
  have hdi : (8 : Int) < d := by omega
  repeat' (first
  | refine qA ?_
  | (refine raA ?_; simp [*])
  | (refine gA ?_; simp [*])
  | (refine kA ?_; try simp)
  | (refine eA ?_; try simp)
  | refine bA ?_
  | (refine oC' (c1) ?_; simp [*])
  | (refine AWp.ret (pR1 rfl ?_); (simp [*]; done))
  | (refine guardI (fun hq => ?_) (fun hq => ?_) <;> (try simp at hq) <;> (try simp [*]))
  | (refine cRI (fun hq => ?_) (fun hq => ?_) <;> (try simp at hq) <;> (try simp [*]))
  | (refine iteI ?_ ?_ <;> intro hq <;> (try simp [*])))
 have hd9 : d <= 8 := by omega
 have hdi : (d : Int) <= 8 := by omega
 have hdj : ¬ ((8 : Int) < d) := by omega
 cases hp : partsOk k n s l.length
 ·repeat' (first
  | refine qA ?_
  | (refine raA ?_; simp [*])
  | (refine gA ?_; simp [*])
  | (refine kA ?_; try simp)
  | (refine eA ?_; try simp)
  | refine bA ?_
  | (refine oC' (c1) ?_; simp [*])
  | (refine AWp.ret (pR1 rfl ?_); (simp [*]; done))
  | (refine guardI (fun hq => ?_) (fun hq => ?_) <;> (try simp at hq) <;> (try simp [*]))
  | (refine cRI (fun hq => ?_) (fun hq => ?_) <;> (try simp at hq) <;> (try simp [*]))
  | (refine iteI ?_ ?_ <;> intro hq <;> (try simp [*])))
 repeat' (first
  | refine qA ?_
  | (refine raA ?_; simp [*])
  | (refine gA ?_; simp [*])
  | (refine kA ?_; try simp)
  | (refine eA ?_; try simp)
  | refine bA ?_
  | (refine oC' (c1) ?_; simp [*])
  | (refine guardI (fun hq => ?_) (fun hq => ?_) <;> (try simp at hq) <;> (try simp [*]))
  | (refine cRI (fun hq => ?_) (fun hq => ?_) <;> (try simp at hq) <;> (try simp [*]))
  | (refine iteI ?_ ?_ <;> intro hq <;> (try simp [*])))
 refine (AWp.rounds (fun m st => ∃ (i : Nat) (q : Int), m = l.length - i /\ i <= l.length /\ st.slots 17 = .lst false 4 (l.map Ex.av) /\ st.slots 18 = .int .i64 l.length /\ st.slots 19 = .int .i64 i /\ st.slots 1 = .int .i64 d /\ st.slots 5 = .int .i64 q /\ 0 <= q /\ q + sumL Ex.nodes (l.drop i) <= 1 + sumL Ex.nodes l /\ Ex.msrs l (d + 1) 1 = Ex.msrs (l.drop i) (d + 1) q) l.length ⟨0, 1, by simp, by simp, by simp, by simp, by simp, by simp, by simp, by omega, by simp, by simp⟩ ?_)
 rintro R m st hR ⟨i, q, rfl, hi, s17, s18, s19, s1, s5, hq0, hq1, hr⟩
 (repeat refine qA ?_);refine rA ?_
 simp [s18, s19]
 (repeat refine qA ?_)
 refine AWp.cond (b := decide (i < l.length)) (by simp) (fun hb => ?_) (fun hb => ?_)
 ·simp at hb
  have hg : l[i]? = some l[i] := List.getElem?_eq_getElem hb
  have hdr : l.drop i = l[i] :: l.drop (i + 1) := List.drop_eq_getElem_cons hb
  refine kA ?_
  simp
  (repeat refine qA ?_);refine bA ?_;(repeat refine qA ?_);refine rA ?_
  have hx : idxA Tryz.prog st.mem 24 (.lst false 4 (l.map Ex.av)) (.int .i64 i) = some (.ref l[i].cells) := idx (y := l[i].av) es_24 (by simp [hg])
  simp [s17, s18, s19, hx]
  intro g2 hg2
  have hw1 : IntKind.wrap .i64 ((d : Int) + 1) = ((d + 1 : Nat) : Int) := wrap64 (by omega) (by omega)
  (repeat refine qA ?_);refine raA ?_
  simp [s1, hw1]
  refine oC' (h l[i] (List.getElem_mem _) (d + 1) (by omega)) ?_
  simp
  (repeat refine qA ?_);refine rA ?_
  simp
  have hz : Ex.msrs l (d + 1) 1 = if l[i].msr (d + 1) < 0 then -1 else Ex.msrs (l.drop (i + 1)) (d + 1) (q + l[i].msr (d + 1)) := by rw [hr, hdr, Ex.msrs_cons]
  refine AWp.cond (b := decide (l[i].msr (d + 1) < 0)) (by simp) (fun he => ?_) (fun he => ?_)
  ·simp at he
   (repeat refine qA ?_);refine rA ?_
   simp
   exact AWp.ret (pR1 rfl (by simp [hd9]; rw [hz, if_pos he]))
  simp at he
  refine kA ?_
  simp
  have hle : l[i].msr (d + 1) <= l[i].nodes := by unfold Ex.msr; split <;> omega
  rw [hdr, sumL] at hq1
  have hw2 : IntKind.wrap .i64 (q + l[i].msr (d + 1)) = q + l[i].msr (d + 1) := wrap64 (by omega) (by omega)
  (repeat refine qA ?_);refine rA ?_
  simp [s5, hw2]
  (repeat refine qA ?_);refine rA ?_
  have hw := iA i (by omega)
  simp [s19, hw]
  refine hR _ (l.length - (i + 1)) (by omega) ⟨i + 1, q + l[i].msr (d + 1), rfl, hb, by simp [s17], by simp [s18], by simp, by simp [s1], by simp, by omega, by omega, ?_⟩
  rw [hz, if_neg (by omega)]
 simp at hb
 refine eA ?_
 simp
 (repeat refine qA ?_);refine rA ?_
 simp [s5]
 have : i = l.length := by omega
 subst this
 refine AWp.ret (pR1 rfl ?_)
 simp [hd9]
 rw [hr]
 simp [Ex.msrs, Ex.goods, sumL]
theorem c_measure (e : Ex) : e.tot <= 1048576 -> ∀ d : Nat, d <= 9 -> PCall Tryz.prog 88 [e.av, .int .i64 d] (.int .i64 (e.msr d)) := by
 induction e using Ex.ind with | h k n s l h =>
 intro ht d hd
 refine c_measure0 k n s l ht (fun x hx => h x hx ?_) d hd
 rw [Ex.tot_mk] at ht
 have := totL_mem Ex.tot hx
 omega
theorem c_impl_ExpOk (e : Ex) (ht : e.tot <= 1048576) : PCall Tryz.prog 30 [e.av] (.bool e.ok) := by
 refine pO Tryz.func30 (by kernel_rfl) rfl (by simp [Tryz.f30]) ?_
 have c1 := c_measure e ht 1 (by omega)
 unfold Ex.av at c1 ⊢
 (repeat refine qA ?_);refine rA ?_
 simp
 intro g
 (repeat refine qA ?_);refine raA ?_
 simp
 refine oC' c1 ?_
 simp
 refine oC' (c_inRange _ _ _) ?_
 simp
 refine AWp.ret (pR1 rfl ?_)
 simp only [put_slot, reduceIte]
 congr 1
 rw [Bool.eq_iff_iff]
 simp [Ex.ok, Ex.msr, inR]
 have : 1 <= e.nodes := by cases e; rw [Ex.nodes]; omega
 by_cases h1 : e.good 1 = true <;> simp [h1] <;> omega
theorem c_l3Count0 (k n : Int) (s : ByteArray) (l : List Ex) (ht : (Ex.mk k n s l).tot <= 1048576) (h : ∀ x ∈ l, ∀ d : Nat, d <= 9 -> PCall Tryz.prog 40 [x.av, .int .i64 d] (.int .i64 (x.cnt d))) (d : Nat) (hd : d <= 9) :
  PCall Tryz.prog 40 [(Ex.mk k n s l).av, .int .i64 d] (.int .i64 ((Ex.mk k n s l).cnt d)) := by
 rw [Ex.cnt]
 rw [Ex.tot_mk] at ht
 have hlen := totL_len Ex.tot l
 have hsum := sumL_le Ex.nodes Ex.tot l (fun x _ => Ex.nodes_le x)
 have hs : s.size <= 9223372036854775806 := by omega
 refine pO Tryz.func40 (by kernel_rfl) rfl (by simp [Tryz.f40]) ?_
 have hav : (Ex.mk k n s l).av = .agg [.int .i64 k, .int .i64 n, .str s, .lst false 4 (l.map Ex.av)] := by unfold Ex.av; rw [Ex.cells_mk]; rfl
 rw [hav]
 (repeat refine qA ?_);refine rA ?_
 simp
 intro g
 have c1 := c_l3Here k n s l hs
 rw [hav] at c1
 by_cases hd8 : 8 < d
 ·have hd9 : ¬ d <= 8 := by omega
  have hdi : (8 : Int) < d := by omega
  repeat' (first
  | refine qA ?_
  | (refine raA ?_; simp [*])
  | (refine gA ?_; simp [*])
  | (refine kA ?_; try simp)
  | (refine eA ?_; try simp)
  | refine bA ?_
  | (refine oC' (c1) ?_; simp [*])
  | (refine AWp.ret (pR1 rfl ?_); (simp [*]; done))
  | (refine guardI (fun hq => ?_) (fun hq => ?_) <;> (try simp at hq) <;> (try simp [*]))
  | (refine cRI (fun hq => ?_) (fun hq => ?_) <;> (try simp at hq) <;> (try simp [*]))
  | (refine iteI ?_ ?_ <;> intro hq <;> (try simp [*])))
 have hd9 : d <= 8 := by omega
 have hdi : (d : Int) <= 8 := by omega
 have hdj : ¬ ((8 : Int) < d) := by omega
 cases hp : partsOk k n s l.length
 ·repeat' (first
  | refine qA ?_
  | (refine raA ?_; simp [*])
  | (refine gA ?_; simp [*])
  | (refine kA ?_; try simp)
  | (refine eA ?_; try simp)
  | refine bA ?_
  | (refine oC' (c1) ?_; simp [*])
  | (refine AWp.ret (pR1 rfl ?_); (simp [*]; done))
  | (refine guardI (fun hq => ?_) (fun hq => ?_) <;> (try simp at hq) <;> (try simp [*]))
  | (refine cRI (fun hq => ?_) (fun hq => ?_) <;> (try simp at hq) <;> (try simp [*]))
  | (refine iteI ?_ ?_ <;> intro hq <;> (try simp [*])))
 repeat' (first
  | refine qA ?_
  | (refine raA ?_; simp [*])
  | (refine gA ?_; simp [*])
  | (refine kA ?_; try simp)
  | (refine eA ?_; try simp)
  | refine bA ?_
  | (refine oC' (c1) ?_; simp [*])
  | (refine guardI (fun hq => ?_) (fun hq => ?_) <;> (try simp at hq) <;> (try simp [*]))
  | (refine cRI (fun hq => ?_) (fun hq => ?_) <;> (try simp at hq) <;> (try simp [*]))
  | (refine iteI ?_ ?_ <;> intro hq <;> (try simp [*])))
 refine (AWp.rounds (fun m st => ∃ (i : Nat) (q : Int), m = l.length - i /\ i <= l.length /\ st.slots 2 = .ptr g 0 /\ st.mem g = some (.box [.int .i64 k, .int .i64 n, .str s, .lst false 4 (l.map Ex.av)]) /\ st.slots 6 = .int .i64 i /\ st.slots 1 = .int .i64 d /\ st.slots 5 = .int .i64 q /\ 0 <= q /\ q + 100 * sumL Ex.nodes (l.drop i) <= 1 + 100 * sumL Ex.nodes l /\ Ex.cnts l (d + 1) 1 = Ex.cnts (l.drop i) (d + 1) q) l.length ⟨0, 1, by simp, by simp, by simp, by simp, by simp, by simp, by simp, by omega, by simp, by simp⟩ ?_)
 rintro R m st hR ⟨i, q, rfl, hi, s2, sg, s6, s1, s5, hq0, hq1, hr⟩
 have hF : i < l.length /\ q <= 60 ∨ Ex.cnts l (d + 1) 1 = q := by
  by_cases hb : i < l.length
  ·by_cases hq : q <= 60
   ·exact .inl ⟨hb, hq⟩
   refine .inr ?_
   rw [hr, List.drop_eq_getElem_cons hb, Ex.cnts, if_neg hq]
  refine .inr ?_
  rw [hr, List.drop_eq_nil_of_le (by omega), Ex.cnts]
 by_cases hb : i < l.length /\ q <= 60
 ·obtain ⟨hb, hq⟩ := hb
  have hg : l[i]? = some l[i] := List.getElem?_eq_getElem hb
  have hdr : l.drop i = l[i] :: l.drop (i + 1) := List.drop_eq_getElem_cons hb
  have hbi : (i : Int) < l.length := by omega
  (repeat refine qA ?_);refine rA ?_
  simp [s2, sg, s5, s6, hb, hq]
  (repeat refine qA ?_);refine tA ?_
  refine kA ?_
  simp
  (repeat refine qA ?_);refine bA ?_;(repeat refine qA ?_);refine raA ?_
  have hx : idxA Tryz.prog st.mem 24 (.lst false 4 (l.map Ex.av)) (.int .i64 i) = some (.ref l[i].cells) := idx (y := l[i].av) es_24 (by simp [hg])
  have hw1 : IntKind.wrap .i64 ((d : Int) + 1) = ((d + 1 : Nat) : Int) := wrap64 (by omega) (by omega)
  simp [s2, sg, s1, s5, s6, hx, hw1]
  refine oC' (h l[i] (List.getElem_mem _) (d + 1) (by omega)) ?_
  have hc0 := l[i].cnt_pos (d + 1)
  have hc1 := l[i].cnt_le (d + 1)
  rw [hdr, sumL] at hq1
  have hw2 : IntKind.wrap .i64 (q + l[i].cnt (d + 1)) = q + l[i].cnt (d + 1) := wrap64 (by omega) (by omega)
  simp [hw2]
  (repeat refine qA ?_);refine rA ?_
  have hw := iA i (by omega)
  simp [s6, hw]
  refine hR _ (l.length - (i + 1)) (by omega) ⟨i + 1, q + l[i].cnt (d + 1), rfl, hb, by simp [s2], by simp [sg], by simp, by simp [s1], by simp, by omega, by omega, ?_⟩
  rw [hr, hdr, Ex.cnts, if_pos hq]
 have hfin : Ex.cnts l (d + 1) 1 = q := hF.resolve_left hb
 (repeat refine qA ?_);refine rA ?_
 by_cases hb1 : i < l.length
 ·have hq : ¬ q <= 60 := fun hq => hb ⟨hb1, hq⟩
  simp [s2, sg, s5, s6, hb1, hq]
  (repeat refine qA ?_);refine AWp.condF (by simp [hq]) ?_
  refine eA ?_
  simp
  (repeat refine qA ?_);refine rA ?_
  simp [s5]
  exact AWp.ret (pR1 rfl (by simp [hd9, hfin]))
 simp [s2, sg, s5, s6, hb1]
 (repeat refine qA ?_);refine fA ?_
 refine eA ?_
 simp
 (repeat refine qA ?_);refine rA ?_
 simp [s5]
 exact AWp.ret (pR1 rfl (by simp [hd9, hfin]))
theorem c_l3Count (e : Ex) : e.tot <= 1048576 -> ∀ d : Nat, d <= 9 -> PCall Tryz.prog 40 [e.av, .int .i64 d] (.int .i64 (e.cnt d)) := by
 induction e using Ex.ind with | h k n s l h =>
 intro ht d hd
 refine c_l3Count0 k n s l ht (fun x hx => h x hx ?_) d hd
 rw [Ex.tot_mk] at ht
 have := totL_mem Ex.tot hx
 omega
theorem xEO (e : Ex) (ht : e.tot <= 1048576) : PCall Tryz.prog 13 [e.av] (.bool e.ok) := by
 refine pO Tryz.func13 (by kernel_rfl) rfl (by simp [Tryz.f13]) ?_
 have c1 := c_l3Count e ht 1 (by omega)
 unfold Ex.av at c1 ⊢
 (repeat refine qA ?_);refine rA ?_
 simp
 intro g
 (repeat refine qA ?_);refine raA ?_
 simp
 refine oC' c1 ?_
 simp
 exact AWp.ret (pR1 rfl (by simp [Ex.ok_cnt]))
end Go.T
