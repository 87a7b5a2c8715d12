/- Facts about the types of the program. Names: what the program and the reference compute. What the laws' measuring, copying and comparing functions compute. What the laws' copying and comparing functions compute. What is right: what the program and the reference compute. What is right: what the program and the reference compute. Expressions that are right: what the program computes. Expressions that are right: what the reference computes. -/
import Derived.Test.YtdbnllfjmkmdiaaGreatDoorG6
import Derived.Test.YtdbnllfjmkmdiaaGreatDoorG2
import Derived.Test.YtdbnllfjmkmdiaaGreatDoorProg
import Derived.Test.YtdbnllfjmkmdiaaGreatDoorG3
set_option linter.unusedSimpArgs false
set_option linter.unusedVariables false
namespace Go.T
open Go Go.Proofs
set_option maxRecDepth 10000
@[simp] theorem ld_2 : loadT Tryz.prog 2 = some (1, false) := by kernel_rfl
@[simp] theorem sz_2 : szT Tryz.prog 2 = some 1 := by kernel_rfl
@[simp] theorem ag_2 : aggT Tryz.prog 2 = some false := by kernel_rfl
@[simp] theorem un_2 : Tryz.prog.underlying 2 = some (.int .i64) := by kernel_rfl
@[simp] theorem zt_2 : zeroT Tryz.prog 2 = some (.int .i64 0) := by kernel_rfl
@[simp] theorem zr_2 : zeroE Tryz.prog 2 = some (.int .i64 0) := by kernel_rfl
@[simp] theorem ld_3 : loadT Tryz.prog 3 = some (1, false) := by kernel_rfl
@[simp] theorem sz_3 : szT Tryz.prog 3 = some 1 := by kernel_rfl
@[simp] theorem ag_3 : aggT Tryz.prog 3 = some false := by kernel_rfl
@[simp] theorem un_3 : Tryz.prog.underlying 3 = some (.int .i64) := by kernel_rfl
@[simp] theorem zt_3 : zeroT Tryz.prog 3 = some (.int .i64 0) := by kernel_rfl
@[simp] theorem zr_3 : zeroE Tryz.prog 3 = some (.int .i64 0) := by kernel_rfl
@[simp] theorem ld_4 : loadT Tryz.prog 4 = some (1, false) := by kernel_rfl
@[simp] theorem sz_4 : szT Tryz.prog 4 = some 1 := by kernel_rfl
@[simp] theorem ag_4 : aggT Tryz.prog 4 = some false := by kernel_rfl
@[simp] theorem un_4 : Tryz.prog.underlying 4 = some .bool := by kernel_rfl
@[simp] theorem zt_4 : zeroT Tryz.prog 4 = some (.bool false) := by kernel_rfl
@[simp] theorem zr_4 : zeroE Tryz.prog 4 = some (.bool false) := by kernel_rfl
@[simp] theorem ld_5 : loadT Tryz.prog 5 = some (1, false) := by kernel_rfl
@[simp] theorem sz_5 : szT Tryz.prog 5 = some 1 := by kernel_rfl
@[simp] theorem ag_5 : aggT Tryz.prog 5 = some false := by kernel_rfl
@[simp] theorem un_5 : Tryz.prog.underlying 5 = some (.int .u8) := by kernel_rfl
@[simp] theorem zt_5 : zeroT Tryz.prog 5 = some (.int .u8 0) := by kernel_rfl
@[simp] theorem zr_5 : zeroE Tryz.prog 5 = some (.int .u8 0) := by kernel_rfl
@[simp] theorem ld_9 : loadT Tryz.prog 9 = some (1, false) := by kernel_rfl
@[simp] theorem sz_9 : szT Tryz.prog 9 = some 1 := by kernel_rfl
@[simp] theorem ag_9 : aggT Tryz.prog 9 = some false := by kernel_rfl
@[simp] theorem un_9 : Tryz.prog.underlying 9 = some .string := by kernel_rfl
@[simp] theorem zt_9 : zeroT Tryz.prog 9 = some (.str ByteArray.empty) := by kernel_rfl
@[simp] theorem zr_9 : zeroE Tryz.prog 9 = some (.str ByteArray.empty) := by kernel_rfl
@[simp] theorem ld_21 : loadT Tryz.prog 21 = some (1, false) := by kernel_rfl
@[simp] theorem sz_21 : szT Tryz.prog 21 = some 1 := by kernel_rfl
@[simp] theorem ag_21 : aggT Tryz.prog 21 = some false := by kernel_rfl
@[simp] theorem un_21 : Tryz.prog.underlying 21 = some (.int .i32) := by kernel_rfl
@[simp] theorem zt_21 : zeroT Tryz.prog 21 = some (.int .i32 0) := by kernel_rfl
@[simp] theorem zr_21 : zeroE Tryz.prog 21 = some (.int .i32 0) := by kernel_rfl
@[simp] theorem ld_22 : loadT Tryz.prog 22 = some (1, false) := by kernel_rfl
@[simp] theorem sz_22 : szT Tryz.prog 22 = some 1 := by kernel_rfl
@[simp] theorem ag_22 : aggT Tryz.prog 22 = some false := by kernel_rfl
@[simp] theorem es_22 : esz Tryz.prog 22 = some 1 := by kernel_rfl
@[simp] theorem el_22 : elemT Tryz.prog 22 = some 5 := by kernel_rfl
@[simp] theorem un_22 : Tryz.prog.underlying 22 = some (.slice 5) := by kernel_rfl
@[simp] theorem ii_22 : isIntT Tryz.prog 22 = some false := by kernel_rfl
@[simp] theorem by_5 : bytesT Tryz.prog 5 = some 1 := by kernel_rfl
theorem et_22 : ElemT Tryz.prog 22 5 1 1 := ⟨by kernel_rfl, by kernel_rfl, by kernel_rfl, by kernel_rfl, ⟨.int .u8 0, by kernel_rfl, by kernel_rfl⟩, by decide⟩
@[simp] theorem zt_22 : zeroT Tryz.prog 22 = some (.lst true 0 []) := by kernel_rfl
@[simp] theorem zr_22 : zeroE Tryz.prog 22 = some (.lst true 0 []) := by kernel_rfl
@[simp] theorem ld_24 : loadT Tryz.prog 24 = some (1, false) := by kernel_rfl
@[simp] theorem sz_24 : szT Tryz.prog 24 = some 1 := by kernel_rfl
@[simp] theorem ag_24 : aggT Tryz.prog 24 = some false := by kernel_rfl
@[simp] theorem es_24 : esz Tryz.prog 24 = some 4 := by kernel_rfl
@[simp] theorem el_24 : elemT Tryz.prog 24 = some 26 := by kernel_rfl
@[simp] theorem un_24 : Tryz.prog.underlying 24 = some (.slice 26) := by kernel_rfl
@[simp] theorem ii_24 : isIntT Tryz.prog 24 = some false := by kernel_rfl
@[simp] theorem by_26 : bytesT Tryz.prog 26 = some 56 := by kernel_rfl
theorem et_24 : ElemT Tryz.prog 24 26 4 56 := ⟨by kernel_rfl, by kernel_rfl, by kernel_rfl, by kernel_rfl, ⟨.agg [.int .i64 0, .int .i64 0, .str ByteArray.empty, .lst true 0 []], by kernel_rfl, by kernel_rfl⟩, by decide⟩
@[simp] theorem zt_24 : zeroT Tryz.prog 24 = some (.lst true 0 []) := by kernel_rfl
@[simp] theorem zr_24 : zeroE Tryz.prog 24 = some (.lst true 0 []) := by kernel_rfl
@[simp] theorem ld_26 : loadT Tryz.prog 26 = some (4, true) := by kernel_rfl
@[simp] theorem sz_26 : szT Tryz.prog 26 = some 4 := by kernel_rfl
@[simp] theorem ag_26 : aggT Tryz.prog 26 = some true := by kernel_rfl
@[simp] theorem fd_26_0 : fieldT Tryz.prog 26 0 = some (0, 1, false) := by kernel_rfl
@[simp] theorem fd_26_1 : fieldT Tryz.prog 26 1 = some (1, 1, false) := by kernel_rfl
@[simp] theorem fd_26_2 : fieldT Tryz.prog 26 2 = some (2, 1, false) := by kernel_rfl
@[simp] theorem fd_26_3 : fieldT Tryz.prog 26 3 = some (3, 1, false) := by kernel_rfl
@[simp] theorem pl_26 : placesT Tryz.prog 26 = some [(0, 1), (1, 1), (2, 1), (3, 1)] := by kernel_rfl
@[simp] theorem zt_26 : zeroT Tryz.prog 26 = some (.agg [.int .i64 0, .int .i64 0, .str ByteArray.empty, .lst true 0 []]) := by kernel_rfl
@[simp] theorem zr_26 : zeroE Tryz.prog 26 = some (.agg [.int .i64 0, .int .i64 0, .str ByteArray.empty, .lst true 0 []]) := by kernel_rfl
@[simp] theorem ld_29 : loadT Tryz.prog 29 = some (1, false) := by kernel_rfl
@[simp] theorem sz_29 : szT Tryz.prog 29 = some 1 := by kernel_rfl
@[simp] theorem ag_29 : aggT Tryz.prog 29 = some false := by kernel_rfl
@[simp] theorem es_29 : esz Tryz.prog 29 = some 2 := by kernel_rfl
@[simp] theorem el_29 : elemT Tryz.prog 29 = some 57 := by kernel_rfl
@[simp] theorem un_29 : Tryz.prog.underlying 29 = some (.slice 57) := by kernel_rfl
@[simp] theorem ii_29 : isIntT Tryz.prog 29 = some false := by kernel_rfl
@[simp] theorem by_57 : bytesT Tryz.prog 57 = some 24 := by kernel_rfl
theorem et_29 : ElemT Tryz.prog 29 57 2 24 := ⟨by kernel_rfl, by kernel_rfl, by kernel_rfl, by kernel_rfl, ⟨.agg [.str ByteArray.empty, .int .i64 0], by kernel_rfl, by kernel_rfl⟩, by decide⟩
@[simp] theorem zt_29 : zeroT Tryz.prog 29 = some (.lst true 0 []) := by kernel_rfl
@[simp] theorem zr_29 : zeroE Tryz.prog 29 = some (.lst true 0 []) := by kernel_rfl
@[simp] theorem ld_30 : loadT Tryz.prog 30 = some (1, false) := by kernel_rfl
@[simp] theorem sz_30 : szT Tryz.prog 30 = some 1 := by kernel_rfl
@[simp] theorem ag_30 : aggT Tryz.prog 30 = some false := by kernel_rfl
@[simp] theorem es_30 : esz Tryz.prog 30 = some 19 := by kernel_rfl
@[simp] theorem el_30 : elemT Tryz.prog 30 = some 83 := by kernel_rfl
@[simp] theorem un_30 : Tryz.prog.underlying 30 = some (.slice 83) := by kernel_rfl
@[simp] theorem ii_30 : isIntT Tryz.prog 30 = some false := by kernel_rfl
@[simp] theorem by_83 : bytesT Tryz.prog 83 = some 272 := by kernel_rfl
theorem et_30 : ElemT Tryz.prog 30 83 19 272 := ⟨by kernel_rfl, by kernel_rfl, by kernel_rfl, by kernel_rfl, ⟨.agg [.int .i64 0, .str ByteArray.empty, .int .i64 0, .int .i64 0, .str ByteArray.empty, .lst true 0 [], .int .i64 0, .int .i64 0, .str ByteArray.empty, .lst true 0 [], .int .i64 0, .int .i64 0, .str ByteArray.empty, .lst true 0 [], .int .i64 0, .int .i64 0, .str ByteArray.empty, .lst true 0 [], .lst true 0 []], by kernel_rfl, by kernel_rfl⟩, by decide⟩
@[simp] theorem zt_30 : zeroT Tryz.prog 30 = some (.lst true 0 []) := by kernel_rfl
@[simp] theorem zr_30 : zeroE Tryz.prog 30 = some (.lst true 0 []) := by kernel_rfl
@[simp] theorem ld_32 : loadT Tryz.prog 32 = some (2, true) := by kernel_rfl
@[simp] theorem sz_32 : szT Tryz.prog 32 = some 2 := by kernel_rfl
@[simp] theorem ag_32 : aggT Tryz.prog 32 = some true := by kernel_rfl
@[simp] theorem fd_32_0 : fieldT Tryz.prog 32 0 = some (0, 1, false) := by kernel_rfl
@[simp] theorem fd_32_1 : fieldT Tryz.prog 32 1 = some (1, 1, false) := by kernel_rfl
@[simp] theorem pl_32 : placesT Tryz.prog 32 = some [(0, 1), (1, 1)] := by kernel_rfl
@[simp] theorem zt_32 : zeroT Tryz.prog 32 = some (.agg [.lst true 0 [], .lst true 0 []]) := by kernel_rfl
@[simp] theorem zr_32 : zeroE Tryz.prog 32 = some (.agg [.lst true 0 [], .lst true 0 []]) := by kernel_rfl
@[simp] theorem ld_40 : loadT Tryz.prog 40 = some (1, false) := by kernel_rfl
@[simp] theorem sz_40 : szT Tryz.prog 40 = some 1 := by kernel_rfl
@[simp] theorem ag_40 : aggT Tryz.prog 40 = some false := by kernel_rfl
@[simp] theorem es_40 : esz Tryz.prog 40 = some 3 := by kernel_rfl
@[simp] theorem el_40 : elemT Tryz.prog 40 = some 77 := by kernel_rfl
@[simp] theorem un_40 : Tryz.prog.underlying 40 = some (.slice 77) := by kernel_rfl
@[simp] theorem ii_40 : isIntT Tryz.prog 40 = some false := by kernel_rfl
@[simp] theorem by_77 : bytesT Tryz.prog 77 = some 32 := by kernel_rfl
theorem et_40 : ElemT Tryz.prog 40 77 3 32 := ⟨by kernel_rfl, by kernel_rfl, by kernel_rfl, by kernel_rfl, ⟨.agg [.int .i64 0, .str ByteArray.empty, .int .i64 0], by kernel_rfl, by kernel_rfl⟩, by decide⟩
@[simp] theorem zt_40 : zeroT Tryz.prog 40 = some (.lst true 0 []) := by kernel_rfl
@[simp] theorem zr_40 : zeroE Tryz.prog 40 = some (.lst true 0 []) := by kernel_rfl
@[simp] theorem ld_57 : loadT Tryz.prog 57 = some (2, true) := by kernel_rfl
@[simp] theorem sz_57 : szT Tryz.prog 57 = some 2 := by kernel_rfl
@[simp] theorem ag_57 : aggT Tryz.prog 57 = some true := by kernel_rfl
@[simp] theorem fd_57_0 : fieldT Tryz.prog 57 0 = some (0, 1, false) := by kernel_rfl
@[simp] theorem fd_57_1 : fieldT Tryz.prog 57 1 = some (1, 1, false) := by kernel_rfl
@[simp] theorem pl_57 : placesT Tryz.prog 57 = some [(0, 1), (1, 1)] := by kernel_rfl
@[simp] theorem zt_57 : zeroT Tryz.prog 57 = some (.agg [.str ByteArray.empty, .int .i64 0]) := by kernel_rfl
@[simp] theorem zr_57 : zeroE Tryz.prog 57 = some (.agg [.str ByteArray.empty, .int .i64 0]) := by kernel_rfl
@[simp] theorem ld_68 : loadT Tryz.prog 68 = some (4, true) := by kernel_rfl
@[simp] theorem sz_68 : szT Tryz.prog 68 = some 4 := by kernel_rfl
@[simp] theorem ag_68 : aggT Tryz.prog 68 = some true := by kernel_rfl
@[simp] theorem fd_68_0 : fieldT Tryz.prog 68 0 = some (0, 1, false) := by kernel_rfl
@[simp] theorem fd_68_1 : fieldT Tryz.prog 68 1 = some (1, 1, false) := by kernel_rfl
@[simp] theorem fd_68_2 : fieldT Tryz.prog 68 2 = some (2, 1, false) := by kernel_rfl
@[simp] theorem fd_68_3 : fieldT Tryz.prog 68 3 = some (3, 1, false) := by kernel_rfl
@[simp] theorem pl_68 : placesT Tryz.prog 68 = some [(0, 1), (1, 1), (2, 1), (3, 1)] := by kernel_rfl
@[simp] theorem zt_68 : zeroT Tryz.prog 68 = some (.agg [.lst true 0 [], .int .i64 0, .int .i64 0, .bool false]) := by kernel_rfl
@[simp] theorem zr_68 : zeroE Tryz.prog 68 = some (.agg [.lst true 0 [], .int .i64 0, .int .i64 0, .bool false]) := by kernel_rfl
@[simp] theorem ld_70 : loadT Tryz.prog 70 = some (1, false) := by kernel_rfl
@[simp] theorem sz_70 : szT Tryz.prog 70 = some 1 := by kernel_rfl
@[simp] theorem ag_70 : aggT Tryz.prog 70 = some false := by kernel_rfl
@[simp] theorem es_70 : esz Tryz.prog 70 = some 1 := by kernel_rfl
@[simp] theorem el_70 : elemT Tryz.prog 70 = some 9 := by kernel_rfl
@[simp] theorem un_70 : Tryz.prog.underlying 70 = some (.slice 9) := by kernel_rfl
@[simp] theorem ii_70 : isIntT Tryz.prog 70 = some false := by kernel_rfl
@[simp] theorem by_9 : bytesT Tryz.prog 9 = some 16 := by kernel_rfl
theorem et_70 : ElemT Tryz.prog 70 9 1 16 := ⟨by kernel_rfl, by kernel_rfl, by kernel_rfl, by kernel_rfl, ⟨.str ByteArray.empty, by kernel_rfl, by kernel_rfl⟩, by decide⟩
@[simp] theorem zt_70 : zeroT Tryz.prog 70 = some (.lst true 0 []) := by kernel_rfl
@[simp] theorem zr_70 : zeroE Tryz.prog 70 = some (.lst true 0 []) := by kernel_rfl
@[simp] theorem ld_77 : loadT Tryz.prog 77 = some (3, true) := by kernel_rfl
@[simp] theorem sz_77 : szT Tryz.prog 77 = some 3 := by kernel_rfl
@[simp] theorem ag_77 : aggT Tryz.prog 77 = some true := by kernel_rfl
@[simp] theorem fd_77_0 : fieldT Tryz.prog 77 0 = some (0, 1, false) := by kernel_rfl
@[simp] theorem fd_77_1 : fieldT Tryz.prog 77 1 = some (1, 1, false) := by kernel_rfl
@[simp] theorem fd_77_2 : fieldT Tryz.prog 77 2 = some (2, 1, false) := by kernel_rfl
@[simp] theorem pl_77 : placesT Tryz.prog 77 = some [(0, 1), (1, 1), (2, 1)] := by kernel_rfl
@[simp] theorem zt_77 : zeroT Tryz.prog 77 = some (.agg [.int .i64 0, .str ByteArray.empty, .int .i64 0]) := by kernel_rfl
@[simp] theorem zr_77 : zeroE Tryz.prog 77 = some (.agg [.int .i64 0, .str ByteArray.empty, .int .i64 0]) := by kernel_rfl
@[simp] theorem ld_83 : loadT Tryz.prog 83 = some (19, true) := by kernel_rfl
@[simp] theorem sz_83 : szT Tryz.prog 83 = some 19 := by kernel_rfl
@[simp] theorem ag_83 : aggT Tryz.prog 83 = some true := by kernel_rfl
@[simp] theorem fd_83_0 : fieldT Tryz.prog 83 0 = some (0, 1, false) := by kernel_rfl
@[simp] theorem fd_83_1 : fieldT Tryz.prog 83 1 = some (1, 1, false) := by kernel_rfl
@[simp] theorem fd_83_2 : fieldT Tryz.prog 83 2 = some (2, 4, true) := by kernel_rfl
@[simp] theorem fd_83_3 : fieldT Tryz.prog 83 3 = some (6, 4, true) := by kernel_rfl
@[simp] theorem fd_83_4 : fieldT Tryz.prog 83 4 = some (10, 4, true) := by kernel_rfl
@[simp] theorem fd_83_5 : fieldT Tryz.prog 83 5 = some (14, 4, true) := by kernel_rfl
@[simp] theorem fd_83_6 : fieldT Tryz.prog 83 6 = some (18, 1, false) := by kernel_rfl
@[simp] theorem pl_83 : placesT Tryz.prog 83 = some [(0, 1), (1, 1), (2, 4), (6, 4), (10, 4), (14, 4), (18, 1)] := by kernel_rfl
@[simp] theorem zt_83 : zeroT Tryz.prog 83 = some (.agg [.int .i64 0, .str ByteArray.empty, .int .i64 0, .int .i64 0, .str ByteArray.empty, .lst true 0 [], .int .i64 0, .int .i64 0, .str ByteArray.empty, .lst true 0 [], .int .i64 0, .int .i64 0, .str ByteArray.empty, .lst true 0 [], .int .i64 0, .int .i64 0, .str ByteArray.empty, .lst true 0 [], .lst true 0 []]) := by kernel_rfl
@[simp] theorem zr_83 : zeroE Tryz.prog 83 = some (.agg [.int .i64 0, .str ByteArray.empty, .int .i64 0, .int .i64 0, .str ByteArray.empty, .lst true 0 [], .int .i64 0, .int .i64 0, .str ByteArray.empty, .lst true 0 [], .int .i64 0, .int .i64 0, .str ByteArray.empty, .lst true 0 [], .int .i64 0, .int .i64 0, .str ByteArray.empty, .lst true 0 [], .lst true 0 []]) := by kernel_rfl
@[simp] theorem ld_89 : loadT Tryz.prog 89 = some (1, false) := by kernel_rfl
@[simp] theorem sz_89 : szT Tryz.prog 89 = some 1 := by kernel_rfl
@[simp] theorem ag_89 : aggT Tryz.prog 89 = some false := by kernel_rfl
@[simp] theorem un_89 : Tryz.prog.underlying 89 = some (.pointer 91) := by kernel_rfl
@[simp] theorem zt_89 : zeroT Tryz.prog 89 = some (.nilp) := by kernel_rfl
@[simp] theorem zr_89 : zeroE Tryz.prog 89 = some (.nilp) := by kernel_rfl
@[simp] theorem ld_91 : loadT Tryz.prog 91 = some (4, true) := by kernel_rfl
@[simp] theorem sz_91 : szT Tryz.prog 91 = some 4 := by kernel_rfl
@[simp] theorem ag_91 : aggT Tryz.prog 91 = some true := by kernel_rfl
@[simp] theorem fd_91_0 : fieldT Tryz.prog 91 0 = some (0, 1, false) := by kernel_rfl
@[simp] theorem fd_91_1 : fieldT Tryz.prog 91 1 = some (1, 1, false) := by kernel_rfl
@[simp] theorem fd_91_2 : fieldT Tryz.prog 91 2 = some (2, 1, false) := by kernel_rfl
@[simp] theorem fd_91_3 : fieldT Tryz.prog 91 3 = some (3, 1, false) := by kernel_rfl
@[simp] theorem pl_91 : placesT Tryz.prog 91 = some [(0, 1), (1, 1), (2, 1), (3, 1)] := by kernel_rfl
@[simp] theorem zt_91 : zeroT Tryz.prog 91 = some (.agg [.lst true 0 [], .int .i64 0, .int .i64 0, .bool false]) := by kernel_rfl
@[simp] theorem zr_91 : zeroE Tryz.prog 91 = some (.agg [.lst true 0 [], .int .i64 0, .int .i64 0, .bool false]) := by kernel_rfl
@[simp] theorem ld_110 : loadT Tryz.prog 110 = some (3, true) := by kernel_rfl
@[simp] theorem sz_110 : szT Tryz.prog 110 = some 3 := by kernel_rfl
@[simp] theorem ag_110 : aggT Tryz.prog 110 = some true := by kernel_rfl
@[simp] theorem fd_110_0 : fieldT Tryz.prog 110 0 = some (0, 1, false) := by kernel_rfl
@[simp] theorem fd_110_1 : fieldT Tryz.prog 110 1 = some (1, 1, false) := by kernel_rfl
@[simp] theorem fd_110_2 : fieldT Tryz.prog 110 2 = some (2, 1, false) := by kernel_rfl
@[simp] theorem pl_110 : placesT Tryz.prog 110 = some [(0, 1), (1, 1), (2, 1)] := by kernel_rfl
@[simp] theorem zt_110 : zeroT Tryz.prog 110 = some (.agg [.lst true 0 [], .int .i64 0, .int .i64 0]) := by kernel_rfl
@[simp] theorem zr_110 : zeroE Tryz.prog 110 = some (.agg [.lst true 0 [], .int .i64 0, .int .i64 0]) := by kernel_rfl
@[simp] theorem by_3 : bytesT Tryz.prog 3 = some 8 := by kernel_rfl
@[simp] theorem ld_122 : loadT Tryz.prog 122 = some (1, false) := by kernel_rfl
@[simp] theorem sz_122 : szT Tryz.prog 122 = some 1 := by kernel_rfl
@[simp] theorem ag_122 : aggT Tryz.prog 122 = some false := by kernel_rfl
@[simp] theorem un_122 : Tryz.prog.underlying 122 = some (.pointer 68) := by kernel_rfl
@[simp] theorem zt_122 : zeroT Tryz.prog 122 = some (.nilp) := by kernel_rfl
@[simp] theorem zr_122 : zeroE Tryz.prog 122 = some (.nilp) := by kernel_rfl
@[simp] theorem ld_158 : loadT Tryz.prog 158 = some (1, false) := by kernel_rfl
@[simp] theorem sz_158 : szT Tryz.prog 158 = some 1 := by kernel_rfl
@[simp] theorem ag_158 : aggT Tryz.prog 158 = some false := by kernel_rfl
@[simp] theorem un_158 : Tryz.prog.underlying 158 = some (.int .u64) := by kernel_rfl
@[simp] theorem zt_158 : zeroT Tryz.prog 158 = some (.int .u64 0) := by kernel_rfl
@[simp] theorem zr_158 : zeroE Tryz.prog 158 = some (.int .u64 0) := by kernel_rfl
@[simp] theorem ld_168 : loadT Tryz.prog 168 = some (1, false) := by kernel_rfl
@[simp] theorem sz_168 : szT Tryz.prog 168 = some 1 := by kernel_rfl
@[simp] theorem ag_168 : aggT Tryz.prog 168 = some false := by kernel_rfl
@[simp] theorem es_168 : esz Tryz.prog 168 = some 1 := by kernel_rfl
@[simp] theorem el_168 : elemT Tryz.prog 168 = some 70 := by kernel_rfl
@[simp] theorem un_168 : Tryz.prog.underlying 168 = some (.slice 70) := by kernel_rfl
@[simp] theorem ii_168 : isIntT Tryz.prog 168 = some false := by kernel_rfl
@[simp] theorem by_70 : bytesT Tryz.prog 70 = some 24 := by kernel_rfl
theorem et_168 : ElemT Tryz.prog 168 70 1 24 := ⟨by kernel_rfl, by kernel_rfl, by kernel_rfl, by kernel_rfl, ⟨.lst true 0 [], by kernel_rfl, by kernel_rfl⟩, by decide⟩
@[simp] theorem zt_168 : zeroT Tryz.prog 168 = some (.lst true 0 []) := by kernel_rfl
@[simp] theorem zr_168 : zeroE Tryz.prog 168 = some (.lst true 0 []) := by kernel_rfl
@[simp] theorem ld_176 : loadT Tryz.prog 176 = some (16, true) := by kernel_rfl
@[simp] theorem sz_176 : szT Tryz.prog 176 = some 16 := by kernel_rfl
@[simp] theorem ag_176 : aggT Tryz.prog 176 = some true := by kernel_rfl
@[simp] theorem un_176 : Tryz.prog.underlying 176 = some (.array 4 26) := by kernel_rfl
@[simp] theorem pl_176 : placesT Tryz.prog 176 = some [(0, 4), (4, 4), (8, 4), (12, 4)] := by kernel_rfl
@[simp] theorem zt_176 : zeroT Tryz.prog 176 = some (.agg [.int .i64 0, .int .i64 0, .str ByteArray.empty, .lst true 0 [], .int .i64 0, .int .i64 0, .str ByteArray.empty, .lst true 0 [], .int .i64 0, .int .i64 0, .str ByteArray.empty, .lst true 0 [], .int .i64 0, .int .i64 0, .str ByteArray.empty, .lst true 0 []]) := by kernel_rfl
@[simp] theorem zr_176 : zeroE Tryz.prog 176 = some (.agg [.int .i64 0, .int .i64 0, .str ByteArray.empty, .lst true 0 [], .int .i64 0, .int .i64 0, .str ByteArray.empty, .lst true 0 [], .int .i64 0, .int .i64 0, .str ByteArray.empty, .lst true 0 [], .int .i64 0, .int .i64 0, .str ByteArray.empty, .lst true 0 []]) := by kernel_rfl
end Go.T
namespace Go.T
open Go Go.Proofs
set_option maxRecDepth 10000
set_option maxHeartbeats 1000000
theorem c_l1In (a b c : Int) : PCall Tryz.prog 100 [.int .i64 a, .int .i64 b, .int .i64 c] (.bool (inR a b c)) := by
 refine pcall_of Tryz.func100 (by kernel_rfl) rfl (by simp [Tryz.f100]) ?_
 (repeat refine sqA ?_); refine rgA (by kernel_rfl) ?_
 simp
 (repeat refine sqA ?_); refine rgA (by kernel_rfl) ?_
 by_cases h : b ≤ a
 ·simp [h]
  exact AWp.ret (post_ret1 rfl (by simp [inR, h]))
 ·simp [h]
  exact AWp.ret (post_ret1 rfl (by simp [inR, h]))
theorem c_inRange (a b c : Int) : PCall Tryz.prog 87 [.int .i64 a, .int .i64 b, .int .i64 c] (.bool (inR a b c)) := by
 refine pcall_of Tryz.func87 (by kernel_rfl) rfl (by simp [Tryz.f87]) ?_
 (repeat refine sqA ?_); refine rgA (by kernel_rfl) ?_
 simp
 (repeat refine sqA ?_); refine rgA (by kernel_rfl) ?_
 by_cases h : b ≤ a
 ·simp [h]
  exact AWp.ret (post_ret1 rfl (by simp [inR, h]))
 ·simp [h]
  exact AWp.ret (post_ret1 rfl (by simp [inR, h]))
theorem c_l2Small (c : UInt8) : PCall Tryz.prog 149 [.int .u8 c.toNat] (.bool (small c)) := by
 refine pcall_of Tryz.func149 (by kernel_rfl) rfl (by simp [Tryz.f149]) ?_
 (repeat refine sqA ?_); refine rgA (by kernel_rfl) ?_
 simp
 (repeat refine sqA ?_); refine AWp.region allP (by kernel_rfl) ?_
 have hw : IntKind.wrap .i64 (c.toNat : Int) = c.toNat := wrap64 (by omega) (by have := c.toNat_lt; omega)
 simp [hw]
 refine aop_call _ _ _ _ _ _ _ _ (c_l1In _ _ _) ?_
 simp
 exact AWp.ret (post_ret1 rfl (by simp [small]))
theorem c_isLetter (c : UInt8) : PCall Tryz.prog 108 [.int .u8 c.toNat] (.bool (small c)) := by
 refine pcall_of Tryz.func108 (by kernel_rfl) rfl (by simp [Tryz.f108]) ?_
 (repeat refine sqA ?_); refine rgA (by kernel_rfl) ?_
 simp
 (repeat refine sqA ?_); refine rgA (by kernel_rfl) ?_
 by_cases h : (97 : Int) ≤ c.toNat
 ·simp [h]
  exact AWp.ret (post_ret1 rfl (by simp [inR, small, h]))
 ·simp [h]
  exact AWp.ret (post_ret1 rfl (by simp [inR, small, h]))
theorem c_l2Has (l : List ByteArray) (s : ByteArray) (hl : l.length ≤ 9223372036854775806) : PCall Tryz.prog 106 [strs l, .str s] (.bool (has l s)) := by
 refine pcall_of Tryz.func106 (by kernel_rfl) rfl (by simp [Tryz.f106]) ?_
 (repeat refine sqA ?_); refine rgA (by kernel_rfl) ?_
 simp
 (repeat refine sqA ?_); refine rgA (by kernel_rfl) ?_
 simp
 (repeat refine sqA ?_); refine AWp.block (AWp.rounds (fun n st => ∃ i : Nat, n = l.length - i ∧ i ≤ l.length ∧ st.slots 0 = strs l ∧ st.slots 1 = .str s ∧ st.slots 5 = .int .i64 i ∧ has l s = has (l.drop i) s) l.length ⟨0, by simp⟩ ?_)
 rintro R n st hR ⟨i, rfl, hi, h0, h1, h5, hr⟩
 (repeat refine sqA ?_); refine rgA (by kernel_rfl) ?_
 simp [h0, h5, strs]
 refine AWp.cond (b := decide (i < l.length)) (by simp) (fun hb => ?_) (fun hb => ?_)
 ·simp at hb
  have hg : l[i]? = some l[i] := List.getElem?_eq_getElem hb
  have hd : l.drop i = l[i] :: l.drop (i + 1) := List.drop_eq_getElem_cons hb
  refine AWp.skip ?_
  simp
  (repeat refine sqA ?_); refine AWp.block ?_; (repeat refine sqA ?_); refine rgA (by kernel_rfl) ?_
  have hx : idxA Tryz.prog st.mem 70 (.lst false 1 (List.map AV.str l)) (.int .i64 i) = some (.ref [.str l[i]]) := idx (y := .str l[i]) es_70 (by simp [hg])
  simp [h0, h1, h5, strs, hx]
  refine AWp.cond (b := decide (l[i] = s)) (by simp) (fun he => ?_) (fun he => ?_)
  ·(repeat refine sqA ?_); refine rgA (by kernel_rfl) ?_
   simp
   refine AWp.ret (post_ret1 rfl ?_)
   simp at he
   rw [hr, hd, has, List.any_cons]
   simp [he, has]
  ·simp at he
   refine AWp.skip ?_
   simp
   refine rgA (by kernel_rfl) ?_
   have hw : IntKind.wrap .i64 ((i : Int) + 1) = (i + 1 : Nat) := wrap64 (by omega) (by omega)
   simp [h0, h1, h5, hw]
   refine hR _ (l.length - (i + 1)) (by omega) ⟨i + 1, rfl, hb, by simp [h0, strs], by simp [h1], by simp, ?_⟩
   rw [hr, hd, has, List.any_cons]
   simp [he, has]
 ·simp at hb
  refine AWp.exit ?_
  simp
  (repeat refine sqA ?_); refine rgA (by kernel_rfl) ?_
  simp
  refine AWp.ret (post_ret1 rfl ?_)
  have : i = l.length := by omega
  subst this
  simpa [has] using hr
theorem c_l2Kept (s : ByteArray) : PCall Tryz.prog 150 [.str s] (.bool (kept s)) := by
 refine pcall_of Tryz.func150 (by kernel_rfl) rfl (by simp [Tryz.f150]) ?_
 (repeat refine sqA ?_); refine rgA (by kernel_rfl) ?_
 simp
 (repeat refine sqA ?_); refine AWp.region allP (by kernel_rfl) ?_
 simp
 refine aop_call _ _ _ _ _ _ _ _ ((c_l2Has keptL s (by decide)).arg (.cons (Le.lst _ _ _) (.cons (Le.refl _) .nil))) ?_
 simp
 exact AWp.ret (post_ret1 rfl (by simp [kept]))
theorem c_isKept (s : ByteArray) : PCall Tryz.prog 109 [.str s] (.bool (kept s)) := by
 refine pcall_of Tryz.func109 (by kernel_rfl) rfl (by simp [Tryz.f109]) ?_
 (repeat refine sqA ?_); refine rgA (by kernel_rfl) ?_
 simp
 (repeat refine sqA ?_); refine rgA (by kernel_rfl) ?_
 simp
 (repeat refine sqA ?_); refine AWp.block ?_
 (repeat refine sqA ?_); refine rgA (by kernel_rfl) ?_
 simp
 refine AWp.cond (b := decide (s = ⟨#[97, 114, 114, 97, 121]⟩)) (by simp) (fun h => ?_) (fun h0 => ?_)
 ·simp at h
  refine AWp.skip ?_
  simp
  refine AWp.cond (b := true) (by simp [h]) (fun _ => ?_) (fun h => by cases h)
  (repeat refine sqA ?_); refine rgA (by kernel_rfl) ?_
  simp
  exact AWp.ret (post_ret1 rfl (by simp [kept, has, keptL, h]))
 simp at h0
 (repeat refine sqA ?_); refine rgA (by kernel_rfl) ?_
 simp
 refine AWp.cond (b := decide (s = ⟨#[102, 111, 114]⟩)) (by simp) (fun h => ?_) (fun h1 => ?_)
 ·simp at h
  refine AWp.skip ?_
  simp
  refine AWp.cond (b := true) (by simp [h]) (fun _ => ?_) (fun h => by cases h)
  (repeat refine sqA ?_); refine rgA (by kernel_rfl) ?_
  simp
  exact AWp.ret (post_ret1 rfl (by simp [kept, has, keptL, h]))
 simp at h1
 (repeat refine sqA ?_); refine rgA (by kernel_rfl) ?_
 simp
 refine AWp.cond (b := decide (s = ⟨#[116, 111]⟩)) (by simp) (fun h => ?_) (fun h2 => ?_)
 ·simp at h
  refine AWp.skip ?_
  simp
  refine AWp.cond (b := true) (by simp [h]) (fun _ => ?_) (fun h => by cases h)
  (repeat refine sqA ?_); refine rgA (by kernel_rfl) ?_
  simp
  exact AWp.ret (post_ret1 rfl (by simp [kept, has, keptL, h]))
 simp at h2
 (repeat refine sqA ?_); refine rgA (by kernel_rfl) ?_
 simp
 refine AWp.cond (b := decide (s = ⟨#[112, 114, 105, 110, 116]⟩)) (by simp) (fun h => ?_) (fun h3 => ?_)
 ·simp at h
  refine AWp.skip ?_
  simp
  refine AWp.cond (b := true) (by simp [h]) (fun _ => ?_) (fun h => by cases h)
  (repeat refine sqA ?_); refine rgA (by kernel_rfl) ?_
  simp
  exact AWp.ret (post_ret1 rfl (by simp [kept, has, keptL, h]))
 simp at h3
 (repeat refine sqA ?_); refine rgA (by kernel_rfl) ?_
 simp
 refine AWp.cond (b := decide (s = ⟨#[109, 105, 110]⟩)) (by simp) (fun h => ?_) (fun h4 => ?_)
 ·simp at h
  refine AWp.skip ?_
  simp
  refine AWp.cond (b := true) (by simp [h]) (fun _ => ?_) (fun h => by cases h)
  (repeat refine sqA ?_); refine rgA (by kernel_rfl) ?_
  simp
  exact AWp.ret (post_ret1 rfl (by simp [kept, has, keptL, h]))
 simp at h4
 (repeat refine sqA ?_); refine rgA (by kernel_rfl) ?_
 simp
 refine AWp.cond (b := decide (s = ⟨#[109, 97, 120]⟩)) (by simp) (fun h => ?_) (fun h5 => ?_)
 ·simp at h
  (repeat refine sqA ?_); refine rgA (by kernel_rfl) ?_
  simp
  exact AWp.ret (post_ret1 rfl (by simp [kept, has, keptL, h]))
 ·simp at h5
  refine AWp.skip ?_
  simp
  (repeat refine sqA ?_); refine rgA (by kernel_rfl) ?_
  simp
  refine AWp.ret (post_ret1 rfl ?_)
  simp [kept, has, keptL]
  refine ⟨Ne.symm h0, Ne.symm h1, Ne.symm h2, Ne.symm h3, Ne.symm h4, Ne.symm h5⟩
theorem c_spec_NameOk (s : ByteArray) (hs : s.size ≤ 9223372036854775806) : PCall Tryz.prog 99 [.str s] (.bool (nameOk s)) := by
 refine pcall_of Tryz.func99 (by kernel_rfl) rfl (by simp [Tryz.f99]) ?_
 (repeat refine sqA ?_); refine rgA (by kernel_rfl) ?_
 simp
 (repeat refine sqA ?_); refine rgA (by kernel_rfl) ?_
 simp
 (repeat refine sqA ?_); refine AWp.block (AWp.rounds (fun n st => ∃ i : Nat, n = s.size - i ∧ i ≤ s.size ∧ st.slots 0 = .str s ∧ st.slots 3 = .int .i64 i ∧ s.data.toList.all small = (s.data.toList.drop i).all small) s.size ⟨0, by simp⟩ ?_)
 rintro R n st hR ⟨i, rfl, hi, h0, h3, hr⟩
 (repeat refine sqA ?_); refine rgA (by kernel_rfl) ?_
 simp [h0, h3]
 refine AWp.cond (b := decide (i < s.size)) (by simp) (fun hb => ?_) (fun hb => ?_)
 ·simp at hb
  obtain ⟨b, hg, hd⟩ := all_drop hb small
  refine AWp.skip ?_
  simp
  (repeat refine sqA ?_); refine AWp.block ?_; (repeat refine sqA ?_); refine AWp.region allP (by kernel_rfl) ?_
  have hx : sidxA Tryz.prog 9 (.str s) (.int .i64 i) = some (.int .u8 b.toNat) := sidx un_9 hg
  simp [h0, h3, hx]
  refine aop_call _ _ _ _ _ _ _ _ (c_l2Small _) ?_
  simp
  refine AWp.cond (b := !small b) (by simp) (fun he => ?_) (fun he => ?_)
  ·(repeat refine sqA ?_); refine rgA (by kernel_rfl) ?_
   simp
   refine AWp.ret (post_ret1 rfl ?_)
   simp at he
   simp [nameOk, hr, hd, he]
  ·simp at he
   refine AWp.skip ?_
   simp
   refine rgA (by kernel_rfl) ?_
   have hw : IntKind.wrap .i64 ((i : Int) + 1) = (i + 1 : Nat) := wrap64 (by omega) (by omega)
   simp [h0, h3, hw]
   refine hR _ (s.size - (i + 1)) (by omega) ⟨i + 1, rfl, hb, by simp [h0], by simp, ?_⟩
   rw [hr, hd, he, Bool.true_and]
 ·simp at hb
  have : i = s.size := by omega
  subst this
  rw [drop_size] at hr
  refine AWp.exit ?_
  simp
  (repeat refine sqA ?_); refine AWp.region allP (by kernel_rfl) ?_
  simp [h0]
  refine aop_call _ _ _ _ _ _ _ _ (c_l1In _ _ _) ?_
  cases h1 : inR (s.size : Int) 1 6
  ·simp
   exact AWp.ret (post_ret1 rfl (by simp [nameOk, h1]))
  ·simp [h0]
   refine aop_call _ _ _ _ _ _ _ _ (c_l2Kept _) ?_
   simp
   exact AWp.ret (post_ret1 rfl (by simp [nameOk, hr, h1]))
theorem c_impl_NameOk (s : ByteArray) (hs : s.size ≤ 9223372036854775806) : PCall Tryz.prog 110 [.str s] (.bool (nameOk s)) := by
 refine pcall_of Tryz.func110 (by kernel_rfl) rfl (by simp [Tryz.f110]) ?_
 (repeat refine sqA ?_); refine rgA (by kernel_rfl) ?_
 simp
 (repeat refine sqA ?_); refine rgA (by kernel_rfl) ?_
 simp
 (repeat refine sqA ?_); refine AWp.block (AWp.rounds (fun n st => ∃ i : Nat, n = s.size - i ∧ i ≤ s.size ∧ st.slots 0 = .str s ∧ st.slots 3 = .int .i64 i ∧ s.data.toList.all small = (s.data.toList.drop i).all small) s.size ⟨0, by simp⟩ ?_)
 rintro R n st hR ⟨i, rfl, hi, h0, h3, hr⟩
 (repeat refine sqA ?_); refine rgA (by kernel_rfl) ?_
 simp [h0, h3]
 refine AWp.cond (b := decide (i < s.size)) (by simp) (fun hb => ?_) (fun hb => ?_)
 ·simp at hb
  obtain ⟨b, hg, hd⟩ := all_drop hb small
  refine AWp.skip ?_
  simp
  (repeat refine sqA ?_); refine AWp.block ?_; (repeat refine sqA ?_); refine AWp.region allP (by kernel_rfl) ?_
  have hx : sidxA Tryz.prog 9 (.str s) (.int .i64 i) = some (.int .u8 b.toNat) := sidx un_9 hg
  simp [h0, h3, hx]
  refine aop_call _ _ _ _ _ _ _ _ (c_isLetter _) ?_
  simp
  refine AWp.cond (b := !small b) (by simp) (fun he => ?_) (fun he => ?_)
  ·(repeat refine sqA ?_); refine rgA (by kernel_rfl) ?_
   simp
   refine AWp.ret (post_ret1 rfl ?_)
   simp at he
   simp [nameOk, hr, hd, he]
  ·simp at he
   refine AWp.skip ?_
   simp
   refine rgA (by kernel_rfl) ?_
   have hw : IntKind.wrap .i64 ((i : Int) + 1) = (i + 1 : Nat) := wrap64 (by omega) (by omega)
   simp [h0, h3, hw]
   refine hR _ (s.size - (i + 1)) (by omega) ⟨i + 1, rfl, hb, by simp [h0], by simp, ?_⟩
   rw [hr, hd, he, Bool.true_and]
 ·simp at hb
  have : i = s.size := by omega
  subst this
  rw [drop_size] at hr
  refine AWp.exit ?_
  simp
  (repeat refine sqA ?_); refine AWp.region allP (by kernel_rfl) ?_
  simp [h0]
  refine aop_call _ _ _ _ _ _ _ _ (c_inRange _ _ _) ?_
  cases h1 : inR (s.size : Int) 1 6
  ·simp
   exact AWp.ret (post_ret1 rfl (by simp [nameOk, h1]))
  ·simp [h0]
   refine aop_call _ _ _ _ _ _ _ _ (c_isKept _) ?_
   simp
   exact AWp.ret (post_ret1 rfl (by simp [nameOk, hr, h1]))
end Go.T
namespace Go.T
open Go Go.Proofs
set_option maxRecDepth 10000
set_option maxHeartbeats 1000000
end Go.T
namespace Go.T
open Go Go.Proofs
set_option maxRecDepth 10000
set_option maxHeartbeats 1000000
theorem c_eqExpS (l : List Ex) (hl : l.length ≤ 1048576) (h : ∀ x ∈ l, PCall Tryz.prog 161 [x.av, x.av] (.bool true)) :
  PCall Tryz.prog 181 [.lst false 4 (l.map Ex.av), .lst false 4 (l.map Ex.av)] (.bool true) := by
 refine pcall_of Tryz.func181 (by kernel_rfl) rfl (by simp [Tryz.f181]) ?_
 (repeat refine sqA ?_); refine rgA (by kernel_rfl) ?_
 simp
 (repeat refine sqA ?_); refine rgA (by kernel_rfl) ?_
 simp
 refine AWp.cond (b := false) (by simp) (fun h => by cases h) (fun _ => ?_)
 refine AWp.skip ?_
 simp
 (repeat refine sqA ?_); refine rgA (by kernel_rfl) ?_
 simp
 (repeat refine sqA ?_); refine AWp.block (AWp.rounds (fun m st => ∃ (i : Nat), m = l.length - i ∧ i ≤ l.length ∧ st.slots 0 = .lst false 4 (l.map Ex.av) ∧ st.slots 1 = .lst false 4 (l.map Ex.av) ∧ st.slots 5 = .int .i64 i) l.length ⟨0, by simp, by simp, by simp, by simp, by simp⟩ ?_)
 rintro R m st hR ⟨i, rfl, hi, s0, s1, s5⟩
 (repeat refine sqA ?_); refine rgA (by kernel_rfl) ?_
 simp [s0, s5]
 refine AWp.cond (b := decide (i < l.length)) (by simp) (fun hb => ?_) (fun hb => ?_)
 ·simp at hb
  have hq : l[i]? = some l[i] := List.getElem?_eq_getElem hb
  refine AWp.skip ?_
  simp
  (repeat refine sqA ?_); refine AWp.block ?_; (repeat refine sqA ?_); refine AWp.region allP (by kernel_rfl) ?_
  have hx1 : idxA Tryz.prog st.mem 24 (.lst false 4 (l.map Ex.av)) (.int .i64 i) = some (.ref l[i].cells) := idx (y := l[i].av) es_24 (by simp [hq])
  simp [s0, s1, s5, hx1]
  refine aop_call _ _ _ _ _ _ _ _ (h l[i] (List.getElem_mem _)) ?_
  simp
  refine AWp.cond (b := false) (by simp) (fun h => by cases h) (fun _ => ?_)
  refine AWp.skip ?_
  simp
  (repeat refine sqA ?_); refine rgA (by kernel_rfl) ?_
  have hw : IntKind.wrap .i64 ((i : Int) + 1) = (i + 1 : Nat) := wrap64 (by omega) (by omega)
  simp [s5, hw]
  exact hR _ (l.length - (i + 1)) (by omega) ⟨i + 1, rfl, hb, by simp [s0], by simp [s1], by simp⟩
 ·simp at hb
  refine AWp.exit ?_
  simp
  (repeat refine sqA ?_); refine rgA (by kernel_rfl) ?_
  simp
  exact AWp.ret (post_ret1 rfl (by simp))
theorem c_eqStmtS (l : List Sm) (hl : l.length ≤ 1048576) (h : ∀ x ∈ l, PCall Tryz.prog 124 [x.av, x.av] (.bool true)) :
  PCall Tryz.prog 69 [.lst false 19 (l.map Sm.av), .lst false 19 (l.map Sm.av)] (.bool true) := by
 refine pcall_of Tryz.func69 (by kernel_rfl) rfl (by simp [Tryz.f69]) ?_
 (repeat refine sqA ?_); refine rgA (by kernel_rfl) ?_
 simp
 (repeat refine sqA ?_); refine rgA (by kernel_rfl) ?_
 simp
 refine AWp.cond (b := false) (by simp) (fun h => by cases h) (fun _ => ?_)
 refine AWp.skip ?_
 simp
 (repeat refine sqA ?_); refine rgA (by kernel_rfl) ?_
 simp
 (repeat refine sqA ?_); refine AWp.block (AWp.rounds (fun m st => ∃ (i : Nat), m = l.length - i ∧ i ≤ l.length ∧ st.slots 0 = .lst false 19 (l.map Sm.av) ∧ st.slots 1 = .lst false 19 (l.map Sm.av) ∧ st.slots 5 = .int .i64 i) l.length ⟨0, by simp, by simp, by simp, by simp, by simp⟩ ?_)
 rintro R m st hR ⟨i, rfl, hi, s0, s1, s5⟩
 (repeat refine sqA ?_); refine rgA (by kernel_rfl) ?_
 simp [s0, s5]
 refine AWp.cond (b := decide (i < l.length)) (by simp) (fun hb => ?_) (fun hb => ?_)
 ·simp at hb
  have hq : l[i]? = some l[i] := List.getElem?_eq_getElem hb
  refine AWp.skip ?_
  simp
  (repeat refine sqA ?_); refine AWp.block ?_; (repeat refine sqA ?_); refine AWp.region allP (by kernel_rfl) ?_
  have hx1 : idxA Tryz.prog st.mem 30 (.lst false 19 (l.map Sm.av)) (.int .i64 i) = some (.ref l[i].cells) := idx (y := l[i].av) es_30 (by simp [hq])
  simp [s0, s1, s5, hx1]
  refine aop_call _ _ _ _ _ _ _ _ (h l[i] (List.getElem_mem _)) ?_
  simp
  refine AWp.cond (b := false) (by simp) (fun h => by cases h) (fun _ => ?_)
  refine AWp.skip ?_
  simp
  (repeat refine sqA ?_); refine rgA (by kernel_rfl) ?_
  have hw : IntKind.wrap .i64 ((i : Int) + 1) = (i + 1 : Nat) := wrap64 (by omega) (by omega)
  simp [s5, hw]
  exact hR _ (l.length - (i + 1)) (by omega) ⟨i + 1, rfl, hb, by simp [s0], by simp [s1], by simp⟩
 ·simp at hb
  refine AWp.exit ?_
  simp
  (repeat refine sqA ?_); refine rgA (by kernel_rfl) ?_
  simp
  exact AWp.ret (post_ret1 rfl (by simp))
theorem c_eqArrS (l : List Ar) (hl : l.length ≤ 1048576) (h : ∀ x ∈ l, PCall Tryz.prog 123 [x.av, x.av] (.bool true)) :
  PCall Tryz.prog 68 [.lst false 2 (l.map Ar.av), .lst false 2 (l.map Ar.av)] (.bool true) := by
 refine pcall_of Tryz.func68 (by kernel_rfl) rfl (by simp [Tryz.f68]) ?_
 (repeat refine sqA ?_); refine rgA (by kernel_rfl) ?_
 simp
 (repeat refine sqA ?_); refine rgA (by kernel_rfl) ?_
 simp
 refine AWp.cond (b := false) (by simp) (fun h => by cases h) (fun _ => ?_)
 refine AWp.skip ?_
 simp
 (repeat refine sqA ?_); refine rgA (by kernel_rfl) ?_
 simp
 (repeat refine sqA ?_); refine AWp.block (AWp.rounds (fun m st => ∃ (i : Nat), m = l.length - i ∧ i ≤ l.length ∧ st.slots 0 = .lst false 2 (l.map Ar.av) ∧ st.slots 1 = .lst false 2 (l.map Ar.av) ∧ st.slots 5 = .int .i64 i) l.length ⟨0, by simp, by simp, by simp, by simp, by simp⟩ ?_)
 rintro R m st hR ⟨i, rfl, hi, s0, s1, s5⟩
 (repeat refine sqA ?_); refine rgA (by kernel_rfl) ?_
 simp [s0, s5]
 refine AWp.cond (b := decide (i < l.length)) (by simp) (fun hb => ?_) (fun hb => ?_)
 ·simp at hb
  have hq : l[i]? = some l[i] := List.getElem?_eq_getElem hb
  refine AWp.skip ?_
  simp
  (repeat refine sqA ?_); refine AWp.block ?_; (repeat refine sqA ?_); refine AWp.region allP (by kernel_rfl) ?_
  have hx1 : idxA Tryz.prog st.mem 29 (.lst false 2 (l.map Ar.av)) (.int .i64 i) = some (.ref l[i].cells) := idx (y := l[i].av) es_29 (by simp [hq])
  simp [s0, s1, s5, hx1]
  refine aop_call _ _ _ _ _ _ _ _ (h l[i] (List.getElem_mem _)) ?_
  simp
  refine AWp.cond (b := false) (by simp) (fun h => by cases h) (fun _ => ?_)
  refine AWp.skip ?_
  simp
  (repeat refine sqA ?_); refine rgA (by kernel_rfl) ?_
  have hw : IntKind.wrap .i64 ((i : Int) + 1) = (i + 1 : Nat) := wrap64 (by omega) (by omega)
  simp [s5, hw]
  exact hR _ (l.length - (i + 1)) (by omega) ⟨i + 1, rfl, hb, by simp [s0], by simp [s1], by simp⟩
 ·simp at hb
  refine AWp.exit ?_
  simp
  (repeat refine sqA ?_); refine rgA (by kernel_rfl) ?_
  simp
  exact AWp.ret (post_ret1 rfl (by simp))
theorem c_eqExp0 (k m : Int) (s : ByteArray) (l : List Ex) (hl : l.length ≤ 1048576) (h : ∀ x ∈ l, PCall Tryz.prog 161 [x.av, x.av] (.bool true)) : PCall Tryz.prog 161 [(Ex.mk k m s l).av, (Ex.mk k m s l).av] (.bool true) := by
 unfold Ex.av
 rw [Ex.cells_mk]
 refine pcall_of Tryz.func161 (by kernel_rfl) rfl (by simp [Tryz.f161]) ?_
 (repeat refine sqA ?_); refine rgA (by kernel_rfl) ?_
 simp [set_at]
 intro g1 g2 h2
 have n21 : g2 ≠ g1 := fun e => by simp [e] at h2
 have m12 := n21.symm
 (repeat refine sqA ?_); refine rgA (by kernel_rfl) ?_
 simp [set_at, n21, m12]
 refine AWp.cond (b := false) (by simp) (fun h => by cases h) (fun _ => ?_)
 refine AWp.skip ?_
 simp
 (repeat refine sqA ?_); refine rgA (by kernel_rfl) ?_
 simp [set_at, n21, m12]
 refine AWp.cond (b := false) (by simp) (fun h => by cases h) (fun _ => ?_)
 refine AWp.skip ?_
 simp
 (repeat refine sqA ?_); refine rgA (by kernel_rfl) ?_
 simp [set_at, n21, m12]
 refine AWp.cond (b := false) (by simp) (fun h => by cases h) (fun _ => ?_)
 refine AWp.skip ?_
 simp
 (repeat refine sqA ?_); refine AWp.region allP (by kernel_rfl) ?_
 simp [set_at, n21, m12]
 refine aop_call _ _ _ _ _ _ _ _ (c_eqExpS l hl h) ?_
 simp [set_at, n21, m12]
 refine AWp.cond (b := false) (by simp) (fun h => by cases h) (fun _ => ?_)
 refine AWp.skip ?_
 simp
 (repeat refine sqA ?_); refine rgA (by kernel_rfl) ?_
 simp
 exact AWp.ret (post_ret1 rfl (by simp))
theorem c_eqExp (e : Ex) : e.tot ≤ 1048576 → PCall Tryz.prog 161 [e.av, e.av] (.bool true) := by
 induction e using Ex.ind with | h k m s l h =>
 intro ht
 rw [Ex.tot_mk] at ht
 have hl := totL_len Ex.tot l
 exact c_eqExp0 k m s l (by omega) (fun x hx => h x hx (by have := totL_mem Ex.tot hx; omega))
theorem c_eqStmt0 (k : Int) (s : ByteArray) (a e lo hi : Ex) (b : List Sm) (ha : a.tot ≤ 1048576) (he : e.tot ≤ 1048576) (hlo : lo.tot ≤ 1048576) (hhi : hi.tot ≤ 1048576) (hl : b.length ≤ 1048576) (h : ∀ x ∈ b, PCall Tryz.prog 124 [x.av, x.av] (.bool true)) : PCall Tryz.prog 124 [(Sm.mk k s a e lo hi b).av, (Sm.mk k s a e lo hi b).av] (.bool true) := by
 unfold Sm.av
 rw [Sm.cells_mk]
 refine pcall_of Tryz.func124 (by kernel_rfl) rfl (by simp [Tryz.f124]) ?_
 (repeat refine sqA ?_); refine rgA (by kernel_rfl) ?_
 simp [set_at]
 intro g1 g2 h2
 have n21 : g2 ≠ g1 := fun e => by simp [e] at h2
 have m12 := n21.symm
 (repeat refine sqA ?_); refine rgA (by kernel_rfl) ?_
 simp [set_at, n21, m12]
 refine AWp.cond (b := false) (by simp) (fun h => by cases h) (fun _ => ?_)
 refine AWp.skip ?_
 simp
 (repeat refine sqA ?_); refine rgA (by kernel_rfl) ?_
 simp [set_at, n21, m12]
 refine AWp.cond (b := false) (by simp) (fun h => by cases h) (fun _ => ?_)
 refine AWp.skip ?_
 simp
 (repeat refine sqA ?_); refine AWp.region allP (by kernel_rfl) ?_
 simp [set_at, n21, m12]
 refine aop_call _ _ _ _ _ _ _ _ (c_eqExp a ha) ?_
 simp [set_at, n21, m12]
 refine AWp.cond (b := false) (by simp) (fun h => by cases h) (fun _ => ?_)
 refine AWp.skip ?_
 simp
 (repeat refine sqA ?_); refine AWp.region allP (by kernel_rfl) ?_
 simp [set_at, n21, m12]
 refine aop_call _ _ _ _ _ _ _ _ (c_eqExp e he) ?_
 simp [set_at, n21, m12]
 refine AWp.cond (b := false) (by simp) (fun h => by cases h) (fun _ => ?_)
 refine AWp.skip ?_
 simp
 (repeat refine sqA ?_); refine AWp.region allP (by kernel_rfl) ?_
 simp [set_at, n21, m12]
 refine aop_call _ _ _ _ _ _ _ _ (c_eqExp lo hlo) ?_
 simp [set_at, n21, m12]
 refine AWp.cond (b := false) (by simp) (fun h => by cases h) (fun _ => ?_)
 refine AWp.skip ?_
 simp
 (repeat refine sqA ?_); refine AWp.region allP (by kernel_rfl) ?_
 simp [set_at, n21, m12]
 refine aop_call _ _ _ _ _ _ _ _ (c_eqExp hi hhi) ?_
 simp [set_at, n21, m12]
 refine AWp.cond (b := false) (by simp) (fun h => by cases h) (fun _ => ?_)
 refine AWp.skip ?_
 simp
 (repeat refine sqA ?_); refine AWp.region allP (by kernel_rfl) ?_
 simp [set_at, n21, m12]
 refine aop_call _ _ _ _ _ _ _ _ (c_eqStmtS b hl h) ?_
 simp [set_at, n21, m12]
 refine AWp.cond (b := false) (by simp) (fun h => by cases h) (fun _ => ?_)
 refine AWp.skip ?_
 simp
 (repeat refine sqA ?_); refine rgA (by kernel_rfl) ?_
 simp
 exact AWp.ret (post_ret1 rfl (by simp))
theorem c_eqStmt (e : Sm) : e.tot ≤ 1048576 → PCall Tryz.prog 124 [e.av, e.av] (.bool true) := by
 induction e using Sm.ind with | h k s a e lo hi b h =>
 intro ht
 rw [Sm.tot_mk] at ht
 have hl := totL_len Sm.tot b
 exact c_eqStmt0 k s a e lo hi b (by omega) (by omega) (by omega) (by omega) (by omega) (fun x hx => h x hx (by have := totL_mem Sm.tot hx; omega))
theorem c_eqArr0 (a : Ar) : PCall Tryz.prog 123 [a.av, a.av] (.bool true) := by
 unfold Ar.av Ar.cells
 refine pcall_of Tryz.func123 (by kernel_rfl) rfl (by simp [Tryz.f123]) ?_
 (repeat refine sqA ?_); refine rgA (by kernel_rfl) ?_
 simp [set_at]
 intro g1 g2 h2
 have n21 : g2 ≠ g1 := fun e => by simp [e] at h2
 have m12 := n21.symm
 (repeat refine sqA ?_); refine rgA (by kernel_rfl) ?_
 simp [set_at, n21, m12]
 refine AWp.cond (b := false) (by simp) (fun h => by cases h) (fun _ => ?_)
 refine AWp.skip ?_
 simp
 (repeat refine sqA ?_); refine rgA (by kernel_rfl) ?_
 simp [set_at, n21, m12]
 refine AWp.cond (b := false) (by simp) (fun h => by cases h) (fun _ => ?_)
 refine AWp.skip ?_
 simp
 (repeat refine sqA ?_); refine rgA (by kernel_rfl) ?_
 simp
 exact AWp.ret (post_ret1 rfl (by simp))
theorem c_eqProg0 (p : Pg) (ht : p.tot ≤ 1048576) : PCall Tryz.prog 21 [p.av, p.av] (.bool true) := by
 have h1 := totL_len Ar.tot p.arrs
 have h2 := totL_len Sm.tot p.body
 have h3 : p.tot = totL Ar.tot p.arrs + totL Sm.tot p.body := rfl
 unfold Pg.av Pg.cells
 refine pcall_of Tryz.func21 (by kernel_rfl) rfl (by simp [Tryz.f21]) ?_
 (repeat refine sqA ?_); refine rgA (by kernel_rfl) ?_
 simp [set_at]
 intro g1 g2 h2
 have n21 : g2 ≠ g1 := fun e => by simp [e] at h2
 have m12 := n21.symm
 (repeat refine sqA ?_); refine AWp.region allP (by kernel_rfl) ?_
 simp [set_at, n21, m12]
 refine aop_call _ _ _ _ _ _ _ _ (c_eqArrS p.arrs (by omega) (fun x _ => c_eqArr0 x)) ?_
 simp [set_at, n21, m12]
 refine AWp.cond (b := false) (by simp) (fun h => by cases h) (fun _ => ?_)
 refine AWp.skip ?_
 simp
 (repeat refine sqA ?_); refine AWp.region allP (by kernel_rfl) ?_
 simp [set_at, n21, m12]
 refine aop_call _ _ _ _ _ _ _ _ (c_eqStmtS p.body (by omega) (fun x hx => c_eqStmt x (by have := totL_mem Sm.tot hx; omega))) ?_
 simp [set_at, n21, m12]
 refine AWp.cond (b := false) (by simp) (fun h => by cases h) (fun _ => ?_)
 refine AWp.skip ?_
 simp
 (repeat refine sqA ?_); refine rgA (by kernel_rfl) ?_
 simp
 exact AWp.ret (post_ret1 rfl (by simp))
end Go.T
namespace Go.T
open Go Go.Proofs
set_option maxRecDepth 10000
set_option maxHeartbeats 1000000
theorem c_isTwo (k : Int) : PCall Tryz.prog 175 [.int .i64 k] (.bool (inR k 4 8)) := by
 refine pcall_of Tryz.func175 (by kernel_rfl) rfl (by simp [Tryz.f175]) ?_
 repeat' (first
  | refine sqA ?_
  | (refine AWp.region allP (by kernel_rfl) ?_; simp)
  | (refine AWp.condG ?_; simp)
  | (refine AWp.skip ?_; try simp)
  | (refine AWp.exit ?_; try simp)
  | refine AWp.block ?_
  | (refine aop_call' (c_inRange _ _ _) ?_; simp)
  | (refine AWp.ret (post_ret1 rfl ?_); (simp; done))
  | (refine guardI (fun hq => ?_) (fun hq => ?_) <;> (try simp at hq) <;> (try simp))
  | (refine condRunI (fun hq => ?_) (fun hq => ?_) <;> (try simp at hq) <;> (try simp))
  | (refine iteI (fun hq => ?_) (fun hq => ?_) <;> (try simp)))
theorem c_partsOk (k n : Int) (s : ByteArray) (l : List Ex) (hs : s.size ≤ 9223372036854775806) : PCall Tryz.prog 142 [(Ex.mk k n s l).av] (.bool (partsOk k n s l.length)) := by
 refine pcall_of Tryz.func142 (by kernel_rfl) rfl (by simp [Tryz.f142]) ?_
 unfold Ex.av
 rw [Ex.cells_mk]
 (repeat refine sqA ?_); refine rgA (by kernel_rfl) ?_
 simp
 intro g
 by_cases k1 : k = 1
 ·repeat' (first
  | refine sqA ?_
  | (refine AWp.region allP (by kernel_rfl) ?_; simp [*])
  | (refine AWp.condG ?_; simp [*])
  | (refine AWp.skip ?_; try simp)
  | (refine AWp.exit ?_; try simp)
  | refine AWp.block ?_
  | (refine aop_call' (c_inRange _ _ _) ?_; simp [*])
  | (refine aop_call' (c_impl_NameOk _ hs) ?_; simp [*])
  | (refine aop_call' (c_isTwo _) ?_; simp [*])
  | (refine AWp.ret (post_ret1 rfl ?_); (simp_all [partsOk, noS]; done))
  | (refine guardI (fun hq => ?_) (fun hq => ?_) <;> (try simp at hq) <;> (try simp [*]))
  | (refine condRunI (fun hq => ?_) (fun hq => ?_) <;> (try simp at hq) <;> (try simp [*]))
  | (refine iteI (fun hq => ?_) (fun hq => ?_) <;> (try simp [*])))
 by_cases k2 : k = 2
 ·repeat' (first
  | refine sqA ?_
  | (refine AWp.region allP (by kernel_rfl) ?_; simp [*])
  | (refine AWp.condG ?_; simp [*])
  | (refine AWp.skip ?_; try simp)
  | (refine AWp.exit ?_; try simp)
  | refine AWp.block ?_
  | (refine aop_call' (c_inRange _ _ _) ?_; simp [*])
  | (refine aop_call' (c_impl_NameOk _ hs) ?_; simp [*])
  | (refine aop_call' (c_isTwo _) ?_; simp [*])
  | (refine AWp.ret (post_ret1 rfl ?_); (simp_all [partsOk, noS]; done))
  | (refine guardI (fun hq => ?_) (fun hq => ?_) <;> (try simp at hq) <;> (try simp [*]))
  | (refine condRunI (fun hq => ?_) (fun hq => ?_) <;> (try simp at hq) <;> (try simp [*]))
  | (refine iteI (fun hq => ?_) (fun hq => ?_) <;> (try simp [*])))
 by_cases k3 : k = 3
 ·repeat' (first
  | refine sqA ?_
  | (refine AWp.region allP (by kernel_rfl) ?_; simp [*])
  | (refine AWp.condG ?_; simp [*])
  | (refine AWp.skip ?_; try simp)
  | (refine AWp.exit ?_; try simp)
  | refine AWp.block ?_
  | (refine aop_call' (c_inRange _ _ _) ?_; simp [*])
  | (refine aop_call' (c_impl_NameOk _ hs) ?_; simp [*])
  | (refine aop_call' (c_isTwo _) ?_; simp [*])
  | (refine AWp.ret (post_ret1 rfl ?_); (simp_all [partsOk, noS]; done))
  | (refine guardI (fun hq => ?_) (fun hq => ?_) <;> (try simp at hq) <;> (try simp [*]))
  | (refine condRunI (fun hq => ?_) (fun hq => ?_) <;> (try simp at hq) <;> (try simp [*]))
  | (refine iteI (fun hq => ?_) (fun hq => ?_) <;> (try simp [*])))
 repeat' (first
  | refine sqA ?_
  | (refine AWp.region allP (by kernel_rfl) ?_; simp [*])
  | (refine AWp.condG ?_; simp [*])
  | (refine AWp.skip ?_; try simp)
  | (refine AWp.exit ?_; try simp)
  | refine AWp.block ?_
  | (refine aop_call' (c_inRange _ _ _) ?_; simp [*])
  | (refine aop_call' (c_impl_NameOk _ hs) ?_; simp [*])
  | (refine aop_call' (c_isTwo _) ?_; simp [*])
  | (refine AWp.ret (post_ret1 rfl ?_); (simp_all [partsOk, noS]; done))
  | (refine guardI (fun hq => ?_) (fun hq => ?_) <;> (try simp at hq) <;> (try simp [*]))
  | (refine condRunI (fun hq => ?_) (fun hq => ?_) <;> (try simp at hq) <;> (try simp [*]))
  | (refine iteI (fun hq => ?_) (fun hq => ?_) <;> (try simp [*])))
end Go.T
namespace Go.T
open Go Go.Proofs
set_option maxRecDepth 10000
set_option maxHeartbeats 1000000
theorem c_l3Parts (k : Int) : PCall Tryz.prog 147 [.int .i64 k] (.int .i64 (partsN k)) := by
 refine pcall_of Tryz.func147 (by kernel_rfl) rfl (by simp [Tryz.f147]) ?_
 by_cases k1 : k = 1
 ·subst k1
  repeat' (first
  | refine sqA ?_
  | (refine AWp.region allP (by kernel_rfl) ?_; simp [*])
  | (refine AWp.condG ?_; simp [*])
  | (refine AWp.skip ?_; try simp)
  | (refine AWp.exit ?_; try simp)
  | refine AWp.block ?_
  | (refine AWp.ret (post_ret1 rfl ?_); (simp_all [partsN, inR]; done))
  | (refine guardI (fun hq => ?_) (fun hq => ?_) <;> (try simp at hq) <;> (try simp [*]))
  | (refine condRunI (fun hq => ?_) (fun hq => ?_) <;> (try simp at hq) <;> (try simp [*]))
  | (refine iteI (fun hq => ?_) (fun hq => ?_) <;> (try simp [*])))
 by_cases k2 : k = 2
 ·subst k2
  repeat' (first
  | refine sqA ?_
  | (refine AWp.region allP (by kernel_rfl) ?_; simp [*])
  | (refine AWp.condG ?_; simp [*])
  | (refine AWp.skip ?_; try simp)
  | (refine AWp.exit ?_; try simp)
  | refine AWp.block ?_
  | (refine AWp.ret (post_ret1 rfl ?_); (simp_all [partsN, inR]; done))
  | (refine guardI (fun hq => ?_) (fun hq => ?_) <;> (try simp at hq) <;> (try simp [*]))
  | (refine condRunI (fun hq => ?_) (fun hq => ?_) <;> (try simp at hq) <;> (try simp [*]))
  | (refine iteI (fun hq => ?_) (fun hq => ?_) <;> (try simp [*])))
 by_cases k3 : k = 3
 ·subst k3
  repeat' (first
  | refine sqA ?_
  | (refine AWp.region allP (by kernel_rfl) ?_; simp [*])
  | (refine AWp.condG ?_; simp [*])
  | (refine AWp.skip ?_; try simp)
  | (refine AWp.exit ?_; try simp)
  | refine AWp.block ?_
  | (refine AWp.ret (post_ret1 rfl ?_); (simp_all [partsN, inR]; done))
  | (refine guardI (fun hq => ?_) (fun hq => ?_) <;> (try simp at hq) <;> (try simp [*]))
  | (refine condRunI (fun hq => ?_) (fun hq => ?_) <;> (try simp at hq) <;> (try simp [*]))
  | (refine iteI (fun hq => ?_) (fun hq => ?_) <;> (try simp [*])))
 by_cases k4 : k = 4
 ·subst k4
  repeat' (first
  | refine sqA ?_
  | (refine AWp.region allP (by kernel_rfl) ?_; simp [*])
  | (refine AWp.condG ?_; simp [*])
  | (refine AWp.skip ?_; try simp)
  | (refine AWp.exit ?_; try simp)
  | refine AWp.block ?_
  | (refine AWp.ret (post_ret1 rfl ?_); (simp_all [partsN, inR]; done))
  | (refine guardI (fun hq => ?_) (fun hq => ?_) <;> (try simp at hq) <;> (try simp [*]))
  | (refine condRunI (fun hq => ?_) (fun hq => ?_) <;> (try simp at hq) <;> (try simp [*]))
  | (refine iteI (fun hq => ?_) (fun hq => ?_) <;> (try simp [*])))
 by_cases k5 : k = 5
 ·subst k5
  repeat' (first
  | refine sqA ?_
  | (refine AWp.region allP (by kernel_rfl) ?_; simp [*])
  | (refine AWp.condG ?_; simp [*])
  | (refine AWp.skip ?_; try simp)
  | (refine AWp.exit ?_; try simp)
  | refine AWp.block ?_
  | (refine AWp.ret (post_ret1 rfl ?_); (simp_all [partsN, inR]; done))
  | (refine guardI (fun hq => ?_) (fun hq => ?_) <;> (try simp at hq) <;> (try simp [*]))
  | (refine condRunI (fun hq => ?_) (fun hq => ?_) <;> (try simp at hq) <;> (try simp [*]))
  | (refine iteI (fun hq => ?_) (fun hq => ?_) <;> (try simp [*])))
 by_cases k6 : k = 6
 ·subst k6
  repeat' (first
  | refine sqA ?_
  | (refine AWp.region allP (by kernel_rfl) ?_; simp [*])
  | (refine AWp.condG ?_; simp [*])
  | (refine AWp.skip ?_; try simp)
  | (refine AWp.exit ?_; try simp)
  | refine AWp.block ?_
  | (refine AWp.ret (post_ret1 rfl ?_); (simp_all [partsN, inR]; done))
  | (refine guardI (fun hq => ?_) (fun hq => ?_) <;> (try simp at hq) <;> (try simp [*]))
  | (refine condRunI (fun hq => ?_) (fun hq => ?_) <;> (try simp at hq) <;> (try simp [*]))
  | (refine iteI (fun hq => ?_) (fun hq => ?_) <;> (try simp [*])))
 by_cases k7 : k = 7
 ·subst k7
  repeat' (first
  | refine sqA ?_
  | (refine AWp.region allP (by kernel_rfl) ?_; simp [*])
  | (refine AWp.condG ?_; simp [*])
  | (refine AWp.skip ?_; try simp)
  | (refine AWp.exit ?_; try simp)
  | refine AWp.block ?_
  | (refine AWp.ret (post_ret1 rfl ?_); (simp_all [partsN, inR]; done))
  | (refine guardI (fun hq => ?_) (fun hq => ?_) <;> (try simp at hq) <;> (try simp [*]))
  | (refine condRunI (fun hq => ?_) (fun hq => ?_) <;> (try simp at hq) <;> (try simp [*]))
  | (refine iteI (fun hq => ?_) (fun hq => ?_) <;> (try simp [*])))
 by_cases k8 : k = 8
 ·subst k8
  repeat' (first
  | refine sqA ?_
  | (refine AWp.region allP (by kernel_rfl) ?_; simp [*])
  | (refine AWp.condG ?_; simp [*])
  | (refine AWp.skip ?_; try simp)
  | (refine AWp.exit ?_; try simp)
  | refine AWp.block ?_
  | (refine AWp.ret (post_ret1 rfl ?_); (simp_all [partsN, inR]; done))
  | (refine guardI (fun hq => ?_) (fun hq => ?_) <;> (try simp at hq) <;> (try simp [*]))
  | (refine condRunI (fun hq => ?_) (fun hq => ?_) <;> (try simp at hq) <;> (try simp [*]))
  | (refine iteI (fun hq => ?_) (fun hq => ?_) <;> (try simp [*])))
 have hk : ¬ (4 ≤ k ∧ k ≤ 8) := by omega
 repeat' (first
  | refine sqA ?_
  | (refine AWp.region allP (by kernel_rfl) ?_; simp [*])
  | (refine AWp.condG ?_; simp [*])
  | (refine AWp.skip ?_; try simp)
  | (refine AWp.exit ?_; try simp)
  | refine AWp.block ?_
  | (refine AWp.ret (post_ret1 rfl ?_); (simp_all [partsN, inR]; done))
  | (refine guardI (fun hq => ?_) (fun hq => ?_) <;> (try simp at hq) <;> (try simp [*]))
  | (refine condRunI (fun hq => ?_) (fun hq => ?_) <;> (try simp at hq) <;> (try simp [*]))
  | (refine iteI (fun hq => ?_) (fun hq => ?_) <;> (try simp [*])))
theorem c_l3Here (k n : Int) (s : ByteArray) (l : List Ex) (hs : s.size ≤ 9223372036854775806) : PCall Tryz.prog 96 [(Ex.mk k n s l).av] (.bool (partsOk k n s l.length)) := by
 refine pcall_of Tryz.func96 (by kernel_rfl) rfl (by simp [Tryz.f96]) ?_
 unfold Ex.av
 rw [Ex.cells_mk]
 (repeat refine sqA ?_); refine rgA (by kernel_rfl) ?_
 simp
 intro g
 by_cases k1 : k = 1
 ·subst k1
  repeat' (first
  | refine sqA ?_
  | (refine AWp.region allP (by kernel_rfl) ?_; simp [*])
  | (refine AWp.condG ?_; simp [*])
  | (refine AWp.skip ?_; try simp)
  | (refine AWp.exit ?_; try simp)
  | refine AWp.block ?_
  | (refine aop_call' (c_l3Parts _) ?_; simp [*])
  | (refine aop_call' (c_l1In _ _ _) ?_; simp [*])
  | (refine aop_call' (c_spec_NameOk _ hs) ?_; simp [*])
  | (refine AWp.ret (post_ret1 rfl ?_); (simp_all [partsOk, partsN, noS, @eq_comm Int]; done))
  | (refine guardI (fun hq => ?_) (fun hq => ?_) <;> (try simp at hq) <;> (try simp [*]))
  | (refine condRunI (fun hq => ?_) (fun hq => ?_) <;> (try simp at hq) <;> (try simp [*]))
  | (refine iteI (fun hq => ?_) (fun hq => ?_) <;> (try simp [*])))
 by_cases n0 : n = 0
 ·subst n0
  by_cases k2 : k = 2
  ·subst k2
   repeat' (first
  | refine sqA ?_
  | (refine AWp.region allP (by kernel_rfl) ?_; simp [*])
  | (refine AWp.condG ?_; simp [*])
  | (refine AWp.skip ?_; try simp)
  | (refine AWp.exit ?_; try simp)
  | refine AWp.block ?_
  | (refine aop_call' (c_l3Parts _) ?_; simp [*])
  | (refine aop_call' (c_l1In _ _ _) ?_; simp [*])
  | (refine aop_call' (c_spec_NameOk _ hs) ?_; simp [*])
  | (refine AWp.ret (post_ret1 rfl ?_); (simp_all [partsOk, partsN, noS, @eq_comm Int]; done))
  | (refine guardI (fun hq => ?_) (fun hq => ?_) <;> (try simp at hq) <;> (try simp [*]))
  | (refine condRunI (fun hq => ?_) (fun hq => ?_) <;> (try simp at hq) <;> (try simp [*]))
  | (refine iteI (fun hq => ?_) (fun hq => ?_) <;> (try simp [*])))
  by_cases k3 : k = 3
  ·subst k3
   repeat' (first
  | refine sqA ?_
  | (refine AWp.region allP (by kernel_rfl) ?_; simp [*])
  | (refine AWp.condG ?_; simp [*])
  | (refine AWp.skip ?_; try simp)
  | (refine AWp.exit ?_; try simp)
  | refine AWp.block ?_
  | (refine aop_call' (c_l3Parts _) ?_; simp [*])
  | (refine aop_call' (c_l1In _ _ _) ?_; simp [*])
  | (refine aop_call' (c_spec_NameOk _ hs) ?_; simp [*])
  | (refine AWp.ret (post_ret1 rfl ?_); (simp_all [partsOk, partsN, noS, @eq_comm Int]; done))
  | (refine guardI (fun hq => ?_) (fun hq => ?_) <;> (try simp at hq) <;> (try simp [*]))
  | (refine condRunI (fun hq => ?_) (fun hq => ?_) <;> (try simp at hq) <;> (try simp [*]))
  | (refine iteI (fun hq => ?_) (fun hq => ?_) <;> (try simp [*])))
  by_cases k4 : inR k 4 8 = true
  ·repeat' (first
  | refine sqA ?_
  | (refine AWp.region allP (by kernel_rfl) ?_; simp [*])
  | (refine AWp.condG ?_; simp [*])
  | (refine AWp.skip ?_; try simp)
  | (refine AWp.exit ?_; try simp)
  | refine AWp.block ?_
  | (refine aop_call' (c_l3Parts _) ?_; simp [*])
  | (refine aop_call' (c_l1In _ _ _) ?_; simp [*])
  | (refine aop_call' (c_spec_NameOk _ hs) ?_; simp [*])
  | (refine AWp.ret (post_ret1 rfl ?_); (simp_all [partsOk, partsN, noS, @eq_comm Int]; done))
  | (refine guardI (fun hq => ?_) (fun hq => ?_) <;> (try simp at hq) <;> (try simp [*]))
  | (refine condRunI (fun hq => ?_) (fun hq => ?_) <;> (try simp at hq) <;> (try simp [*]))
  | (refine iteI (fun hq => ?_) (fun hq => ?_) <;> (try simp [*])))
  ·repeat' (first
  | refine sqA ?_
  | (refine AWp.region allP (by kernel_rfl) ?_; simp [*])
  | (refine AWp.condG ?_; simp [*])
  | (refine AWp.skip ?_; try simp)
  | (refine AWp.exit ?_; try simp)
  | refine AWp.block ?_
  | (refine aop_call' (c_l3Parts _) ?_; simp [*])
  | (refine aop_call' (c_l1In _ _ _) ?_; simp [*])
  | (refine aop_call' (c_spec_NameOk _ hs) ?_; simp [*])
  | (refine AWp.ret (post_ret1 rfl ?_); (simp_all [partsOk, partsN, noS, @eq_comm Int]; done))
  | (refine guardI (fun hq => ?_) (fun hq => ?_) <;> (try simp at hq) <;> (try simp [*]))
  | (refine condRunI (fun hq => ?_) (fun hq => ?_) <;> (try simp at hq) <;> (try simp [*]))
  | (refine iteI (fun hq => ?_) (fun hq => ?_) <;> (try simp [*])))
 ·by_cases k2 : k = 2
  ·subst k2
   repeat' (first
  | refine sqA ?_
  | (refine AWp.region allP (by kernel_rfl) ?_; simp [*])
  | (refine AWp.condG ?_; simp [*])
  | (refine AWp.skip ?_; try simp)
  | (refine AWp.exit ?_; try simp)
  | refine AWp.block ?_
  | (refine aop_call' (c_l3Parts _) ?_; simp [*])
  | (refine aop_call' (c_l1In _ _ _) ?_; simp [*])
  | (refine aop_call' (c_spec_NameOk _ hs) ?_; simp [*])
  | (refine AWp.ret (post_ret1 rfl ?_); (simp_all [partsOk, partsN, noS, @eq_comm Int]; done))
  | (refine guardI (fun hq => ?_) (fun hq => ?_) <;> (try simp at hq) <;> (try simp [*]))
  | (refine condRunI (fun hq => ?_) (fun hq => ?_) <;> (try simp at hq) <;> (try simp [*]))
  | (refine iteI (fun hq => ?_) (fun hq => ?_) <;> (try simp [*])))
  by_cases k3 : k = 3
  ·subst k3
   repeat' (first
  | refine sqA ?_
  | (refine AWp.region allP (by kernel_rfl) ?_; simp [*])
  | (refine AWp.condG ?_; simp [*])
  | (refine AWp.skip ?_; try simp)
  | (refine AWp.exit ?_; try simp)
  | refine AWp.block ?_
  | (refine aop_call' (c_l3Parts _) ?_; simp [*])
  | (refine aop_call' (c_l1In _ _ _) ?_; simp [*])
  | (refine aop_call' (c_spec_NameOk _ hs) ?_; simp [*])
  | (refine AWp.ret (post_ret1 rfl ?_); (simp_all [partsOk, partsN, noS, @eq_comm Int]; done))
  | (refine guardI (fun hq => ?_) (fun hq => ?_) <;> (try simp at hq) <;> (try simp [*]))
  | (refine condRunI (fun hq => ?_) (fun hq => ?_) <;> (try simp at hq) <;> (try simp [*]))
  | (refine iteI (fun hq => ?_) (fun hq => ?_) <;> (try simp [*])))
  by_cases k4 : inR k 4 8 = true
  ·repeat' (first
  | refine sqA ?_
  | (refine AWp.region allP (by kernel_rfl) ?_; simp [*])
  | (refine AWp.condG ?_; simp [*])
  | (refine AWp.skip ?_; try simp)
  | (refine AWp.exit ?_; try simp)
  | refine AWp.block ?_
  | (refine aop_call' (c_l3Parts _) ?_; simp [*])
  | (refine aop_call' (c_l1In _ _ _) ?_; simp [*])
  | (refine aop_call' (c_spec_NameOk _ hs) ?_; simp [*])
  | (refine AWp.ret (post_ret1 rfl ?_); (simp_all [partsOk, partsN, noS, @eq_comm Int]; done))
  | (refine guardI (fun hq => ?_) (fun hq => ?_) <;> (try simp at hq) <;> (try simp [*]))
  | (refine condRunI (fun hq => ?_) (fun hq => ?_) <;> (try simp at hq) <;> (try simp [*]))
  | (refine iteI (fun hq => ?_) (fun hq => ?_) <;> (try simp [*])))
  ·repeat' (first
  | refine sqA ?_
  | (refine AWp.region allP (by kernel_rfl) ?_; simp [*])
  | (refine AWp.condG ?_; simp [*])
  | (refine AWp.skip ?_; try simp)
  | (refine AWp.exit ?_; try simp)
  | refine AWp.block ?_
  | (refine aop_call' (c_l3Parts _) ?_; simp [*])
  | (refine aop_call' (c_l1In _ _ _) ?_; simp [*])
  | (refine aop_call' (c_spec_NameOk _ hs) ?_; simp [*])
  | (refine AWp.ret (post_ret1 rfl ?_); (simp_all [partsOk, partsN, noS, @eq_comm Int]; done))
  | (refine guardI (fun hq => ?_) (fun hq => ?_) <;> (try simp at hq) <;> (try simp [*]))
  | (refine condRunI (fun hq => ?_) (fun hq => ?_) <;> (try simp at hq) <;> (try simp [*]))
  | (refine iteI (fun hq => ?_) (fun hq => ?_) <;> (try simp [*])))
end Go.T
namespace Go.T
open Go Go.Proofs
set_option maxRecDepth 10000
set_option maxHeartbeats 1000000
theorem c_measure0 (k n : Int) (s : ByteArray) (l : List Ex) (ht : (Ex.mk k n s l).tot ≤ 1048576) (h : ∀ x ∈ l, ∀ d : Nat, d ≤ 9 → PCall Tryz.prog 88 [x.av, .int .i64 d] (.int .i64 (x.msr d))) (d : Nat) (hd : d ≤ 9) :
  PCall Tryz.prog 88 [(Ex.mk k n s l).av, .int .i64 d] (.int .i64 ((Ex.mk k n s l).msr d)) := by
 rw [Ex.msr_mk]
 rw [Ex.tot_mk] at ht
 have hlen := totL_len Ex.tot l
 have hsum := sumL_le Ex.nodes Ex.tot l (fun x _ => Ex.nodes_le x)
 have hs : s.size ≤ 9223372036854775806 := by omega
 refine pcall_of Tryz.func88 (by kernel_rfl) rfl (by simp [Tryz.f88]) ?_
 have hav : (Ex.mk k n s l).av = .agg [.int .i64 k, .int .i64 n, .str s, .lst false 4 (l.map Ex.av)] := by unfold Ex.av; rw [Ex.cells_mk]; rfl
 rw [hav]
 (repeat refine sqA ?_); refine rgA (by kernel_rfl) ?_
 simp
 intro g
 have c1 := c_partsOk k n s l hs
 rw [hav] at c1
 by_cases hd8 : 8 < d
 ·have hd9 : ¬ d ≤ 8 := by omega
  have hdi : (8 : Int) < d := by omega
  repeat' (first
  | refine sqA ?_
  | (refine AWp.region allP (by kernel_rfl) ?_; simp [*])
  | (refine AWp.condG ?_; simp [*])
  | (refine AWp.skip ?_; try simp)
  | (refine AWp.exit ?_; try simp)
  | refine AWp.block ?_
  | (refine aop_call' (c1) ?_; simp [*])
  | (refine AWp.ret (post_ret1 rfl ?_); (simp [*]; done))
  | (refine guardI (fun hq => ?_) (fun hq => ?_) <;> (try simp at hq) <;> (try simp [*]))
  | (refine condRunI (fun hq => ?_) (fun hq => ?_) <;> (try simp at hq) <;> (try simp [*]))
  | (refine iteI (fun hq => ?_) (fun hq => ?_) <;> (try simp [*])))
 have hd9 : d ≤ 8 := by omega
 have hdi : (d : Int) ≤ 8 := by omega
 have hdj : ¬ ((8 : Int) < d) := by omega
 cases hp : partsOk k n s l.length
 ·repeat' (first
  | refine sqA ?_
  | (refine AWp.region allP (by kernel_rfl) ?_; simp [*])
  | (refine AWp.condG ?_; simp [*])
  | (refine AWp.skip ?_; try simp)
  | (refine AWp.exit ?_; try simp)
  | refine AWp.block ?_
  | (refine aop_call' (c1) ?_; simp [*])
  | (refine AWp.ret (post_ret1 rfl ?_); (simp [*]; done))
  | (refine guardI (fun hq => ?_) (fun hq => ?_) <;> (try simp at hq) <;> (try simp [*]))
  | (refine condRunI (fun hq => ?_) (fun hq => ?_) <;> (try simp at hq) <;> (try simp [*]))
  | (refine iteI (fun hq => ?_) (fun hq => ?_) <;> (try simp [*])))
 repeat' (first
  | refine sqA ?_
  | (refine AWp.region allP (by kernel_rfl) ?_; simp [*])
  | (refine AWp.condG ?_; simp [*])
  | (refine AWp.skip ?_; try simp)
  | (refine AWp.exit ?_; try simp)
  | refine AWp.block ?_
  | (refine aop_call' (c1) ?_; simp [*])
  | (refine guardI (fun hq => ?_) (fun hq => ?_) <;> (try simp at hq) <;> (try simp [*]))
  | (refine condRunI (fun hq => ?_) (fun hq => ?_) <;> (try simp at hq) <;> (try simp [*]))
  | (refine iteI (fun hq => ?_) (fun hq => ?_) <;> (try simp [*])))
 refine (AWp.rounds (fun m st => ∃ (i : Nat) (q : Int), m = l.length - i ∧ i ≤ l.length ∧ st.slots 17 = .lst false 4 (l.map Ex.av) ∧ st.slots 18 = .int .i64 l.length ∧ st.slots 19 = .int .i64 i ∧ st.slots 1 = .int .i64 d ∧ st.slots 5 = .int .i64 q ∧ 0 ≤ q ∧ q + sumL Ex.nodes (l.drop i) ≤ 1 + sumL Ex.nodes l ∧ Ex.msrs l (d + 1) 1 = Ex.msrs (l.drop i) (d + 1) q) l.length ⟨0, 1, by simp, by simp, by simp, by simp, by simp, by simp, by simp, by omega, by simp, by simp⟩ ?_)
 rintro R m st hR ⟨i, q, rfl, hi, s17, s18, s19, s1, s5, hq0, hq1, hr⟩
 (repeat refine sqA ?_); refine rgA (by kernel_rfl) ?_
 simp [s18, s19]
 (repeat refine sqA ?_)
 refine AWp.cond (b := decide (i < l.length)) (by simp) (fun hb => ?_) (fun hb => ?_)
 ·simp at hb
  have hg : l[i]? = some l[i] := List.getElem?_eq_getElem hb
  have hdr : l.drop i = l[i] :: l.drop (i + 1) := List.drop_eq_getElem_cons hb
  refine AWp.skip ?_
  simp
  (repeat refine sqA ?_); refine AWp.block ?_; (repeat refine sqA ?_); refine rgA (by kernel_rfl) ?_
  have hx : idxA Tryz.prog st.mem 24 (.lst false 4 (l.map Ex.av)) (.int .i64 i) = some (.ref l[i].cells) := idx (y := l[i].av) es_24 (by simp [hg])
  simp [s17, s18, s19, hx]
  intro g2 hg2
  have hw1 : IntKind.wrap .i64 ((d : Int) + 1) = ((d + 1 : Nat) : Int) := wrap64 (by omega) (by omega)
  (repeat refine sqA ?_); refine AWp.region allP (by kernel_rfl) ?_
  simp [s1, hw1]
  refine aop_call' (h l[i] (List.getElem_mem _) (d + 1) (by omega)) ?_
  simp
  (repeat refine sqA ?_); refine rgA (by kernel_rfl) ?_
  simp
  have hz : Ex.msrs l (d + 1) 1 = if l[i].msr (d + 1) < 0 then -1 else Ex.msrs (l.drop (i + 1)) (d + 1) (q + l[i].msr (d + 1)) := by rw [hr, hdr, Ex.msrs_cons]
  refine AWp.cond (b := decide (l[i].msr (d + 1) < 0)) (by simp) (fun he => ?_) (fun he => ?_)
  ·simp at he
   (repeat refine sqA ?_); refine rgA (by kernel_rfl) ?_
   simp
   exact AWp.ret (post_ret1 rfl (by simp [hd9]; rw [hz, if_pos he]))
  ·simp at he
   refine AWp.skip ?_
   simp
   have hle : l[i].msr (d + 1) ≤ l[i].nodes := by unfold Ex.msr; split <;> omega
   rw [hdr, sumL] at hq1
   have hw2 : IntKind.wrap .i64 (q + l[i].msr (d + 1)) = q + l[i].msr (d + 1) := wrap64 (by omega) (by omega)
   (repeat refine sqA ?_); refine rgA (by kernel_rfl) ?_
   simp [s5, hw2]
   (repeat refine sqA ?_); refine rgA (by kernel_rfl) ?_
   have hw : IntKind.wrap .i64 ((i : Int) + 1) = (i + 1 : Nat) := wrap64 (by omega) (by omega)
   simp [s19, hw]
   refine hR _ (l.length - (i + 1)) (by omega) ⟨i + 1, q + l[i].msr (d + 1), rfl, hb, by simp [s17], by simp [s18], by simp, by simp [s1], by simp, by omega, by omega, ?_⟩
   rw [hz, if_neg (by omega)]
 ·simp at hb
  refine AWp.exit ?_
  simp
  (repeat refine sqA ?_); refine rgA (by kernel_rfl) ?_
  simp [s5]
  have : i = l.length := by omega
  subst this
  refine AWp.ret (post_ret1 rfl ?_)
  simp [hd9]
  rw [hr]
  simp [Ex.msrs, Ex.goods, sumL]
theorem c_measure (e : Ex) : e.tot ≤ 1048576 → ∀ d : Nat, d ≤ 9 → PCall Tryz.prog 88 [e.av, .int .i64 d] (.int .i64 (e.msr d)) := by
 induction e using Ex.ind with | h k n s l h =>
 intro ht d hd
 refine c_measure0 k n s l ht (fun x hx => h x hx ?_) d hd
 rw [Ex.tot_mk] at ht
 have := totL_mem Ex.tot hx
 omega
theorem c_impl_ExpOk (e : Ex) (ht : e.tot ≤ 1048576) : PCall Tryz.prog 30 [e.av] (.bool e.ok) := by
 refine pcall_of Tryz.func30 (by kernel_rfl) rfl (by simp [Tryz.f30]) ?_
 have c1 := c_measure e ht 1 (by omega)
 unfold Ex.av at c1 ⊢
 (repeat refine sqA ?_); refine rgA (by kernel_rfl) ?_
 simp
 intro g
 (repeat refine sqA ?_); refine AWp.region allP (by kernel_rfl) ?_
 simp
 refine aop_call' c1 ?_
 simp
 refine aop_call' (c_inRange _ _ _) ?_
 simp
 refine AWp.ret (post_ret1 rfl ?_)
 simp only [put_slot, reduceIte]
 congr 1
 rw [Bool.eq_iff_iff]
 simp [Ex.ok, Ex.msr, inR]
 have : 1 ≤ e.nodes := by cases e; rw [Ex.nodes]; omega
 by_cases h1 : e.good 1 = true <;> simp [h1] <;> omega
end Go.T
namespace Go.T
open Go Go.Proofs
set_option maxRecDepth 10000
set_option maxHeartbeats 1000000
theorem c_l3Count0 (k n : Int) (s : ByteArray) (l : List Ex) (ht : (Ex.mk k n s l).tot ≤ 1048576) (h : ∀ x ∈ l, ∀ d : Nat, d ≤ 9 → PCall Tryz.prog 40 [x.av, .int .i64 d] (.int .i64 (x.cnt d))) (d : Nat) (hd : d ≤ 9) :
  PCall Tryz.prog 40 [(Ex.mk k n s l).av, .int .i64 d] (.int .i64 ((Ex.mk k n s l).cnt d)) := by
 rw [Ex.cnt]
 rw [Ex.tot_mk] at ht
 have hlen := totL_len Ex.tot l
 have hsum := sumL_le Ex.nodes Ex.tot l (fun x _ => Ex.nodes_le x)
 have hs : s.size ≤ 9223372036854775806 := by omega
 refine pcall_of Tryz.func40 (by kernel_rfl) rfl (by simp [Tryz.f40]) ?_
 have hav : (Ex.mk k n s l).av = .agg [.int .i64 k, .int .i64 n, .str s, .lst false 4 (l.map Ex.av)] := by unfold Ex.av; rw [Ex.cells_mk]; rfl
 rw [hav]
 (repeat refine sqA ?_); refine rgA (by kernel_rfl) ?_
 simp
 intro g
 have c1 := c_l3Here k n s l hs
 rw [hav] at c1
 by_cases hd8 : 8 < d
 ·have hd9 : ¬ d ≤ 8 := by omega
  have hdi : (8 : Int) < d := by omega
  repeat' (first
  | refine sqA ?_
  | (refine AWp.region allP (by kernel_rfl) ?_; simp [*])
  | (refine AWp.condG ?_; simp [*])
  | (refine AWp.skip ?_; try simp)
  | (refine AWp.exit ?_; try simp)
  | refine AWp.block ?_
  | (refine aop_call' (c1) ?_; simp [*])
  | (refine AWp.ret (post_ret1 rfl ?_); (simp [*]; done))
  | (refine guardI (fun hq => ?_) (fun hq => ?_) <;> (try simp at hq) <;> (try simp [*]))
  | (refine condRunI (fun hq => ?_) (fun hq => ?_) <;> (try simp at hq) <;> (try simp [*]))
  | (refine iteI (fun hq => ?_) (fun hq => ?_) <;> (try simp [*])))
 have hd9 : d ≤ 8 := by omega
 have hdi : (d : Int) ≤ 8 := by omega
 have hdj : ¬ ((8 : Int) < d) := by omega
 cases hp : partsOk k n s l.length
 ·repeat' (first
  | refine sqA ?_
  | (refine AWp.region allP (by kernel_rfl) ?_; simp [*])
  | (refine AWp.condG ?_; simp [*])
  | (refine AWp.skip ?_; try simp)
  | (refine AWp.exit ?_; try simp)
  | refine AWp.block ?_
  | (refine aop_call' (c1) ?_; simp [*])
  | (refine AWp.ret (post_ret1 rfl ?_); (simp [*]; done))
  | (refine guardI (fun hq => ?_) (fun hq => ?_) <;> (try simp at hq) <;> (try simp [*]))
  | (refine condRunI (fun hq => ?_) (fun hq => ?_) <;> (try simp at hq) <;> (try simp [*]))
  | (refine iteI (fun hq => ?_) (fun hq => ?_) <;> (try simp [*])))
 repeat' (first
  | refine sqA ?_
  | (refine AWp.region allP (by kernel_rfl) ?_; simp [*])
  | (refine AWp.condG ?_; simp [*])
  | (refine AWp.skip ?_; try simp)
  | (refine AWp.exit ?_; try simp)
  | refine AWp.block ?_
  | (refine aop_call' (c1) ?_; simp [*])
  | (refine guardI (fun hq => ?_) (fun hq => ?_) <;> (try simp at hq) <;> (try simp [*]))
  | (refine condRunI (fun hq => ?_) (fun hq => ?_) <;> (try simp at hq) <;> (try simp [*]))
  | (refine iteI (fun hq => ?_) (fun hq => ?_) <;> (try simp [*])))
 refine (AWp.rounds (fun m st => ∃ (i : Nat) (q : Int), m = l.length - i ∧ i ≤ l.length ∧ st.slots 2 = .ptr g 0 ∧ st.mem g = some (.box [.int .i64 k, .int .i64 n, .str s, .lst false 4 (l.map Ex.av)]) ∧ st.slots 6 = .int .i64 i ∧ st.slots 1 = .int .i64 d ∧ st.slots 5 = .int .i64 q ∧ 0 ≤ q ∧ q + 100 * sumL Ex.nodes (l.drop i) ≤ 1 + 100 * sumL Ex.nodes l ∧ Ex.cnts l (d + 1) 1 = Ex.cnts (l.drop i) (d + 1) q) l.length ⟨0, 1, by simp, by simp, by simp, by simp, by simp, by simp, by simp, by omega, by simp, by simp⟩ ?_)
 rintro R m st hR ⟨i, q, rfl, hi, s2, sg, s6, s1, s5, hq0, hq1, hr⟩
 have hF : i < l.length ∧ q ≤ 60 ∨ Ex.cnts l (d + 1) 1 = q := by
  by_cases hb : i < l.length
  ·by_cases hq : q ≤ 60
   ·exact .inl ⟨hb, hq⟩
   ·refine .inr ?_
    rw [hr, List.drop_eq_getElem_cons hb, Ex.cnts, if_neg hq]
  ·refine .inr ?_
   rw [hr, List.drop_eq_nil_of_le (by omega), Ex.cnts]
 by_cases hb : i < l.length ∧ q ≤ 60
 ·obtain ⟨hb, hq⟩ := hb
  have hg : l[i]? = some l[i] := List.getElem?_eq_getElem hb
  have hdr : l.drop i = l[i] :: l.drop (i + 1) := List.drop_eq_getElem_cons hb
  have hbi : (i : Int) < l.length := by omega
  (repeat refine sqA ?_); refine rgA (by kernel_rfl) ?_
  simp [s2, sg, s5, s6, hb, hq]
  (repeat refine sqA ?_); refine AWp.condT (by simp) ?_
  refine AWp.skip ?_
  simp
  (repeat refine sqA ?_); refine AWp.block ?_; (repeat refine sqA ?_); refine AWp.region allP (by kernel_rfl) ?_
  have hx : idxA Tryz.prog st.mem 24 (.lst false 4 (l.map Ex.av)) (.int .i64 i) = some (.ref l[i].cells) := idx (y := l[i].av) es_24 (by simp [hg])
  have hw1 : IntKind.wrap .i64 ((d : Int) + 1) = ((d + 1 : Nat) : Int) := wrap64 (by omega) (by omega)
  simp [s2, sg, s1, s5, s6, hx, hw1]
  refine aop_call' (h l[i] (List.getElem_mem _) (d + 1) (by omega)) ?_
  have hc0 := l[i].cnt_pos (d + 1)
  have hc1 := l[i].cnt_le (d + 1)
  rw [hdr, sumL] at hq1
  have hw2 : IntKind.wrap .i64 (q + l[i].cnt (d + 1)) = q + l[i].cnt (d + 1) := wrap64 (by omega) (by omega)
  simp [hw2]
  (repeat refine sqA ?_); refine rgA (by kernel_rfl) ?_
  have hw : IntKind.wrap .i64 ((i : Int) + 1) = (i + 1 : Nat) := wrap64 (by omega) (by omega)
  simp [s6, hw]
  refine hR _ (l.length - (i + 1)) (by omega) ⟨i + 1, q + l[i].cnt (d + 1), rfl, hb, by simp [s2], by simp [sg], by simp, by simp [s1], by simp, by omega, by omega, ?_⟩
  rw [hr, hdr, Ex.cnts, if_pos hq]
 ·have hfin : Ex.cnts l (d + 1) 1 = q := hF.resolve_left hb
  (repeat refine sqA ?_); refine rgA (by kernel_rfl) ?_
  by_cases hb1 : i < l.length
  ·have hq : ¬ q ≤ 60 := fun hq => hb ⟨hb1, hq⟩
   simp [s2, sg, s5, s6, hb1, hq]
   (repeat refine sqA ?_); refine AWp.condF (by simp [hq]) ?_
   refine AWp.exit ?_
   simp
   (repeat refine sqA ?_); refine rgA (by kernel_rfl) ?_
   simp [s5]
   exact AWp.ret (post_ret1 rfl (by simp [hd9, hfin]))
  ·simp [s2, sg, s5, s6, hb1]
   (repeat refine sqA ?_); refine AWp.condF (by simp) ?_
   refine AWp.exit ?_
   simp
   (repeat refine sqA ?_); refine rgA (by kernel_rfl) ?_
   simp [s5]
   exact AWp.ret (post_ret1 rfl (by simp [hd9, hfin]))
theorem c_l3Count (e : Ex) : e.tot ≤ 1048576 → ∀ d : Nat, d ≤ 9 → PCall Tryz.prog 40 [e.av, .int .i64 d] (.int .i64 (e.cnt d)) := by
 induction e using Ex.ind with | h k n s l h =>
 intro ht d hd
 refine c_l3Count0 k n s l ht (fun x hx => h x hx ?_) d hd
 rw [Ex.tot_mk] at ht
 have := totL_mem Ex.tot hx
 omega
theorem c_spec_ExpOk (e : Ex) (ht : e.tot ≤ 1048576) : PCall Tryz.prog 13 [e.av] (.bool e.ok) := by
 refine pcall_of Tryz.func13 (by kernel_rfl) rfl (by simp [Tryz.f13]) ?_
 have c1 := c_l3Count e ht 1 (by omega)
 unfold Ex.av at c1 ⊢
 (repeat refine sqA ?_); refine rgA (by kernel_rfl) ?_
 simp
 intro g
 (repeat refine sqA ?_); refine AWp.region allP (by kernel_rfl) ?_
 simp
 refine aop_call' c1 ?_
 simp
 exact AWp.ret (post_ret1 rfl (by simp [Ex.ok_cnt]))
end Go.T
