/- Facts about the types of the program. -/
import Derived.Test.YtjpgifmkikmbgaaT17
import Derived.Test.YtjpgifmkikmbgaaProg
namespace Go.T
open Go Go.Proofs
set_option maxRecDepth 10000
@[simp] theorem ld_2 : loadT Try.prog 2 = some (1, false) := by kernel_rfl
@[simp] theorem sz_2 : szT Try.prog 2 = some 1 := by kernel_rfl
@[simp] theorem un_2 : Try.prog.underlying 2 = some (.int .i64) := by kernel_rfl
@[simp] theorem zt_2 : zeroT Try.prog 2 = some (.int .i64 0) := by kernel_rfl
@[simp] theorem zr_2 : zeroE Try.prog 2 = some (.int .i64 0) := by kernel_rfl
@[simp] theorem ld_3 : loadT Try.prog 3 = some (1, false) := by kernel_rfl
@[simp] theorem sz_3 : szT Try.prog 3 = some 1 := by kernel_rfl
@[simp] theorem un_3 : Try.prog.underlying 3 = some (.int .i64) := by kernel_rfl
@[simp] theorem zt_3 : zeroT Try.prog 3 = some (.int .i64 0) := by kernel_rfl
@[simp] theorem zr_3 : zeroE Try.prog 3 = some (.int .i64 0) := by kernel_rfl
@[simp] theorem ld_4 : loadT Try.prog 4 = some (1, false) := by kernel_rfl
@[simp] theorem sz_4 : szT Try.prog 4 = some 1 := by kernel_rfl
@[simp] theorem un_4 : Try.prog.underlying 4 = some .bool := by kernel_rfl
@[simp] theorem zt_4 : zeroT Try.prog 4 = some (.bool false) := by kernel_rfl
@[simp] theorem zr_4 : zeroE Try.prog 4 = some (.bool false) := by kernel_rfl
@[simp] theorem ld_5 : loadT Try.prog 5 = some (1, false) := by kernel_rfl
@[simp] theorem sz_5 : szT Try.prog 5 = some 1 := by kernel_rfl
@[simp] theorem un_5 : Try.prog.underlying 5 = some (.int .u8) := by kernel_rfl
@[simp] theorem zt_5 : zeroT Try.prog 5 = some (.int .u8 0) := by kernel_rfl
@[simp] theorem zr_5 : zeroE Try.prog 5 = some (.int .u8 0) := by kernel_rfl
@[simp] theorem ld_9 : loadT Try.prog 9 = some (1, false) := by kernel_rfl
@[simp] theorem sz_9 : szT Try.prog 9 = some 1 := by kernel_rfl
@[simp] theorem un_9 : Try.prog.underlying 9 = some .string := by kernel_rfl
@[simp] theorem zt_9 : zeroT Try.prog 9 = some (.str ByteArray.empty) := by kernel_rfl
@[simp] theorem zr_9 : zeroE Try.prog 9 = some (.str ByteArray.empty) := by kernel_rfl
@[simp] theorem ld_12 : loadT Try.prog 12 = some (1, false) := by kernel_rfl
@[simp] theorem sz_12 : szT Try.prog 12 = some 1 := by kernel_rfl
@[simp] theorem zt_12 : zeroT Try.prog 12 = some (.int .u64 0) := by kernel_rfl
@[simp] theorem zr_12 : zeroE Try.prog 12 = some (.int .u64 0) := by kernel_rfl
@[simp] theorem ld_13 : loadT Try.prog 13 = some (2, true) := by kernel_rfl
@[simp] theorem sz_13 : szT Try.prog 13 = some 2 := by kernel_rfl
@[simp] theorem fd_13_0 : fieldT Try.prog 13 0 = some (0, 1, false) := by kernel_rfl
@[simp] theorem fd_13_1 : fieldT Try.prog 13 1 = some (1, 1, false) := by kernel_rfl
@[simp] theorem pl_13 : placesT Try.prog 13 = some [(0, 1), (1, 1)] := by kernel_rfl
@[simp] theorem zt_13 : zeroT Try.prog 13 = some (.agg [.str ByteArray.empty, .int .u64 0]) := by kernel_rfl
@[simp] theorem zr_13 : zeroE Try.prog 13 = some (.agg [.str ByteArray.empty, .int .u64 0]) := by kernel_rfl
@[simp] theorem ld_21 : loadT Try.prog 21 = some (1, false) := by kernel_rfl
@[simp] theorem sz_21 : szT Try.prog 21 = some 1 := by kernel_rfl
@[simp] theorem un_21 : Try.prog.underlying 21 = some (.int .i32) := by kernel_rfl
@[simp] theorem zt_21 : zeroT Try.prog 21 = some (.int .i32 0) := by kernel_rfl
@[simp] theorem zr_21 : zeroE Try.prog 21 = some (.int .i32 0) := by kernel_rfl
@[simp] theorem ld_22 : loadT Try.prog 22 = some (1, false) := by kernel_rfl
@[simp] theorem sz_22 : szT Try.prog 22 = some 1 := by kernel_rfl
@[simp] theorem es_22 : esz Try.prog 22 = some 1 := by kernel_rfl
@[simp] theorem el_22 : elemT Try.prog 22 = some 3 := by kernel_rfl
@[simp] theorem un_22 : Try.prog.underlying 22 = some (.slice 3) := by kernel_rfl
@[simp] theorem ii_22 : isIntT Try.prog 22 = some false := by kernel_rfl
@[simp] theorem by_3 : bytesT Try.prog 3 = some 8 := by kernel_rfl
theorem et_22 : ElemT Try.prog 22 3 1 8 := ⟨by kernel_rfl, by kernel_rfl, by kernel_rfl, by kernel_rfl, ⟨.int .i64 0, by kernel_rfl, by kernel_rfl⟩, by decide⟩
@[simp] theorem zt_22 : zeroT Try.prog 22 = some (.lst true 0 []) := by kernel_rfl
@[simp] theorem zr_22 : zeroE Try.prog 22 = some (.lst true 0 []) := by kernel_rfl
@[simp] theorem ld_23 : loadT Try.prog 23 = some (1, false) := by kernel_rfl
@[simp] theorem sz_23 : szT Try.prog 23 = some 1 := by kernel_rfl
@[simp] theorem es_23 : esz Try.prog 23 = some 6 := by kernel_rfl
@[simp] theorem el_23 : elemT Try.prog 23 = some 114 := by kernel_rfl
@[simp] theorem un_23 : Try.prog.underlying 23 = some (.slice 114) := by kernel_rfl
@[simp] theorem ii_23 : isIntT Try.prog 23 = some false := by kernel_rfl
@[simp] theorem by_114 : bytesT Try.prog 114 = some 88 := by kernel_rfl
theorem et_23 : ElemT Try.prog 23 114 6 88 := ⟨by kernel_rfl, by kernel_rfl, by kernel_rfl, by kernel_rfl, ⟨.agg [.int .i64 0, .lst true 0 [], .lst true 0 [], .lst true 0 [], .bool false, .bool false], by kernel_rfl, by kernel_rfl⟩, by decide⟩
@[simp] theorem zt_23 : zeroT Try.prog 23 = some (.lst true 0 []) := by kernel_rfl
@[simp] theorem zr_23 : zeroE Try.prog 23 = some (.lst true 0 []) := by kernel_rfl
@[simp] theorem ld_24 : loadT Try.prog 24 = some (4, true) := by kernel_rfl
@[simp] theorem sz_24 : szT Try.prog 24 = some 4 := by kernel_rfl
@[simp] theorem fd_24_0 : fieldT Try.prog 24 0 = some (0, 1, false) := by kernel_rfl
@[simp] theorem fd_24_1 : fieldT Try.prog 24 1 = some (1, 1, false) := by kernel_rfl
@[simp] theorem fd_24_2 : fieldT Try.prog 24 2 = some (2, 1, false) := by kernel_rfl
@[simp] theorem fd_24_3 : fieldT Try.prog 24 3 = some (3, 1, false) := by kernel_rfl
@[simp] theorem pl_24 : placesT Try.prog 24 = some [(0, 1), (1, 1), (2, 1), (3, 1)] := by kernel_rfl
@[simp] theorem zt_24 : zeroT Try.prog 24 = some (.agg [.lst true 0 [], .lst true 0 [], .lst true 0 [], .bool false]) := by kernel_rfl
@[simp] theorem zr_24 : zeroE Try.prog 24 = some (.agg [.lst true 0 [], .lst true 0 [], .lst true 0 [], .bool false]) := by kernel_rfl
@[simp] theorem ld_25 : loadT Try.prog 25 = some (4, true) := by kernel_rfl
@[simp] theorem sz_25 : szT Try.prog 25 = some 4 := by kernel_rfl
@[simp] theorem fd_25_0 : fieldT Try.prog 25 0 = some (0, 1, false) := by kernel_rfl
@[simp] theorem fd_25_1 : fieldT Try.prog 25 1 = some (1, 1, false) := by kernel_rfl
@[simp] theorem fd_25_2 : fieldT Try.prog 25 2 = some (2, 1, false) := by kernel_rfl
@[simp] theorem fd_25_3 : fieldT Try.prog 25 3 = some (3, 1, false) := by kernel_rfl
@[simp] theorem pl_25 : placesT Try.prog 25 = some [(0, 1), (1, 1), (2, 1), (3, 1)] := by kernel_rfl
@[simp] theorem zt_25 : zeroT Try.prog 25 = some (.agg [.lst true 0 [], .lst true 0 [], .lst true 0 [], .bool false]) := by kernel_rfl
@[simp] theorem zr_25 : zeroE Try.prog 25 = some (.agg [.lst true 0 [], .lst true 0 [], .lst true 0 [], .bool false]) := by kernel_rfl
@[simp] theorem ld_28 : loadT Try.prog 28 = some (1, false) := by kernel_rfl
@[simp] theorem sz_28 : szT Try.prog 28 = some 1 := by kernel_rfl
@[simp] theorem es_28 : esz Try.prog 28 = some 6 := by kernel_rfl
@[simp] theorem el_28 : elemT Try.prog 28 = some 117 := by kernel_rfl
@[simp] theorem un_28 : Try.prog.underlying 28 = some (.slice 117) := by kernel_rfl
@[simp] theorem ii_28 : isIntT Try.prog 28 = some false := by kernel_rfl
@[simp] theorem by_117 : bytesT Try.prog 117 = some 88 := by kernel_rfl
theorem et_28 : ElemT Try.prog 28 117 6 88 := ⟨by kernel_rfl, by kernel_rfl, by kernel_rfl, by kernel_rfl, ⟨.agg [.int .i64 0, .lst true 0 [], .lst true 0 [], .lst true 0 [], .bool false, .bool false], by kernel_rfl, by kernel_rfl⟩, by decide⟩
@[simp] theorem zt_28 : zeroT Try.prog 28 = some (.lst true 0 []) := by kernel_rfl
@[simp] theorem zr_28 : zeroE Try.prog 28 = some (.lst true 0 []) := by kernel_rfl
@[simp] theorem ld_29 : loadT Try.prog 29 = some (4, true) := by kernel_rfl
@[simp] theorem sz_29 : szT Try.prog 29 = some 4 := by kernel_rfl
@[simp] theorem fd_29_0 : fieldT Try.prog 29 0 = some (0, 1, false) := by kernel_rfl
@[simp] theorem fd_29_1 : fieldT Try.prog 29 1 = some (1, 1, false) := by kernel_rfl
@[simp] theorem fd_29_2 : fieldT Try.prog 29 2 = some (2, 1, false) := by kernel_rfl
@[simp] theorem fd_29_3 : fieldT Try.prog 29 3 = some (3, 1, false) := by kernel_rfl
@[simp] theorem pl_29 : placesT Try.prog 29 = some [(0, 1), (1, 1), (2, 1), (3, 1)] := by kernel_rfl
@[simp] theorem zt_29 : zeroT Try.prog 29 = some (.agg [.lst true 0 [], .lst true 0 [], .lst true 0 [], .bool false]) := by kernel_rfl
@[simp] theorem zr_29 : zeroE Try.prog 29 = some (.agg [.lst true 0 [], .lst true 0 [], .lst true 0 [], .bool false]) := by kernel_rfl
@[simp] theorem ld_30 : loadT Try.prog 30 = some (4, true) := by kernel_rfl
@[simp] theorem sz_30 : szT Try.prog 30 = some 4 := by kernel_rfl
@[simp] theorem fd_30_0 : fieldT Try.prog 30 0 = some (0, 1, false) := by kernel_rfl
@[simp] theorem fd_30_1 : fieldT Try.prog 30 1 = some (1, 1, false) := by kernel_rfl
@[simp] theorem fd_30_2 : fieldT Try.prog 30 2 = some (2, 1, false) := by kernel_rfl
@[simp] theorem fd_30_3 : fieldT Try.prog 30 3 = some (3, 1, false) := by kernel_rfl
@[simp] theorem pl_30 : placesT Try.prog 30 = some [(0, 1), (1, 1), (2, 1), (3, 1)] := by kernel_rfl
@[simp] theorem zt_30 : zeroT Try.prog 30 = some (.agg [.lst true 0 [], .lst true 0 [], .lst true 0 [], .bool false]) := by kernel_rfl
@[simp] theorem zr_30 : zeroE Try.prog 30 = some (.agg [.lst true 0 [], .lst true 0 [], .lst true 0 [], .bool false]) := by kernel_rfl
@[simp] theorem ld_34 : loadT Try.prog 34 = some (1, false) := by kernel_rfl
@[simp] theorem sz_34 : szT Try.prog 34 = some 1 := by kernel_rfl
@[simp] theorem es_34 : esz Try.prog 34 = some 2 := by kernel_rfl
@[simp] theorem el_34 : elemT Try.prog 34 = some 124 := by kernel_rfl
@[simp] theorem un_34 : Try.prog.underlying 34 = some (.slice 124) := by kernel_rfl
@[simp] theorem ii_34 : isIntT Try.prog 34 = some false := by kernel_rfl
@[simp] theorem by_124 : bytesT Try.prog 124 = some 24 := by kernel_rfl
theorem et_34 : ElemT Try.prog 34 124 2 24 := ⟨by kernel_rfl, by kernel_rfl, by kernel_rfl, by kernel_rfl, ⟨.agg [.str ByteArray.empty, .int .i64 0], by kernel_rfl, by kernel_rfl⟩, by decide⟩
@[simp] theorem zt_34 : zeroT Try.prog 34 = some (.lst true 0 []) := by kernel_rfl
@[simp] theorem zr_34 : zeroE Try.prog 34 = some (.lst true 0 []) := by kernel_rfl
@[simp] theorem ld_35 : loadT Try.prog 35 = some (2, true) := by kernel_rfl
@[simp] theorem sz_35 : szT Try.prog 35 = some 2 := by kernel_rfl
@[simp] theorem fd_35_0 : fieldT Try.prog 35 0 = some (0, 1, false) := by kernel_rfl
@[simp] theorem fd_35_1 : fieldT Try.prog 35 1 = some (1, 1, false) := by kernel_rfl
@[simp] theorem pl_35 : placesT Try.prog 35 = some [(0, 1), (1, 1)] := by kernel_rfl
@[simp] theorem zt_35 : zeroT Try.prog 35 = some (.agg [.int .i64 0, .lst true 0 []]) := by kernel_rfl
@[simp] theorem zr_35 : zeroE Try.prog 35 = some (.agg [.int .i64 0, .lst true 0 []]) := by kernel_rfl
@[simp] theorem ld_36 : loadT Try.prog 36 = some (2, true) := by kernel_rfl
@[simp] theorem sz_36 : szT Try.prog 36 = some 2 := by kernel_rfl
@[simp] theorem fd_36_0 : fieldT Try.prog 36 0 = some (0, 1, false) := by kernel_rfl
@[simp] theorem fd_36_1 : fieldT Try.prog 36 1 = some (1, 1, false) := by kernel_rfl
@[simp] theorem pl_36 : placesT Try.prog 36 = some [(0, 1), (1, 1)] := by kernel_rfl
@[simp] theorem zt_36 : zeroT Try.prog 36 = some (.agg [.int .i64 0, .lst true 0 []]) := by kernel_rfl
@[simp] theorem zr_36 : zeroE Try.prog 36 = some (.agg [.int .i64 0, .lst true 0 []]) := by kernel_rfl
@[simp] theorem ld_37 : loadT Try.prog 37 = some (1, false) := by kernel_rfl
@[simp] theorem sz_37 : szT Try.prog 37 = some 1 := by kernel_rfl
@[simp] theorem es_37 : esz Try.prog 37 = some 3 := by kernel_rfl
@[simp] theorem el_37 : elemT Try.prog 37 = some 84 := by kernel_rfl
@[simp] theorem un_37 : Try.prog.underlying 37 = some (.slice 84) := by kernel_rfl
@[simp] theorem ii_37 : isIntT Try.prog 37 = some false := by kernel_rfl
@[simp] theorem by_84 : bytesT Try.prog 84 = some 32 := by kernel_rfl
theorem et_37 : ElemT Try.prog 37 84 3 32 := ⟨by kernel_rfl, by kernel_rfl, by kernel_rfl, by kernel_rfl, ⟨.agg [.str ByteArray.empty, .int .i64 0, .int .i64 0], by kernel_rfl, by kernel_rfl⟩, by decide⟩
@[simp] theorem zt_37 : zeroT Try.prog 37 = some (.lst true 0 []) := by kernel_rfl
@[simp] theorem zr_37 : zeroE Try.prog 37 = some (.lst true 0 []) := by kernel_rfl
@[simp] theorem ld_41 : loadT Try.prog 41 = some (1, false) := by kernel_rfl
@[simp] theorem sz_41 : szT Try.prog 41 = some 1 := by kernel_rfl
@[simp] theorem es_41 : esz Try.prog 41 = some 2 := by kernel_rfl
@[simp] theorem el_41 : elemT Try.prog 41 = some 126 := by kernel_rfl
@[simp] theorem un_41 : Try.prog.underlying 41 = some (.slice 126) := by kernel_rfl
@[simp] theorem ii_41 : isIntT Try.prog 41 = some false := by kernel_rfl
@[simp] theorem by_126 : bytesT Try.prog 126 = some 24 := by kernel_rfl
theorem et_41 : ElemT Try.prog 41 126 2 24 := ⟨by kernel_rfl, by kernel_rfl, by kernel_rfl, by kernel_rfl, ⟨.agg [.str ByteArray.empty, .int .i64 0], by kernel_rfl, by kernel_rfl⟩, by decide⟩
@[simp] theorem zt_41 : zeroT Try.prog 41 = some (.lst true 0 []) := by kernel_rfl
@[simp] theorem zr_41 : zeroE Try.prog 41 = some (.lst true 0 []) := by kernel_rfl
@[simp] theorem ld_42 : loadT Try.prog 42 = some (2, true) := by kernel_rfl
@[simp] theorem sz_42 : szT Try.prog 42 = some 2 := by kernel_rfl
@[simp] theorem fd_42_0 : fieldT Try.prog 42 0 = some (0, 1, false) := by kernel_rfl
@[simp] theorem fd_42_1 : fieldT Try.prog 42 1 = some (1, 1, false) := by kernel_rfl
@[simp] theorem pl_42 : placesT Try.prog 42 = some [(0, 1), (1, 1)] := by kernel_rfl
@[simp] theorem zt_42 : zeroT Try.prog 42 = some (.agg [.int .i64 0, .lst true 0 []]) := by kernel_rfl
@[simp] theorem zr_42 : zeroE Try.prog 42 = some (.agg [.int .i64 0, .lst true 0 []]) := by kernel_rfl
@[simp] theorem ld_43 : loadT Try.prog 43 = some (2, true) := by kernel_rfl
@[simp] theorem sz_43 : szT Try.prog 43 = some 2 := by kernel_rfl
@[simp] theorem fd_43_0 : fieldT Try.prog 43 0 = some (0, 1, false) := by kernel_rfl
@[simp] theorem fd_43_1 : fieldT Try.prog 43 1 = some (1, 1, false) := by kernel_rfl
@[simp] theorem pl_43 : placesT Try.prog 43 = some [(0, 1), (1, 1)] := by kernel_rfl
@[simp] theorem zt_43 : zeroT Try.prog 43 = some (.agg [.int .i64 0, .lst true 0 []]) := by kernel_rfl
@[simp] theorem zr_43 : zeroE Try.prog 43 = some (.agg [.int .i64 0, .lst true 0 []]) := by kernel_rfl
@[simp] theorem ld_45 : loadT Try.prog 45 = some (1, false) := by kernel_rfl
@[simp] theorem sz_45 : szT Try.prog 45 = some 1 := by kernel_rfl
@[simp] theorem es_45 : esz Try.prog 45 = some 3 := by kernel_rfl
@[simp] theorem el_45 : elemT Try.prog 45 = some 91 := by kernel_rfl
@[simp] theorem un_45 : Try.prog.underlying 45 = some (.slice 91) := by kernel_rfl
@[simp] theorem ii_45 : isIntT Try.prog 45 = some false := by kernel_rfl
@[simp] theorem by_91 : bytesT Try.prog 91 = some 32 := by kernel_rfl
theorem et_45 : ElemT Try.prog 45 91 3 32 := ⟨by kernel_rfl, by kernel_rfl, by kernel_rfl, by kernel_rfl, ⟨.agg [.str ByteArray.empty, .int .i64 0, .int .i64 0], by kernel_rfl, by kernel_rfl⟩, by decide⟩
@[simp] theorem zt_45 : zeroT Try.prog 45 = some (.lst true 0 []) := by kernel_rfl
@[simp] theorem zr_45 : zeroE Try.prog 45 = some (.lst true 0 []) := by kernel_rfl
@[simp] theorem ld_50 : loadT Try.prog 50 = some (1, false) := by kernel_rfl
@[simp] theorem sz_50 : szT Try.prog 50 = some 1 := by kernel_rfl
@[simp] theorem es_50 : esz Try.prog 50 = some 4 := by kernel_rfl
@[simp] theorem el_50 : elemT Try.prog 50 = some 52 := by kernel_rfl
@[simp] theorem un_50 : Try.prog.underlying 50 = some (.slice 52) := by kernel_rfl
@[simp] theorem ii_50 : isIntT Try.prog 50 = some false := by kernel_rfl
@[simp] theorem by_52 : bytesT Try.prog 52 = some 56 := by kernel_rfl
theorem et_50 : ElemT Try.prog 50 52 4 56 := ⟨by kernel_rfl, by kernel_rfl, by kernel_rfl, by kernel_rfl, ⟨.agg [.int .i64 0, .int .i64 0, .str ByteArray.empty, .lst true 0 []], by kernel_rfl, by kernel_rfl⟩, by decide⟩
@[simp] theorem zt_50 : zeroT Try.prog 50 = some (.lst true 0 []) := by kernel_rfl
@[simp] theorem zr_50 : zeroE Try.prog 50 = some (.lst true 0 []) := by kernel_rfl
@[simp] theorem ld_51 : loadT Try.prog 51 = some (4, true) := by kernel_rfl
@[simp] theorem sz_51 : szT Try.prog 51 = some 4 := by kernel_rfl
@[simp] theorem fd_51_0 : fieldT Try.prog 51 0 = some (0, 1, false) := by kernel_rfl
@[simp] theorem fd_51_1 : fieldT Try.prog 51 1 = some (1, 1, false) := by kernel_rfl
@[simp] theorem fd_51_2 : fieldT Try.prog 51 2 = some (2, 1, false) := by kernel_rfl
@[simp] theorem fd_51_3 : fieldT Try.prog 51 3 = some (3, 1, false) := by kernel_rfl
@[simp] theorem pl_51 : placesT Try.prog 51 = some [(0, 1), (1, 1), (2, 1), (3, 1)] := by kernel_rfl
@[simp] theorem zt_51 : zeroT Try.prog 51 = some (.agg [.int .i64 0, .int .i64 0, .str ByteArray.empty, .lst true 0 []]) := by kernel_rfl
@[simp] theorem zr_51 : zeroE Try.prog 51 = some (.agg [.int .i64 0, .int .i64 0, .str ByteArray.empty, .lst true 0 []]) := by kernel_rfl
@[simp] theorem ld_52 : loadT Try.prog 52 = some (4, true) := by kernel_rfl
@[simp] theorem sz_52 : szT Try.prog 52 = some 4 := by kernel_rfl
@[simp] theorem fd_52_0 : fieldT Try.prog 52 0 = some (0, 1, false) := by kernel_rfl
@[simp] theorem fd_52_1 : fieldT Try.prog 52 1 = some (1, 1, false) := by kernel_rfl
@[simp] theorem fd_52_2 : fieldT Try.prog 52 2 = some (2, 1, false) := by kernel_rfl
@[simp] theorem fd_52_3 : fieldT Try.prog 52 3 = some (3, 1, false) := by kernel_rfl
@[simp] theorem pl_52 : placesT Try.prog 52 = some [(0, 1), (1, 1), (2, 1), (3, 1)] := by kernel_rfl
@[simp] theorem zt_52 : zeroT Try.prog 52 = some (.agg [.int .i64 0, .int .i64 0, .str ByteArray.empty, .lst true 0 []]) := by kernel_rfl
@[simp] theorem zr_52 : zeroE Try.prog 52 = some (.agg [.int .i64 0, .int .i64 0, .str ByteArray.empty, .lst true 0 []]) := by kernel_rfl
@[simp] theorem ld_53 : loadT Try.prog 53 = some (1, false) := by kernel_rfl
@[simp] theorem sz_53 : szT Try.prog 53 = some 1 := by kernel_rfl
@[simp] theorem es_53 : esz Try.prog 53 = some 19 := by kernel_rfl
@[simp] theorem el_53 : elemT Try.prog 53 = some 55 := by kernel_rfl
@[simp] theorem un_53 : Try.prog.underlying 53 = some (.slice 55) := by kernel_rfl
@[simp] theorem ii_53 : isIntT Try.prog 53 = some false := by kernel_rfl
@[simp] theorem by_55 : bytesT Try.prog 55 = some 272 := by kernel_rfl
theorem et_53 : ElemT Try.prog 53 55 19 272 := ⟨by kernel_rfl, by kernel_rfl, by kernel_rfl, by kernel_rfl, ⟨.agg [.int .i64 0, .str ByteArray.empty, .int .i64 0, .int .i64 0, .str ByteArray.empty, .lst true 0 [], .int .i64 0, .int .i64 0, .str ByteArray.empty, .lst true 0 [], .int .i64 0, .int .i64 0, .str ByteArray.empty, .lst true 0 [], .int .i64 0, .int .i64 0, .str ByteArray.empty, .lst true 0 [], .lst true 0 []], by kernel_rfl, by kernel_rfl⟩, by decide⟩
@[simp] theorem zt_53 : zeroT Try.prog 53 = some (.lst true 0 []) := by kernel_rfl
@[simp] theorem zr_53 : zeroE Try.prog 53 = some (.lst true 0 []) := by kernel_rfl
@[simp] theorem ld_54 : loadT Try.prog 54 = some (19, true) := by kernel_rfl
@[simp] theorem sz_54 : szT Try.prog 54 = some 19 := by kernel_rfl
@[simp] theorem fd_54_0 : fieldT Try.prog 54 0 = some (0, 1, false) := by kernel_rfl
@[simp] theorem fd_54_1 : fieldT Try.prog 54 1 = some (1, 1, false) := by kernel_rfl
@[simp] theorem fd_54_2 : fieldT Try.prog 54 2 = some (2, 4, true) := by kernel_rfl
@[simp] theorem fd_54_3 : fieldT Try.prog 54 3 = some (6, 4, true) := by kernel_rfl
@[simp] theorem fd_54_4 : fieldT Try.prog 54 4 = some (10, 4, true) := by kernel_rfl
@[simp] theorem fd_54_5 : fieldT Try.prog 54 5 = some (14, 4, true) := by kernel_rfl
@[simp] theorem fd_54_6 : fieldT Try.prog 54 6 = some (18, 1, false) := by kernel_rfl
@[simp] theorem pl_54 : placesT Try.prog 54 = some [(0, 1), (1, 1), (2, 4), (6, 4), (10, 4), (14, 4), (18, 1)] := by kernel_rfl
@[simp] theorem zt_54 : zeroT Try.prog 54 = some (.agg [.int .i64 0, .str ByteArray.empty, .int .i64 0, .int .i64 0, .str ByteArray.empty, .lst true 0 [], .int .i64 0, .int .i64 0, .str ByteArray.empty, .lst true 0 [], .int .i64 0, .int .i64 0, .str ByteArray.empty, .lst true 0 [], .int .i64 0, .int .i64 0, .str ByteArray.empty, .lst true 0 [], .lst true 0 []]) := by kernel_rfl
@[simp] theorem zr_54 : zeroE Try.prog 54 = some (.agg [.int .i64 0, .str ByteArray.empty, .int .i64 0, .int .i64 0, .str ByteArray.empty, .lst true 0 [], .int .i64 0, .int .i64 0, .str ByteArray.empty, .lst true 0 [], .int .i64 0, .int .i64 0, .str ByteArray.empty, .lst true 0 [], .int .i64 0, .int .i64 0, .str ByteArray.empty, .lst true 0 [], .lst true 0 []]) := by kernel_rfl
@[simp] theorem ld_55 : loadT Try.prog 55 = some (19, true) := by kernel_rfl
@[simp] theorem sz_55 : szT Try.prog 55 = some 19 := by kernel_rfl
@[simp] theorem fd_55_0 : fieldT Try.prog 55 0 = some (0, 1, false) := by kernel_rfl
@[simp] theorem fd_55_1 : fieldT Try.prog 55 1 = some (1, 1, false) := by kernel_rfl
@[simp] theorem fd_55_2 : fieldT Try.prog 55 2 = some (2, 4, true) := by kernel_rfl
@[simp] theorem fd_55_3 : fieldT Try.prog 55 3 = some (6, 4, true) := by kernel_rfl
@[simp] theorem fd_55_4 : fieldT Try.prog 55 4 = some (10, 4, true) := by kernel_rfl
@[simp] theorem fd_55_5 : fieldT Try.prog 55 5 = some (14, 4, true) := by kernel_rfl
@[simp] theorem fd_55_6 : fieldT Try.prog 55 6 = some (18, 1, false) := by kernel_rfl
@[simp] theorem pl_55 : placesT Try.prog 55 = some [(0, 1), (1, 1), (2, 4), (6, 4), (10, 4), (14, 4), (18, 1)] := by kernel_rfl
@[simp] theorem zt_55 : zeroT Try.prog 55 = some (.agg [.int .i64 0, .str ByteArray.empty, .int .i64 0, .int .i64 0, .str ByteArray.empty, .lst true 0 [], .int .i64 0, .int .i64 0, .str ByteArray.empty, .lst true 0 [], .int .i64 0, .int .i64 0, .str ByteArray.empty, .lst true 0 [], .int .i64 0, .int .i64 0, .str ByteArray.empty, .lst true 0 [], .lst true 0 []]) := by kernel_rfl
@[simp] theorem zr_55 : zeroE Try.prog 55 = some (.agg [.int .i64 0, .str ByteArray.empty, .int .i64 0, .int .i64 0, .str ByteArray.empty, .lst true 0 [], .int .i64 0, .int .i64 0, .str ByteArray.empty, .lst true 0 [], .int .i64 0, .int .i64 0, .str ByteArray.empty, .lst true 0 [], .int .i64 0, .int .i64 0, .str ByteArray.empty, .lst true 0 [], .lst true 0 []]) := by kernel_rfl
@[simp] theorem ld_57 : loadT Try.prog 57 = some (1, false) := by kernel_rfl
@[simp] theorem sz_57 : szT Try.prog 57 = some 1 := by kernel_rfl
@[simp] theorem es_57 : esz Try.prog 57 = some 1 := by kernel_rfl
@[simp] theorem el_57 : elemT Try.prog 57 = some 9 := by kernel_rfl
@[simp] theorem un_57 : Try.prog.underlying 57 = some (.slice 9) := by kernel_rfl
@[simp] theorem ii_57 : isIntT Try.prog 57 = some false := by kernel_rfl
@[simp] theorem by_9 : bytesT Try.prog 9 = some 16 := by kernel_rfl
theorem et_57 : ElemT Try.prog 57 9 1 16 := ⟨by kernel_rfl, by kernel_rfl, by kernel_rfl, by kernel_rfl, ⟨.str ByteArray.empty, by kernel_rfl, by kernel_rfl⟩, by decide⟩
@[simp] theorem zt_57 : zeroT Try.prog 57 = some (.lst true 0 []) := by kernel_rfl
@[simp] theorem zr_57 : zeroE Try.prog 57 = some (.lst true 0 []) := by kernel_rfl
@[simp] theorem ld_59 : loadT Try.prog 59 = some (1, false) := by kernel_rfl
@[simp] theorem sz_59 : szT Try.prog 59 = some 1 := by kernel_rfl
@[simp] theorem es_59 : esz Try.prog 59 = some 4 := by kernel_rfl
@[simp] theorem el_59 : elemT Try.prog 59 = some 61 := by kernel_rfl
@[simp] theorem un_59 : Try.prog.underlying 59 = some (.slice 61) := by kernel_rfl
@[simp] theorem ii_59 : isIntT Try.prog 59 = some false := by kernel_rfl
@[simp] theorem by_61 : bytesT Try.prog 61 = some 56 := by kernel_rfl
theorem et_59 : ElemT Try.prog 59 61 4 56 := ⟨by kernel_rfl, by kernel_rfl, by kernel_rfl, by kernel_rfl, ⟨.agg [.int .i64 0, .int .i64 0, .str ByteArray.empty, .lst true 0 []], by kernel_rfl, by kernel_rfl⟩, by decide⟩
@[simp] theorem zt_59 : zeroT Try.prog 59 = some (.lst true 0 []) := by kernel_rfl
@[simp] theorem zr_59 : zeroE Try.prog 59 = some (.lst true 0 []) := by kernel_rfl
@[simp] theorem ld_60 : loadT Try.prog 60 = some (4, true) := by kernel_rfl
@[simp] theorem sz_60 : szT Try.prog 60 = some 4 := by kernel_rfl
@[simp] theorem fd_60_0 : fieldT Try.prog 60 0 = some (0, 1, false) := by kernel_rfl
@[simp] theorem fd_60_1 : fieldT Try.prog 60 1 = some (1, 1, false) := by kernel_rfl
@[simp] theorem fd_60_2 : fieldT Try.prog 60 2 = some (2, 1, false) := by kernel_rfl
@[simp] theorem fd_60_3 : fieldT Try.prog 60 3 = some (3, 1, false) := by kernel_rfl
@[simp] theorem pl_60 : placesT Try.prog 60 = some [(0, 1), (1, 1), (2, 1), (3, 1)] := by kernel_rfl
@[simp] theorem zt_60 : zeroT Try.prog 60 = some (.agg [.int .i64 0, .int .i64 0, .str ByteArray.empty, .lst true 0 []]) := by kernel_rfl
@[simp] theorem zr_60 : zeroE Try.prog 60 = some (.agg [.int .i64 0, .int .i64 0, .str ByteArray.empty, .lst true 0 []]) := by kernel_rfl
@[simp] theorem ld_61 : loadT Try.prog 61 = some (4, true) := by kernel_rfl
@[simp] theorem sz_61 : szT Try.prog 61 = some 4 := by kernel_rfl
@[simp] theorem fd_61_0 : fieldT Try.prog 61 0 = some (0, 1, false) := by kernel_rfl
@[simp] theorem fd_61_1 : fieldT Try.prog 61 1 = some (1, 1, false) := by kernel_rfl
@[simp] theorem fd_61_2 : fieldT Try.prog 61 2 = some (2, 1, false) := by kernel_rfl
@[simp] theorem fd_61_3 : fieldT Try.prog 61 3 = some (3, 1, false) := by kernel_rfl
@[simp] theorem pl_61 : placesT Try.prog 61 = some [(0, 1), (1, 1), (2, 1), (3, 1)] := by kernel_rfl
@[simp] theorem zt_61 : zeroT Try.prog 61 = some (.agg [.int .i64 0, .int .i64 0, .str ByteArray.empty, .lst true 0 []]) := by kernel_rfl
@[simp] theorem zr_61 : zeroE Try.prog 61 = some (.agg [.int .i64 0, .int .i64 0, .str ByteArray.empty, .lst true 0 []]) := by kernel_rfl
@[simp] theorem ld_62 : loadT Try.prog 62 = some (1, false) := by kernel_rfl
@[simp] theorem sz_62 : szT Try.prog 62 = some 1 := by kernel_rfl
@[simp] theorem es_62 : esz Try.prog 62 = some 19 := by kernel_rfl
@[simp] theorem el_62 : elemT Try.prog 62 = some 64 := by kernel_rfl
@[simp] theorem un_62 : Try.prog.underlying 62 = some (.slice 64) := by kernel_rfl
@[simp] theorem ii_62 : isIntT Try.prog 62 = some false := by kernel_rfl
@[simp] theorem by_64 : bytesT Try.prog 64 = some 272 := by kernel_rfl
theorem et_62 : ElemT Try.prog 62 64 19 272 := ⟨by kernel_rfl, by kernel_rfl, by kernel_rfl, by kernel_rfl, ⟨.agg [.int .i64 0, .str ByteArray.empty, .int .i64 0, .int .i64 0, .str ByteArray.empty, .lst true 0 [], .int .i64 0, .int .i64 0, .str ByteArray.empty, .lst true 0 [], .int .i64 0, .int .i64 0, .str ByteArray.empty, .lst true 0 [], .int .i64 0, .int .i64 0, .str ByteArray.empty, .lst true 0 [], .lst true 0 []], by kernel_rfl, by kernel_rfl⟩, by decide⟩
@[simp] theorem zt_62 : zeroT Try.prog 62 = some (.lst true 0 []) := by kernel_rfl
@[simp] theorem zr_62 : zeroE Try.prog 62 = some (.lst true 0 []) := by kernel_rfl
@[simp] theorem ld_63 : loadT Try.prog 63 = some (19, true) := by kernel_rfl
@[simp] theorem sz_63 : szT Try.prog 63 = some 19 := by kernel_rfl
@[simp] theorem fd_63_0 : fieldT Try.prog 63 0 = some (0, 1, false) := by kernel_rfl
@[simp] theorem fd_63_1 : fieldT Try.prog 63 1 = some (1, 1, false) := by kernel_rfl
@[simp] theorem fd_63_2 : fieldT Try.prog 63 2 = some (2, 4, true) := by kernel_rfl
@[simp] theorem fd_63_3 : fieldT Try.prog 63 3 = some (6, 4, true) := by kernel_rfl
@[simp] theorem fd_63_4 : fieldT Try.prog 63 4 = some (10, 4, true) := by kernel_rfl
@[simp] theorem fd_63_5 : fieldT Try.prog 63 5 = some (14, 4, true) := by kernel_rfl
@[simp] theorem fd_63_6 : fieldT Try.prog 63 6 = some (18, 1, false) := by kernel_rfl
@[simp] theorem pl_63 : placesT Try.prog 63 = some [(0, 1), (1, 1), (2, 4), (6, 4), (10, 4), (14, 4), (18, 1)] := by kernel_rfl
@[simp] theorem zt_63 : zeroT Try.prog 63 = some (.agg [.int .i64 0, .str ByteArray.empty, .int .i64 0, .int .i64 0, .str ByteArray.empty, .lst true 0 [], .int .i64 0, .int .i64 0, .str ByteArray.empty, .lst true 0 [], .int .i64 0, .int .i64 0, .str ByteArray.empty, .lst true 0 [], .int .i64 0, .int .i64 0, .str ByteArray.empty, .lst true 0 [], .lst true 0 []]) := by kernel_rfl
@[simp] theorem zr_63 : zeroE Try.prog 63 = some (.agg [.int .i64 0, .str ByteArray.empty, .int .i64 0, .int .i64 0, .str ByteArray.empty, .lst true 0 [], .int .i64 0, .int .i64 0, .str ByteArray.empty, .lst true 0 [], .int .i64 0, .int .i64 0, .str ByteArray.empty, .lst true 0 [], .int .i64 0, .int .i64 0, .str ByteArray.empty, .lst true 0 [], .lst true 0 []]) := by kernel_rfl
@[simp] theorem ld_64 : loadT Try.prog 64 = some (19, true) := by kernel_rfl
@[simp] theorem sz_64 : szT Try.prog 64 = some 19 := by kernel_rfl
@[simp] theorem fd_64_0 : fieldT Try.prog 64 0 = some (0, 1, false) := by kernel_rfl
@[simp] theorem fd_64_1 : fieldT Try.prog 64 1 = some (1, 1, false) := by kernel_rfl
@[simp] theorem fd_64_2 : fieldT Try.prog 64 2 = some (2, 4, true) := by kernel_rfl
@[simp] theorem fd_64_3 : fieldT Try.prog 64 3 = some (6, 4, true) := by kernel_rfl
@[simp] theorem fd_64_4 : fieldT Try.prog 64 4 = some (10, 4, true) := by kernel_rfl
@[simp] theorem fd_64_5 : fieldT Try.prog 64 5 = some (14, 4, true) := by kernel_rfl
@[simp] theorem fd_64_6 : fieldT Try.prog 64 6 = some (18, 1, false) := by kernel_rfl
@[simp] theorem pl_64 : placesT Try.prog 64 = some [(0, 1), (1, 1), (2, 4), (6, 4), (10, 4), (14, 4), (18, 1)] := by kernel_rfl
@[simp] theorem zt_64 : zeroT Try.prog 64 = some (.agg [.int .i64 0, .str ByteArray.empty, .int .i64 0, .int .i64 0, .str ByteArray.empty, .lst true 0 [], .int .i64 0, .int .i64 0, .str ByteArray.empty, .lst true 0 [], .int .i64 0, .int .i64 0, .str ByteArray.empty, .lst true 0 [], .int .i64 0, .int .i64 0, .str ByteArray.empty, .lst true 0 [], .lst true 0 []]) := by kernel_rfl
@[simp] theorem zr_64 : zeroE Try.prog 64 = some (.agg [.int .i64 0, .str ByteArray.empty, .int .i64 0, .int .i64 0, .str ByteArray.empty, .lst true 0 [], .int .i64 0, .int .i64 0, .str ByteArray.empty, .lst true 0 [], .int .i64 0, .int .i64 0, .str ByteArray.empty, .lst true 0 [], .int .i64 0, .int .i64 0, .str ByteArray.empty, .lst true 0 [], .lst true 0 []]) := by kernel_rfl
@[simp] theorem ld_75 : loadT Try.prog 75 = some (1, false) := by kernel_rfl
@[simp] theorem sz_75 : szT Try.prog 75 = some 1 := by kernel_rfl
@[simp] theorem un_75 : Try.prog.underlying 75 = some (.pointer 30) := by kernel_rfl
@[simp] theorem zt_75 : zeroT Try.prog 75 = some (.nilp) := by kernel_rfl
@[simp] theorem zr_75 : zeroE Try.prog 75 = some (.nilp) := by kernel_rfl
@[simp] theorem ld_83 : loadT Try.prog 83 = some (3, true) := by kernel_rfl
@[simp] theorem sz_83 : szT Try.prog 83 = some 3 := by kernel_rfl
@[simp] theorem fd_83_0 : fieldT Try.prog 83 0 = some (0, 1, false) := by kernel_rfl
@[simp] theorem fd_83_1 : fieldT Try.prog 83 1 = some (1, 1, false) := by kernel_rfl
@[simp] theorem fd_83_2 : fieldT Try.prog 83 2 = some (2, 1, false) := by kernel_rfl
@[simp] theorem pl_83 : placesT Try.prog 83 = some [(0, 1), (1, 1), (2, 1)] := by kernel_rfl
@[simp] theorem zt_83 : zeroT Try.prog 83 = some (.agg [.str ByteArray.empty, .int .i64 0, .int .i64 0]) := by kernel_rfl
@[simp] theorem zr_83 : zeroE Try.prog 83 = some (.agg [.str ByteArray.empty, .int .i64 0, .int .i64 0]) := by kernel_rfl
@[simp] theorem ld_84 : loadT Try.prog 84 = some (3, true) := by kernel_rfl
@[simp] theorem sz_84 : szT Try.prog 84 = some 3 := by kernel_rfl
@[simp] theorem fd_84_0 : fieldT Try.prog 84 0 = some (0, 1, false) := by kernel_rfl
@[simp] theorem fd_84_1 : fieldT Try.prog 84 1 = some (1, 1, false) := by kernel_rfl
@[simp] theorem fd_84_2 : fieldT Try.prog 84 2 = some (2, 1, false) := by kernel_rfl
@[simp] theorem pl_84 : placesT Try.prog 84 = some [(0, 1), (1, 1), (2, 1)] := by kernel_rfl
@[simp] theorem zt_84 : zeroT Try.prog 84 = some (.agg [.str ByteArray.empty, .int .i64 0, .int .i64 0]) := by kernel_rfl
@[simp] theorem zr_84 : zeroE Try.prog 84 = some (.agg [.str ByteArray.empty, .int .i64 0, .int .i64 0]) := by kernel_rfl
@[simp] theorem ld_89 : loadT Try.prog 89 = some (1, false) := by kernel_rfl
@[simp] theorem sz_89 : szT Try.prog 89 = some 1 := by kernel_rfl
@[simp] theorem ld_91 : loadT Try.prog 91 = some (3, true) := by kernel_rfl
@[simp] theorem sz_91 : szT Try.prog 91 = some 3 := by kernel_rfl
@[simp] theorem fd_91_0 : fieldT Try.prog 91 0 = some (0, 1, false) := by kernel_rfl
@[simp] theorem fd_91_1 : fieldT Try.prog 91 1 = some (1, 1, false) := by kernel_rfl
@[simp] theorem fd_91_2 : fieldT Try.prog 91 2 = some (2, 1, false) := by kernel_rfl
@[simp] theorem pl_91 : placesT Try.prog 91 = some [(0, 1), (1, 1), (2, 1)] := by kernel_rfl
@[simp] theorem zt_91 : zeroT Try.prog 91 = some (.agg [.str ByteArray.empty, .int .i64 0, .int .i64 0]) := by kernel_rfl
@[simp] theorem zr_91 : zeroE Try.prog 91 = some (.agg [.str ByteArray.empty, .int .i64 0, .int .i64 0]) := by kernel_rfl
@[simp] theorem ld_94 : loadT Try.prog 94 = some (1, false) := by kernel_rfl
@[simp] theorem sz_94 : szT Try.prog 94 = some 1 := by kernel_rfl
@[simp] theorem ld_112 : loadT Try.prog 112 = some (1, false) := by kernel_rfl
@[simp] theorem sz_112 : szT Try.prog 112 = some 1 := by kernel_rfl
@[simp] theorem es_112 : esz Try.prog 112 = some 2 := by kernel_rfl
@[simp] theorem el_112 : elemT Try.prog 112 = some 158 := by kernel_rfl
@[simp] theorem un_112 : Try.prog.underlying 112 = some (.slice 158) := by kernel_rfl
@[simp] theorem ii_112 : isIntT Try.prog 112 = some false := by kernel_rfl
@[simp] theorem by_158 : bytesT Try.prog 158 = some 16 := by kernel_rfl
theorem et_112 : ElemT Try.prog 112 158 2 16 := ⟨by kernel_rfl, by kernel_rfl, by kernel_rfl, by kernel_rfl, ⟨.agg [.int .i64 0, .int .i64 0], by kernel_rfl, by kernel_rfl⟩, by decide⟩
@[simp] theorem zt_112 : zeroT Try.prog 112 = some (.lst true 0 []) := by kernel_rfl
@[simp] theorem zr_112 : zeroE Try.prog 112 = some (.lst true 0 []) := by kernel_rfl
@[simp] theorem ld_113 : loadT Try.prog 113 = some (6, true) := by kernel_rfl
@[simp] theorem sz_113 : szT Try.prog 113 = some 6 := by kernel_rfl
@[simp] theorem fd_113_0 : fieldT Try.prog 113 0 = some (0, 1, false) := by kernel_rfl
@[simp] theorem fd_113_1 : fieldT Try.prog 113 1 = some (1, 1, false) := by kernel_rfl
@[simp] theorem fd_113_2 : fieldT Try.prog 113 2 = some (2, 1, false) := by kernel_rfl
@[simp] theorem fd_113_3 : fieldT Try.prog 113 3 = some (3, 1, false) := by kernel_rfl
@[simp] theorem fd_113_4 : fieldT Try.prog 113 4 = some (4, 1, false) := by kernel_rfl
@[simp] theorem fd_113_5 : fieldT Try.prog 113 5 = some (5, 1, false) := by kernel_rfl
@[simp] theorem pl_113 : placesT Try.prog 113 = some [(0, 1), (1, 1), (2, 1), (3, 1), (4, 1), (5, 1)] := by kernel_rfl
@[simp] theorem zt_113 : zeroT Try.prog 113 = some (.agg [.int .i64 0, .lst true 0 [], .lst true 0 [], .lst true 0 [], .bool false, .bool false]) := by kernel_rfl
@[simp] theorem zr_113 : zeroE Try.prog 113 = some (.agg [.int .i64 0, .lst true 0 [], .lst true 0 [], .lst true 0 [], .bool false, .bool false]) := by kernel_rfl
@[simp] theorem ld_114 : loadT Try.prog 114 = some (6, true) := by kernel_rfl
@[simp] theorem sz_114 : szT Try.prog 114 = some 6 := by kernel_rfl
@[simp] theorem fd_114_0 : fieldT Try.prog 114 0 = some (0, 1, false) := by kernel_rfl
@[simp] theorem fd_114_1 : fieldT Try.prog 114 1 = some (1, 1, false) := by kernel_rfl
@[simp] theorem fd_114_2 : fieldT Try.prog 114 2 = some (2, 1, false) := by kernel_rfl
@[simp] theorem fd_114_3 : fieldT Try.prog 114 3 = some (3, 1, false) := by kernel_rfl
@[simp] theorem fd_114_4 : fieldT Try.prog 114 4 = some (4, 1, false) := by kernel_rfl
@[simp] theorem fd_114_5 : fieldT Try.prog 114 5 = some (5, 1, false) := by kernel_rfl
@[simp] theorem pl_114 : placesT Try.prog 114 = some [(0, 1), (1, 1), (2, 1), (3, 1), (4, 1), (5, 1)] := by kernel_rfl
@[simp] theorem zt_114 : zeroT Try.prog 114 = some (.agg [.int .i64 0, .lst true 0 [], .lst true 0 [], .lst true 0 [], .bool false, .bool false]) := by kernel_rfl
@[simp] theorem zr_114 : zeroE Try.prog 114 = some (.agg [.int .i64 0, .lst true 0 [], .lst true 0 [], .lst true 0 [], .bool false, .bool false]) := by kernel_rfl
@[simp] theorem ld_115 : loadT Try.prog 115 = some (1, false) := by kernel_rfl
@[simp] theorem sz_115 : szT Try.prog 115 = some 1 := by kernel_rfl
@[simp] theorem es_115 : esz Try.prog 115 = some 2 := by kernel_rfl
@[simp] theorem el_115 : elemT Try.prog 115 = some 119 := by kernel_rfl
@[simp] theorem un_115 : Try.prog.underlying 115 = some (.slice 119) := by kernel_rfl
@[simp] theorem ii_115 : isIntT Try.prog 115 = some false := by kernel_rfl
@[simp] theorem by_119 : bytesT Try.prog 119 = some 16 := by kernel_rfl
theorem et_115 : ElemT Try.prog 115 119 2 16 := ⟨by kernel_rfl, by kernel_rfl, by kernel_rfl, by kernel_rfl, ⟨.agg [.int .i64 0, .int .i64 0], by kernel_rfl, by kernel_rfl⟩, by decide⟩
@[simp] theorem zt_115 : zeroT Try.prog 115 = some (.lst true 0 []) := by kernel_rfl
@[simp] theorem zr_115 : zeroE Try.prog 115 = some (.lst true 0 []) := by kernel_rfl
@[simp] theorem ld_116 : loadT Try.prog 116 = some (6, true) := by kernel_rfl
@[simp] theorem sz_116 : szT Try.prog 116 = some 6 := by kernel_rfl
@[simp] theorem fd_116_0 : fieldT Try.prog 116 0 = some (0, 1, false) := by kernel_rfl
@[simp] theorem fd_116_1 : fieldT Try.prog 116 1 = some (1, 1, false) := by kernel_rfl
@[simp] theorem fd_116_2 : fieldT Try.prog 116 2 = some (2, 1, false) := by kernel_rfl
@[simp] theorem fd_116_3 : fieldT Try.prog 116 3 = some (3, 1, false) := by kernel_rfl
@[simp] theorem fd_116_4 : fieldT Try.prog 116 4 = some (4, 1, false) := by kernel_rfl
@[simp] theorem fd_116_5 : fieldT Try.prog 116 5 = some (5, 1, false) := by kernel_rfl
@[simp] theorem pl_116 : placesT Try.prog 116 = some [(0, 1), (1, 1), (2, 1), (3, 1), (4, 1), (5, 1)] := by kernel_rfl
@[simp] theorem zt_116 : zeroT Try.prog 116 = some (.agg [.int .i64 0, .lst true 0 [], .lst true 0 [], .lst true 0 [], .bool false, .bool false]) := by kernel_rfl
@[simp] theorem zr_116 : zeroE Try.prog 116 = some (.agg [.int .i64 0, .lst true 0 [], .lst true 0 [], .lst true 0 [], .bool false, .bool false]) := by kernel_rfl
@[simp] theorem ld_117 : loadT Try.prog 117 = some (6, true) := by kernel_rfl
@[simp] theorem sz_117 : szT Try.prog 117 = some 6 := by kernel_rfl
@[simp] theorem fd_117_0 : fieldT Try.prog 117 0 = some (0, 1, false) := by kernel_rfl
@[simp] theorem fd_117_1 : fieldT Try.prog 117 1 = some (1, 1, false) := by kernel_rfl
@[simp] theorem fd_117_2 : fieldT Try.prog 117 2 = some (2, 1, false) := by kernel_rfl
@[simp] theorem fd_117_3 : fieldT Try.prog 117 3 = some (3, 1, false) := by kernel_rfl
@[simp] theorem fd_117_4 : fieldT Try.prog 117 4 = some (4, 1, false) := by kernel_rfl
@[simp] theorem fd_117_5 : fieldT Try.prog 117 5 = some (5, 1, false) := by kernel_rfl
@[simp] theorem pl_117 : placesT Try.prog 117 = some [(0, 1), (1, 1), (2, 1), (3, 1), (4, 1), (5, 1)] := by kernel_rfl
@[simp] theorem zt_117 : zeroT Try.prog 117 = some (.agg [.int .i64 0, .lst true 0 [], .lst true 0 [], .lst true 0 [], .bool false, .bool false]) := by kernel_rfl
@[simp] theorem zr_117 : zeroE Try.prog 117 = some (.agg [.int .i64 0, .lst true 0 [], .lst true 0 [], .lst true 0 [], .bool false, .bool false]) := by kernel_rfl
@[simp] theorem ld_118 : loadT Try.prog 118 = some (2, true) := by kernel_rfl
@[simp] theorem sz_118 : szT Try.prog 118 = some 2 := by kernel_rfl
@[simp] theorem fd_118_0 : fieldT Try.prog 118 0 = some (0, 1, false) := by kernel_rfl
@[simp] theorem fd_118_1 : fieldT Try.prog 118 1 = some (1, 1, false) := by kernel_rfl
@[simp] theorem pl_118 : placesT Try.prog 118 = some [(0, 1), (1, 1)] := by kernel_rfl
@[simp] theorem zt_118 : zeroT Try.prog 118 = some (.agg [.int .i64 0, .int .i64 0]) := by kernel_rfl
@[simp] theorem zr_118 : zeroE Try.prog 118 = some (.agg [.int .i64 0, .int .i64 0]) := by kernel_rfl
@[simp] theorem ld_119 : loadT Try.prog 119 = some (2, true) := by kernel_rfl
@[simp] theorem sz_119 : szT Try.prog 119 = some 2 := by kernel_rfl
@[simp] theorem fd_119_0 : fieldT Try.prog 119 0 = some (0, 1, false) := by kernel_rfl
@[simp] theorem fd_119_1 : fieldT Try.prog 119 1 = some (1, 1, false) := by kernel_rfl
@[simp] theorem pl_119 : placesT Try.prog 119 = some [(0, 1), (1, 1)] := by kernel_rfl
@[simp] theorem zt_119 : zeroT Try.prog 119 = some (.agg [.int .i64 0, .int .i64 0]) := by kernel_rfl
@[simp] theorem zr_119 : zeroE Try.prog 119 = some (.agg [.int .i64 0, .int .i64 0]) := by kernel_rfl
@[simp] theorem ld_123 : loadT Try.prog 123 = some (2, true) := by kernel_rfl
@[simp] theorem sz_123 : szT Try.prog 123 = some 2 := by kernel_rfl
@[simp] theorem fd_123_0 : fieldT Try.prog 123 0 = some (0, 1, false) := by kernel_rfl
@[simp] theorem fd_123_1 : fieldT Try.prog 123 1 = some (1, 1, false) := by kernel_rfl
@[simp] theorem pl_123 : placesT Try.prog 123 = some [(0, 1), (1, 1)] := by kernel_rfl
@[simp] theorem zt_123 : zeroT Try.prog 123 = some (.agg [.str ByteArray.empty, .int .i64 0]) := by kernel_rfl
@[simp] theorem zr_123 : zeroE Try.prog 123 = some (.agg [.str ByteArray.empty, .int .i64 0]) := by kernel_rfl
@[simp] theorem ld_124 : loadT Try.prog 124 = some (2, true) := by kernel_rfl
@[simp] theorem sz_124 : szT Try.prog 124 = some 2 := by kernel_rfl
@[simp] theorem fd_124_0 : fieldT Try.prog 124 0 = some (0, 1, false) := by kernel_rfl
@[simp] theorem fd_124_1 : fieldT Try.prog 124 1 = some (1, 1, false) := by kernel_rfl
@[simp] theorem pl_124 : placesT Try.prog 124 = some [(0, 1), (1, 1)] := by kernel_rfl
@[simp] theorem zt_124 : zeroT Try.prog 124 = some (.agg [.str ByteArray.empty, .int .i64 0]) := by kernel_rfl
@[simp] theorem zr_124 : zeroE Try.prog 124 = some (.agg [.str ByteArray.empty, .int .i64 0]) := by kernel_rfl
@[simp] theorem ld_126 : loadT Try.prog 126 = some (2, true) := by kernel_rfl
@[simp] theorem sz_126 : szT Try.prog 126 = some 2 := by kernel_rfl
@[simp] theorem fd_126_0 : fieldT Try.prog 126 0 = some (0, 1, false) := by kernel_rfl
@[simp] theorem fd_126_1 : fieldT Try.prog 126 1 = some (1, 1, false) := by kernel_rfl
@[simp] theorem pl_126 : placesT Try.prog 126 = some [(0, 1), (1, 1)] := by kernel_rfl
@[simp] theorem zt_126 : zeroT Try.prog 126 = some (.agg [.str ByteArray.empty, .int .i64 0]) := by kernel_rfl
@[simp] theorem zr_126 : zeroE Try.prog 126 = some (.agg [.str ByteArray.empty, .int .i64 0]) := by kernel_rfl
@[simp] theorem ld_136 : loadT Try.prog 136 = some (1, false) := by kernel_rfl
@[simp] theorem sz_136 : szT Try.prog 136 = some 1 := by kernel_rfl
@[simp] theorem ld_143 : loadT Try.prog 143 = some (1, false) := by kernel_rfl
@[simp] theorem sz_143 : szT Try.prog 143 = some 1 := by kernel_rfl
@[simp] theorem es_143 : esz Try.prog 143 = some 1 := by kernel_rfl
@[simp] theorem el_143 : elemT Try.prog 143 = some 5 := by kernel_rfl
@[simp] theorem un_143 : Try.prog.underlying 143 = some (.slice 5) := by kernel_rfl
@[simp] theorem ii_143 : isIntT Try.prog 143 = some false := by kernel_rfl
@[simp] theorem by_5 : bytesT Try.prog 5 = some 1 := by kernel_rfl
theorem et_143 : ElemT Try.prog 143 5 1 1 := ⟨by kernel_rfl, by kernel_rfl, by kernel_rfl, by kernel_rfl, ⟨.int .u8 0, by kernel_rfl, by kernel_rfl⟩, by decide⟩
@[simp] theorem zt_143 : zeroT Try.prog 143 = some (.lst true 0 []) := by kernel_rfl
@[simp] theorem zr_143 : zeroE Try.prog 143 = some (.lst true 0 []) := by kernel_rfl
@[simp] theorem ld_149 : loadT Try.prog 149 = some (1, false) := by kernel_rfl
@[simp] theorem sz_149 : szT Try.prog 149 = some 1 := by kernel_rfl
@[simp] theorem es_149 : esz Try.prog 149 = some 1 := by kernel_rfl
@[simp] theorem el_149 : elemT Try.prog 149 = some 41 := by kernel_rfl
@[simp] theorem un_149 : Try.prog.underlying 149 = some (.slice 41) := by kernel_rfl
@[simp] theorem ii_149 : isIntT Try.prog 149 = some false := by kernel_rfl
@[simp] theorem by_41 : bytesT Try.prog 41 = some 24 := by kernel_rfl
theorem et_149 : ElemT Try.prog 149 41 1 24 := ⟨by kernel_rfl, by kernel_rfl, by kernel_rfl, by kernel_rfl, ⟨.lst true 0 [], by kernel_rfl, by kernel_rfl⟩, by decide⟩
@[simp] theorem zt_149 : zeroT Try.prog 149 = some (.lst true 0 []) := by kernel_rfl
@[simp] theorem zr_149 : zeroE Try.prog 149 = some (.lst true 0 []) := by kernel_rfl
@[simp] theorem ld_158 : loadT Try.prog 158 = some (2, true) := by kernel_rfl
@[simp] theorem sz_158 : szT Try.prog 158 = some 2 := by kernel_rfl
@[simp] theorem fd_158_0 : fieldT Try.prog 158 0 = some (0, 1, false) := by kernel_rfl
@[simp] theorem fd_158_1 : fieldT Try.prog 158 1 = some (1, 1, false) := by kernel_rfl
@[simp] theorem pl_158 : placesT Try.prog 158 = some [(0, 1), (1, 1)] := by kernel_rfl
@[simp] theorem zt_158 : zeroT Try.prog 158 = some (.agg [.int .i64 0, .int .i64 0]) := by kernel_rfl
@[simp] theorem zr_158 : zeroE Try.prog 158 = some (.agg [.int .i64 0, .int .i64 0]) := by kernel_rfl
@[simp] theorem ld_164 : loadT Try.prog 164 = some (16, true) := by kernel_rfl
@[simp] theorem sz_164 : szT Try.prog 164 = some 16 := by kernel_rfl
@[simp] theorem zt_164 : zeroT Try.prog 164 = some (.agg [.int .i64 0, .int .i64 0, .str ByteArray.empty, .lst true 0 [], .int .i64 0, .int .i64 0, .str ByteArray.empty, .lst true 0 [], .int .i64 0, .int .i64 0, .str ByteArray.empty, .lst true 0 [], .int .i64 0, .int .i64 0, .str ByteArray.empty, .lst true 0 []]) := by kernel_rfl
@[simp] theorem zr_164 : zeroE Try.prog 164 = some (.agg [.int .i64 0, .int .i64 0, .str ByteArray.empty, .lst true 0 [], .int .i64 0, .int .i64 0, .str ByteArray.empty, .lst true 0 [], .int .i64 0, .int .i64 0, .str ByteArray.empty, .lst true 0 [], .int .i64 0, .int .i64 0, .str ByteArray.empty, .lst true 0 []]) := by kernel_rfl
@[simp] theorem ld_172 : loadT Try.prog 172 = some (1, false) := by kernel_rfl
@[simp] theorem sz_172 : szT Try.prog 172 = some 1 := by kernel_rfl
@[simp] theorem un_172 : Try.prog.underlying 172 = some (.int .u64) := by kernel_rfl
@[simp] theorem zt_172 : zeroT Try.prog 172 = some (.int .u64 0) := by kernel_rfl
@[simp] theorem zr_172 : zeroE Try.prog 172 = some (.int .u64 0) := by kernel_rfl
@[simp] theorem ld_174 : loadT Try.prog 174 = some (1, false) := by kernel_rfl
@[simp] theorem sz_174 : szT Try.prog 174 = some 1 := by kernel_rfl
@[simp] theorem ld_175 : loadT Try.prog 175 = some (1, false) := by kernel_rfl
@[simp] theorem sz_175 : szT Try.prog 175 = some 1 := by kernel_rfl
@[simp] theorem ld_182 : loadT Try.prog 182 = some (1, false) := by kernel_rfl
@[simp] theorem sz_182 : szT Try.prog 182 = some 1 := by kernel_rfl
@[simp] theorem un_182 : Try.prog.underlying 182 = some (.int .u32) := by kernel_rfl
@[simp] theorem zt_182 : zeroT Try.prog 182 = some (.int .u32 0) := by kernel_rfl
@[simp] theorem zr_182 : zeroE Try.prog 182 = some (.int .u32 0) := by kernel_rfl
@[simp] theorem ld_184 : loadT Try.prog 184 = some (1, false) := by kernel_rfl
@[simp] theorem sz_184 : szT Try.prog 184 = some 1 := by kernel_rfl
@[simp] theorem un_184 : Try.prog.underlying 184 = some (.int .u64) := by kernel_rfl
@[simp] theorem zt_184 : zeroT Try.prog 184 = some (.int .u64 0) := by kernel_rfl
@[simp] theorem zr_184 : zeroE Try.prog 184 = some (.int .u64 0) := by kernel_rfl
@[simp] theorem ld_189 : loadT Try.prog 189 = some (1, false) := by kernel_rfl
@[simp] theorem sz_189 : szT Try.prog 189 = some 1 := by kernel_rfl
@[simp] theorem un_189 : Try.prog.underlying 189 = some (.pointer 3) := by kernel_rfl
@[simp] theorem zt_189 : zeroT Try.prog 189 = some (.nilp) := by kernel_rfl
@[simp] theorem zr_189 : zeroE Try.prog 189 = some (.nilp) := by kernel_rfl
@[simp] theorem ld_203 : loadT Try.prog 203 = some (1, false) := by kernel_rfl
@[simp] theorem sz_203 : szT Try.prog 203 = some 1 := by kernel_rfl
@[simp] theorem un_203 : Try.prog.underlying 203 = some (.pointer 5) := by kernel_rfl
@[simp] theorem zt_203 : zeroT Try.prog 203 = some (.nilp) := by kernel_rfl
@[simp] theorem zr_203 : zeroE Try.prog 203 = some (.nilp) := by kernel_rfl
@[simp] theorem ld_209 : loadT Try.prog 209 = some (1, false) := by kernel_rfl
@[simp] theorem sz_209 : szT Try.prog 209 = some 1 := by kernel_rfl
end Go.T
