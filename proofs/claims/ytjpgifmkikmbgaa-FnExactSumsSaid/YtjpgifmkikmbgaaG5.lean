/- Facts about the types of the program. Names: what the program and the reference compute. What the laws' measuring, copying and comparing functions compute. -/
import Derived.Test.YtjpgifmkikmbgaaG4
import Derived.Test.YtjpgifmkikmbgaaG2
import Derived.Test.YtjpgifmkikmbgaaProg
namespace Go.T
open Go Go.Proofs
set_option maxRecDepth 10000
@[simp] theorem ld_2 : loadT Try.prog 2 = some (1, false) := by kernel_rfl
@[simp] theorem sz_2 : szT Try.prog 2 = some 1 := by kernel_rfl
@[simp] theorem ag_2 : aggT Try.prog 2 = some false := by kernel_rfl
@[simp] theorem un_2 : Try.prog.underlying 2 = some (.int .i64) := by kernel_rfl
@[simp] theorem zt_2 : zeroT Try.prog 2 = some (.int .i64 0) := by kernel_rfl
@[simp] theorem zr_2 : zeroE Try.prog 2 = some (.int .i64 0) := by kernel_rfl
@[simp] theorem ld_3 : loadT Try.prog 3 = some (1, false) := by kernel_rfl
@[simp] theorem sz_3 : szT Try.prog 3 = some 1 := by kernel_rfl
@[simp] theorem ag_3 : aggT Try.prog 3 = some false := by kernel_rfl
@[simp] theorem un_3 : Try.prog.underlying 3 = some (.int .i64) := by kernel_rfl
@[simp] theorem zt_3 : zeroT Try.prog 3 = some (.int .i64 0) := by kernel_rfl
@[simp] theorem zr_3 : zeroE Try.prog 3 = some (.int .i64 0) := by kernel_rfl
@[simp] theorem ld_4 : loadT Try.prog 4 = some (1, false) := by kernel_rfl
@[simp] theorem sz_4 : szT Try.prog 4 = some 1 := by kernel_rfl
@[simp] theorem ag_4 : aggT Try.prog 4 = some false := by kernel_rfl
@[simp] theorem un_4 : Try.prog.underlying 4 = some .bool := by kernel_rfl
@[simp] theorem zt_4 : zeroT Try.prog 4 = some (.bool false) := by kernel_rfl
@[simp] theorem zr_4 : zeroE Try.prog 4 = some (.bool false) := by kernel_rfl
@[simp] theorem ld_5 : loadT Try.prog 5 = some (1, false) := by kernel_rfl
@[simp] theorem sz_5 : szT Try.prog 5 = some 1 := by kernel_rfl
@[simp] theorem ag_5 : aggT Try.prog 5 = some false := by kernel_rfl
@[simp] theorem un_5 : Try.prog.underlying 5 = some (.int .u8) := by kernel_rfl
@[simp] theorem zt_5 : zeroT Try.prog 5 = some (.int .u8 0) := by kernel_rfl
@[simp] theorem zr_5 : zeroE Try.prog 5 = some (.int .u8 0) := by kernel_rfl
@[simp] theorem ld_9 : loadT Try.prog 9 = some (1, false) := by kernel_rfl
@[simp] theorem sz_9 : szT Try.prog 9 = some 1 := by kernel_rfl
@[simp] theorem ag_9 : aggT Try.prog 9 = some false := by kernel_rfl
@[simp] theorem un_9 : Try.prog.underlying 9 = some .string := by kernel_rfl
@[simp] theorem zt_9 : zeroT Try.prog 9 = some (.str ByteArray.empty) := by kernel_rfl
@[simp] theorem zr_9 : zeroE Try.prog 9 = some (.str ByteArray.empty) := by kernel_rfl
@[simp] theorem ld_12 : loadT Try.prog 12 = some (1, false) := by kernel_rfl
@[simp] theorem sz_12 : szT Try.prog 12 = some 1 := by kernel_rfl
@[simp] theorem ag_12 : aggT Try.prog 12 = some false := by kernel_rfl
@[simp] theorem zt_12 : zeroT Try.prog 12 = some (.int .u64 0) := by kernel_rfl
@[simp] theorem zr_12 : zeroE Try.prog 12 = some (.int .u64 0) := by kernel_rfl
@[simp] theorem ld_13 : loadT Try.prog 13 = some (2, true) := by kernel_rfl
@[simp] theorem sz_13 : szT Try.prog 13 = some 2 := by kernel_rfl
@[simp] theorem ag_13 : aggT Try.prog 13 = some true := by kernel_rfl
@[simp] theorem fd_13_0 : fieldT Try.prog 13 0 = some (0, 1, false) := by kernel_rfl
@[simp] theorem fd_13_1 : fieldT Try.prog 13 1 = some (1, 1, false) := by kernel_rfl
@[simp] theorem pl_13 : placesT Try.prog 13 = some [(0, 1), (1, 1)] := by kernel_rfl
@[simp] theorem zt_13 : zeroT Try.prog 13 = some (.agg [.str ByteArray.empty, .int .u64 0]) := by kernel_rfl
@[simp] theorem zr_13 : zeroE Try.prog 13 = some (.agg [.str ByteArray.empty, .int .u64 0]) := by kernel_rfl
@[simp] theorem ld_21 : loadT Try.prog 21 = some (1, false) := by kernel_rfl
@[simp] theorem sz_21 : szT Try.prog 21 = some 1 := by kernel_rfl
@[simp] theorem ag_21 : aggT Try.prog 21 = some false := by kernel_rfl
@[simp] theorem un_21 : Try.prog.underlying 21 = some (.int .i32) := by kernel_rfl
@[simp] theorem zt_21 : zeroT Try.prog 21 = some (.int .i32 0) := by kernel_rfl
@[simp] theorem zr_21 : zeroE Try.prog 21 = some (.int .i32 0) := by kernel_rfl
@[simp] theorem ld_22 : loadT Try.prog 22 = some (1, false) := by kernel_rfl
@[simp] theorem sz_22 : szT Try.prog 22 = some 1 := by kernel_rfl
@[simp] theorem ag_22 : aggT Try.prog 22 = some false := by kernel_rfl
@[simp] theorem es_22 : esz Try.prog 22 = some 1 := by kernel_rfl
@[simp] theorem el_22 : elemT Try.prog 22 = some 3 := by kernel_rfl
@[simp] theorem un_22 : Try.prog.underlying 22 = some (.slice 3) := by kernel_rfl
@[simp] theorem ii_22 : isIntT Try.prog 22 = some false := by kernel_rfl
@[simp] theorem by_3 : bytesT Try.prog 3 = some 8 := by kernel_rfl
theorem et_22 : ElemT Try.prog 22 3 1 8 := ⟨by kernel_rfl, by kernel_rfl, by kernel_rfl, by kernel_rfl, ⟨.int .i64 0, by kernel_rfl, by kernel_rfl⟩, by decide⟩
@[simp] theorem zt_22 : zeroT Try.prog 22 = some (.lst true 0 []) := by kernel_rfl
@[simp] theorem zr_22 : zeroE Try.prog 22 = some (.lst true 0 []) := by kernel_rfl
@[simp] theorem ld_23 : loadT Try.prog 23 = some (1, false) := by kernel_rfl
@[simp] theorem sz_23 : szT Try.prog 23 = some 1 := by kernel_rfl
@[simp] theorem ag_23 : aggT Try.prog 23 = some false := by kernel_rfl
@[simp] theorem es_23 : esz Try.prog 23 = some 6 := by kernel_rfl
@[simp] theorem el_23 : elemT Try.prog 23 = some 114 := by kernel_rfl
@[simp] theorem un_23 : Try.prog.underlying 23 = some (.slice 114) := by kernel_rfl
@[simp] theorem ii_23 : isIntT Try.prog 23 = some false := by kernel_rfl
@[simp] theorem by_114 : bytesT Try.prog 114 = some 88 := by kernel_rfl
theorem et_23 : ElemT Try.prog 23 114 6 88 := ⟨by kernel_rfl, by kernel_rfl, by kernel_rfl, by kernel_rfl, ⟨.agg [.int .i64 0, .lst true 0 [], .lst true 0 [], .lst true 0 [], .bool false, .bool false], by kernel_rfl, by kernel_rfl⟩, by decide⟩
@[simp] theorem zt_23 : zeroT Try.prog 23 = some (.lst true 0 []) := by kernel_rfl
@[simp] theorem zr_23 : zeroE Try.prog 23 = some (.lst true 0 []) := by kernel_rfl
@[simp] theorem ld_24 : loadT Try.prog 24 = some (4, true) := by kernel_rfl
@[simp] theorem sz_24 : szT Try.prog 24 = some 4 := by kernel_rfl
@[simp] theorem ag_24 : aggT Try.prog 24 = some true := by kernel_rfl
@[simp] theorem fd_24_0 : fieldT Try.prog 24 0 = some (0, 1, false) := by kernel_rfl
@[simp] theorem fd_24_1 : fieldT Try.prog 24 1 = some (1, 1, false) := by kernel_rfl
@[simp] theorem fd_24_2 : fieldT Try.prog 24 2 = some (2, 1, false) := by kernel_rfl
@[simp] theorem fd_24_3 : fieldT Try.prog 24 3 = some (3, 1, false) := by kernel_rfl
@[simp] theorem pl_24 : placesT Try.prog 24 = some [(0, 1), (1, 1), (2, 1), (3, 1)] := by kernel_rfl
@[simp] theorem zt_24 : zeroT Try.prog 24 = some (.agg [.lst true 0 [], .lst true 0 [], .lst true 0 [], .bool false]) := by kernel_rfl
@[simp] theorem zr_24 : zeroE Try.prog 24 = some (.agg [.lst true 0 [], .lst true 0 [], .lst true 0 [], .bool false]) := by kernel_rfl
@[simp] theorem ld_25 : loadT Try.prog 25 = some (4, true) := by kernel_rfl
@[simp] theorem sz_25 : szT Try.prog 25 = some 4 := by kernel_rfl
@[simp] theorem ag_25 : aggT Try.prog 25 = some true := by kernel_rfl
@[simp] theorem fd_25_0 : fieldT Try.prog 25 0 = some (0, 1, false) := by kernel_rfl
@[simp] theorem fd_25_1 : fieldT Try.prog 25 1 = some (1, 1, false) := by kernel_rfl
@[simp] theorem fd_25_2 : fieldT Try.prog 25 2 = some (2, 1, false) := by kernel_rfl
@[simp] theorem fd_25_3 : fieldT Try.prog 25 3 = some (3, 1, false) := by kernel_rfl
@[simp] theorem pl_25 : placesT Try.prog 25 = some [(0, 1), (1, 1), (2, 1), (3, 1)] := by kernel_rfl
@[simp] theorem zt_25 : zeroT Try.prog 25 = some (.agg [.lst true 0 [], .lst true 0 [], .lst true 0 [], .bool false]) := by kernel_rfl
@[simp] theorem zr_25 : zeroE Try.prog 25 = some (.agg [.lst true 0 [], .lst true 0 [], .lst true 0 [], .bool false]) := by kernel_rfl
@[simp] theorem ld_28 : loadT Try.prog 28 = some (1, false) := by kernel_rfl
@[simp] theorem sz_28 : szT Try.prog 28 = some 1 := by kernel_rfl
@[simp] theorem ag_28 : aggT Try.prog 28 = some false := by kernel_rfl
@[simp] theorem es_28 : esz Try.prog 28 = some 6 := by kernel_rfl
@[simp] theorem el_28 : elemT Try.prog 28 = some 117 := by kernel_rfl
@[simp] theorem un_28 : Try.prog.underlying 28 = some (.slice 117) := by kernel_rfl
@[simp] theorem ii_28 : isIntT Try.prog 28 = some false := by kernel_rfl
@[simp] theorem by_117 : bytesT Try.prog 117 = some 88 := by kernel_rfl
theorem et_28 : ElemT Try.prog 28 117 6 88 := ⟨by kernel_rfl, by kernel_rfl, by kernel_rfl, by kernel_rfl, ⟨.agg [.int .i64 0, .lst true 0 [], .lst true 0 [], .lst true 0 [], .bool false, .bool false], by kernel_rfl, by kernel_rfl⟩, by decide⟩
@[simp] theorem zt_28 : zeroT Try.prog 28 = some (.lst true 0 []) := by kernel_rfl
@[simp] theorem zr_28 : zeroE Try.prog 28 = some (.lst true 0 []) := by kernel_rfl
@[simp] theorem ld_29 : loadT Try.prog 29 = some (4, true) := by kernel_rfl
@[simp] theorem sz_29 : szT Try.prog 29 = some 4 := by kernel_rfl
@[simp] theorem ag_29 : aggT Try.prog 29 = some true := by kernel_rfl
@[simp] theorem fd_29_0 : fieldT Try.prog 29 0 = some (0, 1, false) := by kernel_rfl
@[simp] theorem fd_29_1 : fieldT Try.prog 29 1 = some (1, 1, false) := by kernel_rfl
@[simp] theorem fd_29_2 : fieldT Try.prog 29 2 = some (2, 1, false) := by kernel_rfl
@[simp] theorem fd_29_3 : fieldT Try.prog 29 3 = some (3, 1, false) := by kernel_rfl
@[simp] theorem pl_29 : placesT Try.prog 29 = some [(0, 1), (1, 1), (2, 1), (3, 1)] := by kernel_rfl
@[simp] theorem zt_29 : zeroT Try.prog 29 = some (.agg [.lst true 0 [], .lst true 0 [], .lst true 0 [], .bool false]) := by kernel_rfl
@[simp] theorem zr_29 : zeroE Try.prog 29 = some (.agg [.lst true 0 [], .lst true 0 [], .lst true 0 [], .bool false]) := by kernel_rfl
@[simp] theorem ld_30 : loadT Try.prog 30 = some (4, true) := by kernel_rfl
@[simp] theorem sz_30 : szT Try.prog 30 = some 4 := by kernel_rfl
@[simp] theorem ag_30 : aggT Try.prog 30 = some true := by kernel_rfl
@[simp] theorem fd_30_0 : fieldT Try.prog 30 0 = some (0, 1, false) := by kernel_rfl
@[simp] theorem fd_30_1 : fieldT Try.prog 30 1 = some (1, 1, false) := by kernel_rfl
@[simp] theorem fd_30_2 : fieldT Try.prog 30 2 = some (2, 1, false) := by kernel_rfl
@[simp] theorem fd_30_3 : fieldT Try.prog 30 3 = some (3, 1, false) := by kernel_rfl
@[simp] theorem pl_30 : placesT Try.prog 30 = some [(0, 1), (1, 1), (2, 1), (3, 1)] := by kernel_rfl
@[simp] theorem zt_30 : zeroT Try.prog 30 = some (.agg [.lst true 0 [], .lst true 0 [], .lst true 0 [], .bool false]) := by kernel_rfl
@[simp] theorem zr_30 : zeroE Try.prog 30 = some (.agg [.lst true 0 [], .lst true 0 [], .lst true 0 [], .bool false]) := by kernel_rfl
@[simp] theorem ld_34 : loadT Try.prog 34 = some (1, false) := by kernel_rfl
@[simp] theorem sz_34 : szT Try.prog 34 = some 1 := by kernel_rfl
@[simp] theorem ag_34 : aggT Try.prog 34 = some false := by kernel_rfl
@[simp] theorem es_34 : esz Try.prog 34 = some 2 := by kernel_rfl
@[simp] theorem el_34 : elemT Try.prog 34 = some 124 := by kernel_rfl
@[simp] theorem un_34 : Try.prog.underlying 34 = some (.slice 124) := by kernel_rfl
@[simp] theorem ii_34 : isIntT Try.prog 34 = some false := by kernel_rfl
@[simp] theorem by_124 : bytesT Try.prog 124 = some 24 := by kernel_rfl
theorem et_34 : ElemT Try.prog 34 124 2 24 := ⟨by kernel_rfl, by kernel_rfl, by kernel_rfl, by kernel_rfl, ⟨.agg [.str ByteArray.empty, .int .i64 0], by kernel_rfl, by kernel_rfl⟩, by decide⟩
@[simp] theorem zt_34 : zeroT Try.prog 34 = some (.lst true 0 []) := by kernel_rfl
@[simp] theorem zr_34 : zeroE Try.prog 34 = some (.lst true 0 []) := by kernel_rfl
@[simp] theorem ld_35 : loadT Try.prog 35 = some (2, true) := by kernel_rfl
@[simp] theorem sz_35 : szT Try.prog 35 = some 2 := by kernel_rfl
@[simp] theorem ag_35 : aggT Try.prog 35 = some true := by kernel_rfl
@[simp] theorem fd_35_0 : fieldT Try.prog 35 0 = some (0, 1, false) := by kernel_rfl
@[simp] theorem fd_35_1 : fieldT Try.prog 35 1 = some (1, 1, false) := by kernel_rfl
@[simp] theorem pl_35 : placesT Try.prog 35 = some [(0, 1), (1, 1)] := by kernel_rfl
@[simp] theorem zt_35 : zeroT Try.prog 35 = some (.agg [.int .i64 0, .lst true 0 []]) := by kernel_rfl
@[simp] theorem zr_35 : zeroE Try.prog 35 = some (.agg [.int .i64 0, .lst true 0 []]) := by kernel_rfl
@[simp] theorem ld_36 : loadT Try.prog 36 = some (2, true) := by kernel_rfl
@[simp] theorem sz_36 : szT Try.prog 36 = some 2 := by kernel_rfl
@[simp] theorem ag_36 : aggT Try.prog 36 = some true := by kernel_rfl
@[simp] theorem fd_36_0 : fieldT Try.prog 36 0 = some (0, 1, false) := by kernel_rfl
@[simp] theorem fd_36_1 : fieldT Try.prog 36 1 = some (1, 1, false) := by kernel_rfl
@[simp] theorem pl_36 : placesT Try.prog 36 = some [(0, 1), (1, 1)] := by kernel_rfl
@[simp] theorem zt_36 : zeroT Try.prog 36 = some (.agg [.int .i64 0, .lst true 0 []]) := by kernel_rfl
@[simp] theorem zr_36 : zeroE Try.prog 36 = some (.agg [.int .i64 0, .lst true 0 []]) := by kernel_rfl
@[simp] theorem ld_37 : loadT Try.prog 37 = some (1, false) := by kernel_rfl
@[simp] theorem sz_37 : szT Try.prog 37 = some 1 := by kernel_rfl
@[simp] theorem ag_37 : aggT Try.prog 37 = some false := by kernel_rfl
@[simp] theorem es_37 : esz Try.prog 37 = some 3 := by kernel_rfl
@[simp] theorem el_37 : elemT Try.prog 37 = some 84 := by kernel_rfl
@[simp] theorem un_37 : Try.prog.underlying 37 = some (.slice 84) := by kernel_rfl
@[simp] theorem ii_37 : isIntT Try.prog 37 = some false := by kernel_rfl
@[simp] theorem by_84 : bytesT Try.prog 84 = some 32 := by kernel_rfl
theorem et_37 : ElemT Try.prog 37 84 3 32 := ⟨by kernel_rfl, by kernel_rfl, by kernel_rfl, by kernel_rfl, ⟨.agg [.str ByteArray.empty, .int .i64 0, .int .i64 0], by kernel_rfl, by kernel_rfl⟩, by decide⟩
@[simp] theorem zt_37 : zeroT Try.prog 37 = some (.lst true 0 []) := by kernel_rfl
@[simp] theorem zr_37 : zeroE Try.prog 37 = some (.lst true 0 []) := by kernel_rfl
@[simp] theorem ld_41 : loadT Try.prog 41 = some (1, false) := by kernel_rfl
@[simp] theorem sz_41 : szT Try.prog 41 = some 1 := by kernel_rfl
@[simp] theorem ag_41 : aggT Try.prog 41 = some false := by kernel_rfl
@[simp] theorem es_41 : esz Try.prog 41 = some 2 := by kernel_rfl
@[simp] theorem el_41 : elemT Try.prog 41 = some 126 := by kernel_rfl
@[simp] theorem un_41 : Try.prog.underlying 41 = some (.slice 126) := by kernel_rfl
@[simp] theorem ii_41 : isIntT Try.prog 41 = some false := by kernel_rfl
@[simp] theorem by_126 : bytesT Try.prog 126 = some 24 := by kernel_rfl
theorem et_41 : ElemT Try.prog 41 126 2 24 := ⟨by kernel_rfl, by kernel_rfl, by kernel_rfl, by kernel_rfl, ⟨.agg [.str ByteArray.empty, .int .i64 0], by kernel_rfl, by kernel_rfl⟩, by decide⟩
@[simp] theorem zt_41 : zeroT Try.prog 41 = some (.lst true 0 []) := by kernel_rfl
@[simp] theorem zr_41 : zeroE Try.prog 41 = some (.lst true 0 []) := by kernel_rfl
@[simp] theorem ld_42 : loadT Try.prog 42 = some (2, true) := by kernel_rfl
@[simp] theorem sz_42 : szT Try.prog 42 = some 2 := by kernel_rfl
@[simp] theorem ag_42 : aggT Try.prog 42 = some true := by kernel_rfl
@[simp] theorem fd_42_0 : fieldT Try.prog 42 0 = some (0, 1, false) := by kernel_rfl
@[simp] theorem fd_42_1 : fieldT Try.prog 42 1 = some (1, 1, false) := by kernel_rfl
@[simp] theorem pl_42 : placesT Try.prog 42 = some [(0, 1), (1, 1)] := by kernel_rfl
@[simp] theorem zt_42 : zeroT Try.prog 42 = some (.agg [.int .i64 0, .lst true 0 []]) := by kernel_rfl
@[simp] theorem zr_42 : zeroE Try.prog 42 = some (.agg [.int .i64 0, .lst true 0 []]) := by kernel_rfl
@[simp] theorem ld_43 : loadT Try.prog 43 = some (2, true) := by kernel_rfl
@[simp] theorem sz_43 : szT Try.prog 43 = some 2 := by kernel_rfl
@[simp] theorem ag_43 : aggT Try.prog 43 = some true := by kernel_rfl
@[simp] theorem fd_43_0 : fieldT Try.prog 43 0 = some (0, 1, false) := by kernel_rfl
@[simp] theorem fd_43_1 : fieldT Try.prog 43 1 = some (1, 1, false) := by kernel_rfl
@[simp] theorem pl_43 : placesT Try.prog 43 = some [(0, 1), (1, 1)] := by kernel_rfl
@[simp] theorem zt_43 : zeroT Try.prog 43 = some (.agg [.int .i64 0, .lst true 0 []]) := by kernel_rfl
@[simp] theorem zr_43 : zeroE Try.prog 43 = some (.agg [.int .i64 0, .lst true 0 []]) := by kernel_rfl
@[simp] theorem ld_45 : loadT Try.prog 45 = some (1, false) := by kernel_rfl
@[simp] theorem sz_45 : szT Try.prog 45 = some 1 := by kernel_rfl
@[simp] theorem ag_45 : aggT Try.prog 45 = some false := by kernel_rfl
@[simp] theorem es_45 : esz Try.prog 45 = some 3 := by kernel_rfl
@[simp] theorem el_45 : elemT Try.prog 45 = some 91 := by kernel_rfl
@[simp] theorem un_45 : Try.prog.underlying 45 = some (.slice 91) := by kernel_rfl
@[simp] theorem ii_45 : isIntT Try.prog 45 = some false := by kernel_rfl
@[simp] theorem by_91 : bytesT Try.prog 91 = some 32 := by kernel_rfl
theorem et_45 : ElemT Try.prog 45 91 3 32 := ⟨by kernel_rfl, by kernel_rfl, by kernel_rfl, by kernel_rfl, ⟨.agg [.str ByteArray.empty, .int .i64 0, .int .i64 0], by kernel_rfl, by kernel_rfl⟩, by decide⟩
@[simp] theorem zt_45 : zeroT Try.prog 45 = some (.lst true 0 []) := by kernel_rfl
@[simp] theorem zr_45 : zeroE Try.prog 45 = some (.lst true 0 []) := by kernel_rfl
@[simp] theorem ld_50 : loadT Try.prog 50 = some (1, false) := by kernel_rfl
@[simp] theorem sz_50 : szT Try.prog 50 = some 1 := by kernel_rfl
@[simp] theorem ag_50 : aggT Try.prog 50 = some false := by kernel_rfl
@[simp] theorem es_50 : esz Try.prog 50 = some 4 := by kernel_rfl
@[simp] theorem el_50 : elemT Try.prog 50 = some 52 := by kernel_rfl
@[simp] theorem un_50 : Try.prog.underlying 50 = some (.slice 52) := by kernel_rfl
@[simp] theorem ii_50 : isIntT Try.prog 50 = some false := by kernel_rfl
@[simp] theorem by_52 : bytesT Try.prog 52 = some 56 := by kernel_rfl
theorem et_50 : ElemT Try.prog 50 52 4 56 := ⟨by kernel_rfl, by kernel_rfl, by kernel_rfl, by kernel_rfl, ⟨.agg [.int .i64 0, .int .i64 0, .str ByteArray.empty, .lst true 0 []], by kernel_rfl, by kernel_rfl⟩, by decide⟩
@[simp] theorem zt_50 : zeroT Try.prog 50 = some (.lst true 0 []) := by kernel_rfl
@[simp] theorem zr_50 : zeroE Try.prog 50 = some (.lst true 0 []) := by kernel_rfl
@[simp] theorem ld_51 : loadT Try.prog 51 = some (4, true) := by kernel_rfl
@[simp] theorem sz_51 : szT Try.prog 51 = some 4 := by kernel_rfl
@[simp] theorem ag_51 : aggT Try.prog 51 = some true := by kernel_rfl
@[simp] theorem fd_51_0 : fieldT Try.prog 51 0 = some (0, 1, false) := by kernel_rfl
@[simp] theorem fd_51_1 : fieldT Try.prog 51 1 = some (1, 1, false) := by kernel_rfl
@[simp] theorem fd_51_2 : fieldT Try.prog 51 2 = some (2, 1, false) := by kernel_rfl
@[simp] theorem fd_51_3 : fieldT Try.prog 51 3 = some (3, 1, false) := by kernel_rfl
@[simp] theorem pl_51 : placesT Try.prog 51 = some [(0, 1), (1, 1), (2, 1), (3, 1)] := by kernel_rfl
@[simp] theorem zt_51 : zeroT Try.prog 51 = some (.agg [.int .i64 0, .int .i64 0, .str ByteArray.empty, .lst true 0 []]) := by kernel_rfl
@[simp] theorem zr_51 : zeroE Try.prog 51 = some (.agg [.int .i64 0, .int .i64 0, .str ByteArray.empty, .lst true 0 []]) := by kernel_rfl
@[simp] theorem ld_52 : loadT Try.prog 52 = some (4, true) := by kernel_rfl
@[simp] theorem sz_52 : szT Try.prog 52 = some 4 := by kernel_rfl
@[simp] theorem ag_52 : aggT Try.prog 52 = some true := by kernel_rfl
@[simp] theorem fd_52_0 : fieldT Try.prog 52 0 = some (0, 1, false) := by kernel_rfl
@[simp] theorem fd_52_1 : fieldT Try.prog 52 1 = some (1, 1, false) := by kernel_rfl
@[simp] theorem fd_52_2 : fieldT Try.prog 52 2 = some (2, 1, false) := by kernel_rfl
@[simp] theorem fd_52_3 : fieldT Try.prog 52 3 = some (3, 1, false) := by kernel_rfl
@[simp] theorem pl_52 : placesT Try.prog 52 = some [(0, 1), (1, 1), (2, 1), (3, 1)] := by kernel_rfl
@[simp] theorem zt_52 : zeroT Try.prog 52 = some (.agg [.int .i64 0, .int .i64 0, .str ByteArray.empty, .lst true 0 []]) := by kernel_rfl
@[simp] theorem zr_52 : zeroE Try.prog 52 = some (.agg [.int .i64 0, .int .i64 0, .str ByteArray.empty, .lst true 0 []]) := by kernel_rfl
@[simp] theorem ld_53 : loadT Try.prog 53 = some (1, false) := by kernel_rfl
@[simp] theorem sz_53 : szT Try.prog 53 = some 1 := by kernel_rfl
@[simp] theorem ag_53 : aggT Try.prog 53 = some false := by kernel_rfl
@[simp] theorem es_53 : esz Try.prog 53 = some 19 := by kernel_rfl
@[simp] theorem el_53 : elemT Try.prog 53 = some 55 := by kernel_rfl
@[simp] theorem un_53 : Try.prog.underlying 53 = some (.slice 55) := by kernel_rfl
@[simp] theorem ii_53 : isIntT Try.prog 53 = some false := by kernel_rfl
@[simp] theorem by_55 : bytesT Try.prog 55 = some 272 := by kernel_rfl
theorem et_53 : ElemT Try.prog 53 55 19 272 := ⟨by kernel_rfl, by kernel_rfl, by kernel_rfl, by kernel_rfl, ⟨.agg [.int .i64 0, .str ByteArray.empty, .int .i64 0, .int .i64 0, .str ByteArray.empty, .lst true 0 [], .int .i64 0, .int .i64 0, .str ByteArray.empty, .lst true 0 [], .int .i64 0, .int .i64 0, .str ByteArray.empty, .lst true 0 [], .int .i64 0, .int .i64 0, .str ByteArray.empty, .lst true 0 [], .lst true 0 []], by kernel_rfl, by kernel_rfl⟩, by decide⟩
@[simp] theorem zt_53 : zeroT Try.prog 53 = some (.lst true 0 []) := by kernel_rfl
@[simp] theorem zr_53 : zeroE Try.prog 53 = some (.lst true 0 []) := by kernel_rfl
@[simp] theorem ld_54 : loadT Try.prog 54 = some (19, true) := by kernel_rfl
@[simp] theorem sz_54 : szT Try.prog 54 = some 19 := by kernel_rfl
@[simp] theorem ag_54 : aggT Try.prog 54 = some true := by kernel_rfl
@[simp] theorem fd_54_0 : fieldT Try.prog 54 0 = some (0, 1, false) := by kernel_rfl
@[simp] theorem fd_54_1 : fieldT Try.prog 54 1 = some (1, 1, false) := by kernel_rfl
@[simp] theorem fd_54_2 : fieldT Try.prog 54 2 = some (2, 4, true) := by kernel_rfl
@[simp] theorem fd_54_3 : fieldT Try.prog 54 3 = some (6, 4, true) := by kernel_rfl
@[simp] theorem fd_54_4 : fieldT Try.prog 54 4 = some (10, 4, true) := by kernel_rfl
@[simp] theorem fd_54_5 : fieldT Try.prog 54 5 = some (14, 4, true) := by kernel_rfl
@[simp] theorem fd_54_6 : fieldT Try.prog 54 6 = some (18, 1, false) := by kernel_rfl
@[simp] theorem pl_54 : placesT Try.prog 54 = some [(0, 1), (1, 1), (2, 4), (6, 4), (10, 4), (14, 4), (18, 1)] := by kernel_rfl
@[simp] theorem zt_54 : zeroT Try.prog 54 = some (.agg [.int .i64 0, .str ByteArray.empty, .int .i64 0, .int .i64 0, .str ByteArray.empty, .lst true 0 [], .int .i64 0, .int .i64 0, .str ByteArray.empty, .lst true 0 [], .int .i64 0, .int .i64 0, .str ByteArray.empty, .lst true 0 [], .int .i64 0, .int .i64 0, .str ByteArray.empty, .lst true 0 [], .lst true 0 []]) := by kernel_rfl
@[simp] theorem zr_54 : zeroE Try.prog 54 = some (.agg [.int .i64 0, .str ByteArray.empty, .int .i64 0, .int .i64 0, .str ByteArray.empty, .lst true 0 [], .int .i64 0, .int .i64 0, .str ByteArray.empty, .lst true 0 [], .int .i64 0, .int .i64 0, .str ByteArray.empty, .lst true 0 [], .int .i64 0, .int .i64 0, .str ByteArray.empty, .lst true 0 [], .lst true 0 []]) := by kernel_rfl
@[simp] theorem ld_55 : loadT Try.prog 55 = some (19, true) := by kernel_rfl
@[simp] theorem sz_55 : szT Try.prog 55 = some 19 := by kernel_rfl
@[simp] theorem ag_55 : aggT Try.prog 55 = some true := by kernel_rfl
@[simp] theorem fd_55_0 : fieldT Try.prog 55 0 = some (0, 1, false) := by kernel_rfl
@[simp] theorem fd_55_1 : fieldT Try.prog 55 1 = some (1, 1, false) := by kernel_rfl
@[simp] theorem fd_55_2 : fieldT Try.prog 55 2 = some (2, 4, true) := by kernel_rfl
@[simp] theorem fd_55_3 : fieldT Try.prog 55 3 = some (6, 4, true) := by kernel_rfl
@[simp] theorem fd_55_4 : fieldT Try.prog 55 4 = some (10, 4, true) := by kernel_rfl
@[simp] theorem fd_55_5 : fieldT Try.prog 55 5 = some (14, 4, true) := by kernel_rfl
@[simp] theorem fd_55_6 : fieldT Try.prog 55 6 = some (18, 1, false) := by kernel_rfl
@[simp] theorem pl_55 : placesT Try.prog 55 = some [(0, 1), (1, 1), (2, 4), (6, 4), (10, 4), (14, 4), (18, 1)] := by kernel_rfl
@[simp] theorem zt_55 : zeroT Try.prog 55 = some (.agg [.int .i64 0, .str ByteArray.empty, .int .i64 0, .int .i64 0, .str ByteArray.empty, .lst true 0 [], .int .i64 0, .int .i64 0, .str ByteArray.empty, .lst true 0 [], .int .i64 0, .int .i64 0, .str ByteArray.empty, .lst true 0 [], .int .i64 0, .int .i64 0, .str ByteArray.empty, .lst true 0 [], .lst true 0 []]) := by kernel_rfl
@[simp] theorem zr_55 : zeroE Try.prog 55 = some (.agg [.int .i64 0, .str ByteArray.empty, .int .i64 0, .int .i64 0, .str ByteArray.empty, .lst true 0 [], .int .i64 0, .int .i64 0, .str ByteArray.empty, .lst true 0 [], .int .i64 0, .int .i64 0, .str ByteArray.empty, .lst true 0 [], .int .i64 0, .int .i64 0, .str ByteArray.empty, .lst true 0 [], .lst true 0 []]) := by kernel_rfl
@[simp] theorem ld_57 : loadT Try.prog 57 = some (1, false) := by kernel_rfl
@[simp] theorem sz_57 : szT Try.prog 57 = some 1 := by kernel_rfl
@[simp] theorem ag_57 : aggT Try.prog 57 = some false := by kernel_rfl
@[simp] theorem es_57 : esz Try.prog 57 = some 1 := by kernel_rfl
@[simp] theorem el_57 : elemT Try.prog 57 = some 9 := by kernel_rfl
@[simp] theorem un_57 : Try.prog.underlying 57 = some (.slice 9) := by kernel_rfl
@[simp] theorem ii_57 : isIntT Try.prog 57 = some false := by kernel_rfl
@[simp] theorem by_9 : bytesT Try.prog 9 = some 16 := by kernel_rfl
theorem et_57 : ElemT Try.prog 57 9 1 16 := ⟨by kernel_rfl, by kernel_rfl, by kernel_rfl, by kernel_rfl, ⟨.str ByteArray.empty, by kernel_rfl, by kernel_rfl⟩, by decide⟩
@[simp] theorem zt_57 : zeroT Try.prog 57 = some (.lst true 0 []) := by kernel_rfl
@[simp] theorem zr_57 : zeroE Try.prog 57 = some (.lst true 0 []) := by kernel_rfl
@[simp] theorem ld_59 : loadT Try.prog 59 = some (1, false) := by kernel_rfl
@[simp] theorem sz_59 : szT Try.prog 59 = some 1 := by kernel_rfl
@[simp] theorem ag_59 : aggT Try.prog 59 = some false := by kernel_rfl
@[simp] theorem es_59 : esz Try.prog 59 = some 4 := by kernel_rfl
@[simp] theorem el_59 : elemT Try.prog 59 = some 61 := by kernel_rfl
@[simp] theorem un_59 : Try.prog.underlying 59 = some (.slice 61) := by kernel_rfl
@[simp] theorem ii_59 : isIntT Try.prog 59 = some false := by kernel_rfl
@[simp] theorem by_61 : bytesT Try.prog 61 = some 56 := by kernel_rfl
theorem et_59 : ElemT Try.prog 59 61 4 56 := ⟨by kernel_rfl, by kernel_rfl, by kernel_rfl, by kernel_rfl, ⟨.agg [.int .i64 0, .int .i64 0, .str ByteArray.empty, .lst true 0 []], by kernel_rfl, by kernel_rfl⟩, by decide⟩
@[simp] theorem zt_59 : zeroT Try.prog 59 = some (.lst true 0 []) := by kernel_rfl
@[simp] theorem zr_59 : zeroE Try.prog 59 = some (.lst true 0 []) := by kernel_rfl
@[simp] theorem ld_60 : loadT Try.prog 60 = some (4, true) := by kernel_rfl
@[simp] theorem sz_60 : szT Try.prog 60 = some 4 := by kernel_rfl
@[simp] theorem ag_60 : aggT Try.prog 60 = some true := by kernel_rfl
@[simp] theorem fd_60_0 : fieldT Try.prog 60 0 = some (0, 1, false) := by kernel_rfl
@[simp] theorem fd_60_1 : fieldT Try.prog 60 1 = some (1, 1, false) := by kernel_rfl
@[simp] theorem fd_60_2 : fieldT Try.prog 60 2 = some (2, 1, false) := by kernel_rfl
@[simp] theorem fd_60_3 : fieldT Try.prog 60 3 = some (3, 1, false) := by kernel_rfl
@[simp] theorem pl_60 : placesT Try.prog 60 = some [(0, 1), (1, 1), (2, 1), (3, 1)] := by kernel_rfl
@[simp] theorem zt_60 : zeroT Try.prog 60 = some (.agg [.int .i64 0, .int .i64 0, .str ByteArray.empty, .lst true 0 []]) := by kernel_rfl
@[simp] theorem zr_60 : zeroE Try.prog 60 = some (.agg [.int .i64 0, .int .i64 0, .str ByteArray.empty, .lst true 0 []]) := by kernel_rfl
@[simp] theorem ld_61 : loadT Try.prog 61 = some (4, true) := by kernel_rfl
@[simp] theorem sz_61 : szT Try.prog 61 = some 4 := by kernel_rfl
@[simp] theorem ag_61 : aggT Try.prog 61 = some true := by kernel_rfl
@[simp] theorem fd_61_0 : fieldT Try.prog 61 0 = some (0, 1, false) := by kernel_rfl
@[simp] theorem fd_61_1 : fieldT Try.prog 61 1 = some (1, 1, false) := by kernel_rfl
@[simp] theorem fd_61_2 : fieldT Try.prog 61 2 = some (2, 1, false) := by kernel_rfl
@[simp] theorem fd_61_3 : fieldT Try.prog 61 3 = some (3, 1, false) := by kernel_rfl
@[simp] theorem pl_61 : placesT Try.prog 61 = some [(0, 1), (1, 1), (2, 1), (3, 1)] := by kernel_rfl
@[simp] theorem zt_61 : zeroT Try.prog 61 = some (.agg [.int .i64 0, .int .i64 0, .str ByteArray.empty, .lst true 0 []]) := by kernel_rfl
@[simp] theorem zr_61 : zeroE Try.prog 61 = some (.agg [.int .i64 0, .int .i64 0, .str ByteArray.empty, .lst true 0 []]) := by kernel_rfl
@[simp] theorem ld_62 : loadT Try.prog 62 = some (1, false) := by kernel_rfl
@[simp] theorem sz_62 : szT Try.prog 62 = some 1 := by kernel_rfl
@[simp] theorem ag_62 : aggT Try.prog 62 = some false := by kernel_rfl
@[simp] theorem es_62 : esz Try.prog 62 = some 19 := by kernel_rfl
@[simp] theorem el_62 : elemT Try.prog 62 = some 64 := by kernel_rfl
@[simp] theorem un_62 : Try.prog.underlying 62 = some (.slice 64) := by kernel_rfl
@[simp] theorem ii_62 : isIntT Try.prog 62 = some false := by kernel_rfl
@[simp] theorem by_64 : bytesT Try.prog 64 = some 272 := by kernel_rfl
theorem et_62 : ElemT Try.prog 62 64 19 272 := ⟨by kernel_rfl, by kernel_rfl, by kernel_rfl, by kernel_rfl, ⟨.agg [.int .i64 0, .str ByteArray.empty, .int .i64 0, .int .i64 0, .str ByteArray.empty, .lst true 0 [], .int .i64 0, .int .i64 0, .str ByteArray.empty, .lst true 0 [], .int .i64 0, .int .i64 0, .str ByteArray.empty, .lst true 0 [], .int .i64 0, .int .i64 0, .str ByteArray.empty, .lst true 0 [], .lst true 0 []], by kernel_rfl, by kernel_rfl⟩, by decide⟩
@[simp] theorem zt_62 : zeroT Try.prog 62 = some (.lst true 0 []) := by kernel_rfl
@[simp] theorem zr_62 : zeroE Try.prog 62 = some (.lst true 0 []) := by kernel_rfl
@[simp] theorem ld_63 : loadT Try.prog 63 = some (19, true) := by kernel_rfl
@[simp] theorem sz_63 : szT Try.prog 63 = some 19 := by kernel_rfl
@[simp] theorem ag_63 : aggT Try.prog 63 = some true := by kernel_rfl
@[simp] theorem fd_63_0 : fieldT Try.prog 63 0 = some (0, 1, false) := by kernel_rfl
@[simp] theorem fd_63_1 : fieldT Try.prog 63 1 = some (1, 1, false) := by kernel_rfl
@[simp] theorem fd_63_2 : fieldT Try.prog 63 2 = some (2, 4, true) := by kernel_rfl
@[simp] theorem fd_63_3 : fieldT Try.prog 63 3 = some (6, 4, true) := by kernel_rfl
@[simp] theorem fd_63_4 : fieldT Try.prog 63 4 = some (10, 4, true) := by kernel_rfl
@[simp] theorem fd_63_5 : fieldT Try.prog 63 5 = some (14, 4, true) := by kernel_rfl
@[simp] theorem fd_63_6 : fieldT Try.prog 63 6 = some (18, 1, false) := by kernel_rfl
@[simp] theorem pl_63 : placesT Try.prog 63 = some [(0, 1), (1, 1), (2, 4), (6, 4), (10, 4), (14, 4), (18, 1)] := by kernel_rfl
@[simp] theorem zt_63 : zeroT Try.prog 63 = some (.agg [.int .i64 0, .str ByteArray.empty, .int .i64 0, .int .i64 0, .str ByteArray.empty, .lst true 0 [], .int .i64 0, .int .i64 0, .str ByteArray.empty, .lst true 0 [], .int .i64 0, .int .i64 0, .str ByteArray.empty, .lst true 0 [], .int .i64 0, .int .i64 0, .str ByteArray.empty, .lst true 0 [], .lst true 0 []]) := by kernel_rfl
@[simp] theorem zr_63 : zeroE Try.prog 63 = some (.agg [.int .i64 0, .str ByteArray.empty, .int .i64 0, .int .i64 0, .str ByteArray.empty, .lst true 0 [], .int .i64 0, .int .i64 0, .str ByteArray.empty, .lst true 0 [], .int .i64 0, .int .i64 0, .str ByteArray.empty, .lst true 0 [], .int .i64 0, .int .i64 0, .str ByteArray.empty, .lst true 0 [], .lst true 0 []]) := by kernel_rfl
@[simp] theorem ld_64 : loadT Try.prog 64 = some (19, true) := by kernel_rfl
@[simp] theorem sz_64 : szT Try.prog 64 = some 19 := by kernel_rfl
@[simp] theorem ag_64 : aggT Try.prog 64 = some true := by kernel_rfl
@[simp] theorem fd_64_0 : fieldT Try.prog 64 0 = some (0, 1, false) := by kernel_rfl
@[simp] theorem fd_64_1 : fieldT Try.prog 64 1 = some (1, 1, false) := by kernel_rfl
@[simp] theorem fd_64_2 : fieldT Try.prog 64 2 = some (2, 4, true) := by kernel_rfl
@[simp] theorem fd_64_3 : fieldT Try.prog 64 3 = some (6, 4, true) := by kernel_rfl
@[simp] theorem fd_64_4 : fieldT Try.prog 64 4 = some (10, 4, true) := by kernel_rfl
@[simp] theorem fd_64_5 : fieldT Try.prog 64 5 = some (14, 4, true) := by kernel_rfl
@[simp] theorem fd_64_6 : fieldT Try.prog 64 6 = some (18, 1, false) := by kernel_rfl
@[simp] theorem pl_64 : placesT Try.prog 64 = some [(0, 1), (1, 1), (2, 4), (6, 4), (10, 4), (14, 4), (18, 1)] := by kernel_rfl
@[simp] theorem zt_64 : zeroT Try.prog 64 = some (.agg [.int .i64 0, .str ByteArray.empty, .int .i64 0, .int .i64 0, .str ByteArray.empty, .lst true 0 [], .int .i64 0, .int .i64 0, .str ByteArray.empty, .lst true 0 [], .int .i64 0, .int .i64 0, .str ByteArray.empty, .lst true 0 [], .int .i64 0, .int .i64 0, .str ByteArray.empty, .lst true 0 [], .lst true 0 []]) := by kernel_rfl
@[simp] theorem zr_64 : zeroE Try.prog 64 = some (.agg [.int .i64 0, .str ByteArray.empty, .int .i64 0, .int .i64 0, .str ByteArray.empty, .lst true 0 [], .int .i64 0, .int .i64 0, .str ByteArray.empty, .lst true 0 [], .int .i64 0, .int .i64 0, .str ByteArray.empty, .lst true 0 [], .int .i64 0, .int .i64 0, .str ByteArray.empty, .lst true 0 [], .lst true 0 []]) := by kernel_rfl
@[simp] theorem ld_75 : loadT Try.prog 75 = some (1, false) := by kernel_rfl
@[simp] theorem sz_75 : szT Try.prog 75 = some 1 := by kernel_rfl
@[simp] theorem ag_75 : aggT Try.prog 75 = some false := by kernel_rfl
@[simp] theorem un_75 : Try.prog.underlying 75 = some (.pointer 30) := by kernel_rfl
@[simp] theorem zt_75 : zeroT Try.prog 75 = some (.nilp) := by kernel_rfl
@[simp] theorem zr_75 : zeroE Try.prog 75 = some (.nilp) := by kernel_rfl
@[simp] theorem ld_83 : loadT Try.prog 83 = some (3, true) := by kernel_rfl
@[simp] theorem sz_83 : szT Try.prog 83 = some 3 := by kernel_rfl
@[simp] theorem ag_83 : aggT Try.prog 83 = some true := by kernel_rfl
@[simp] theorem fd_83_0 : fieldT Try.prog 83 0 = some (0, 1, false) := by kernel_rfl
@[simp] theorem fd_83_1 : fieldT Try.prog 83 1 = some (1, 1, false) := by kernel_rfl
@[simp] theorem fd_83_2 : fieldT Try.prog 83 2 = some (2, 1, false) := by kernel_rfl
@[simp] theorem pl_83 : placesT Try.prog 83 = some [(0, 1), (1, 1), (2, 1)] := by kernel_rfl
@[simp] theorem zt_83 : zeroT Try.prog 83 = some (.agg [.str ByteArray.empty, .int .i64 0, .int .i64 0]) := by kernel_rfl
@[simp] theorem zr_83 : zeroE Try.prog 83 = some (.agg [.str ByteArray.empty, .int .i64 0, .int .i64 0]) := by kernel_rfl
@[simp] theorem ld_84 : loadT Try.prog 84 = some (3, true) := by kernel_rfl
@[simp] theorem sz_84 : szT Try.prog 84 = some 3 := by kernel_rfl
@[simp] theorem ag_84 : aggT Try.prog 84 = some true := by kernel_rfl
@[simp] theorem fd_84_0 : fieldT Try.prog 84 0 = some (0, 1, false) := by kernel_rfl
@[simp] theorem fd_84_1 : fieldT Try.prog 84 1 = some (1, 1, false) := by kernel_rfl
@[simp] theorem fd_84_2 : fieldT Try.prog 84 2 = some (2, 1, false) := by kernel_rfl
@[simp] theorem pl_84 : placesT Try.prog 84 = some [(0, 1), (1, 1), (2, 1)] := by kernel_rfl
@[simp] theorem zt_84 : zeroT Try.prog 84 = some (.agg [.str ByteArray.empty, .int .i64 0, .int .i64 0]) := by kernel_rfl
@[simp] theorem zr_84 : zeroE Try.prog 84 = some (.agg [.str ByteArray.empty, .int .i64 0, .int .i64 0]) := by kernel_rfl
@[simp] theorem ld_89 : loadT Try.prog 89 = some (1, false) := by kernel_rfl
@[simp] theorem sz_89 : szT Try.prog 89 = some 1 := by kernel_rfl
@[simp] theorem ag_89 : aggT Try.prog 89 = some false := by kernel_rfl
@[simp] theorem ld_91 : loadT Try.prog 91 = some (3, true) := by kernel_rfl
@[simp] theorem sz_91 : szT Try.prog 91 = some 3 := by kernel_rfl
@[simp] theorem ag_91 : aggT Try.prog 91 = some true := by kernel_rfl
@[simp] theorem fd_91_0 : fieldT Try.prog 91 0 = some (0, 1, false) := by kernel_rfl
@[simp] theorem fd_91_1 : fieldT Try.prog 91 1 = some (1, 1, false) := by kernel_rfl
@[simp] theorem fd_91_2 : fieldT Try.prog 91 2 = some (2, 1, false) := by kernel_rfl
@[simp] theorem pl_91 : placesT Try.prog 91 = some [(0, 1), (1, 1), (2, 1)] := by kernel_rfl
@[simp] theorem zt_91 : zeroT Try.prog 91 = some (.agg [.str ByteArray.empty, .int .i64 0, .int .i64 0]) := by kernel_rfl
@[simp] theorem zr_91 : zeroE Try.prog 91 = some (.agg [.str ByteArray.empty, .int .i64 0, .int .i64 0]) := by kernel_rfl
@[simp] theorem ld_94 : loadT Try.prog 94 = some (1, false) := by kernel_rfl
@[simp] theorem sz_94 : szT Try.prog 94 = some 1 := by kernel_rfl
@[simp] theorem ag_94 : aggT Try.prog 94 = some false := by kernel_rfl
@[simp] theorem ld_112 : loadT Try.prog 112 = some (1, false) := by kernel_rfl
@[simp] theorem sz_112 : szT Try.prog 112 = some 1 := by kernel_rfl
@[simp] theorem ag_112 : aggT Try.prog 112 = some false := by kernel_rfl
@[simp] theorem es_112 : esz Try.prog 112 = some 2 := by kernel_rfl
@[simp] theorem el_112 : elemT Try.prog 112 = some 158 := by kernel_rfl
@[simp] theorem un_112 : Try.prog.underlying 112 = some (.slice 158) := by kernel_rfl
@[simp] theorem ii_112 : isIntT Try.prog 112 = some false := by kernel_rfl
@[simp] theorem by_158 : bytesT Try.prog 158 = some 16 := by kernel_rfl
theorem et_112 : ElemT Try.prog 112 158 2 16 := ⟨by kernel_rfl, by kernel_rfl, by kernel_rfl, by kernel_rfl, ⟨.agg [.int .i64 0, .int .i64 0], by kernel_rfl, by kernel_rfl⟩, by decide⟩
@[simp] theorem zt_112 : zeroT Try.prog 112 = some (.lst true 0 []) := by kernel_rfl
@[simp] theorem zr_112 : zeroE Try.prog 112 = some (.lst true 0 []) := by kernel_rfl
@[simp] theorem ld_113 : loadT Try.prog 113 = some (6, true) := by kernel_rfl
@[simp] theorem sz_113 : szT Try.prog 113 = some 6 := by kernel_rfl
@[simp] theorem ag_113 : aggT Try.prog 113 = some true := by kernel_rfl
@[simp] theorem fd_113_0 : fieldT Try.prog 113 0 = some (0, 1, false) := by kernel_rfl
@[simp] theorem fd_113_1 : fieldT Try.prog 113 1 = some (1, 1, false) := by kernel_rfl
@[simp] theorem fd_113_2 : fieldT Try.prog 113 2 = some (2, 1, false) := by kernel_rfl
@[simp] theorem fd_113_3 : fieldT Try.prog 113 3 = some (3, 1, false) := by kernel_rfl
@[simp] theorem fd_113_4 : fieldT Try.prog 113 4 = some (4, 1, false) := by kernel_rfl
@[simp] theorem fd_113_5 : fieldT Try.prog 113 5 = some (5, 1, false) := by kernel_rfl
@[simp] theorem pl_113 : placesT Try.prog 113 = some [(0, 1), (1, 1), (2, 1), (3, 1), (4, 1), (5, 1)] := by kernel_rfl
@[simp] theorem zt_113 : zeroT Try.prog 113 = some (.agg [.int .i64 0, .lst true 0 [], .lst true 0 [], .lst true 0 [], .bool false, .bool false]) := by kernel_rfl
@[simp] theorem zr_113 : zeroE Try.prog 113 = some (.agg [.int .i64 0, .lst true 0 [], .lst true 0 [], .lst true 0 [], .bool false, .bool false]) := by kernel_rfl
@[simp] theorem ld_114 : loadT Try.prog 114 = some (6, true) := by kernel_rfl
@[simp] theorem sz_114 : szT Try.prog 114 = some 6 := by kernel_rfl
@[simp] theorem ag_114 : aggT Try.prog 114 = some true := by kernel_rfl
@[simp] theorem fd_114_0 : fieldT Try.prog 114 0 = some (0, 1, false) := by kernel_rfl
@[simp] theorem fd_114_1 : fieldT Try.prog 114 1 = some (1, 1, false) := by kernel_rfl
@[simp] theorem fd_114_2 : fieldT Try.prog 114 2 = some (2, 1, false) := by kernel_rfl
@[simp] theorem fd_114_3 : fieldT Try.prog 114 3 = some (3, 1, false) := by kernel_rfl
@[simp] theorem fd_114_4 : fieldT Try.prog 114 4 = some (4, 1, false) := by kernel_rfl
@[simp] theorem fd_114_5 : fieldT Try.prog 114 5 = some (5, 1, false) := by kernel_rfl
@[simp] theorem pl_114 : placesT Try.prog 114 = some [(0, 1), (1, 1), (2, 1), (3, 1), (4, 1), (5, 1)] := by kernel_rfl
@[simp] theorem zt_114 : zeroT Try.prog 114 = some (.agg [.int .i64 0, .lst true 0 [], .lst true 0 [], .lst true 0 [], .bool false, .bool false]) := by kernel_rfl
@[simp] theorem zr_114 : zeroE Try.prog 114 = some (.agg [.int .i64 0, .lst true 0 [], .lst true 0 [], .lst true 0 [], .bool false, .bool false]) := by kernel_rfl
@[simp] theorem ld_115 : loadT Try.prog 115 = some (1, false) := by kernel_rfl
@[simp] theorem sz_115 : szT Try.prog 115 = some 1 := by kernel_rfl
@[simp] theorem ag_115 : aggT Try.prog 115 = some false := by kernel_rfl
@[simp] theorem es_115 : esz Try.prog 115 = some 2 := by kernel_rfl
@[simp] theorem el_115 : elemT Try.prog 115 = some 119 := by kernel_rfl
@[simp] theorem un_115 : Try.prog.underlying 115 = some (.slice 119) := by kernel_rfl
@[simp] theorem ii_115 : isIntT Try.prog 115 = some false := by kernel_rfl
@[simp] theorem by_119 : bytesT Try.prog 119 = some 16 := by kernel_rfl
theorem et_115 : ElemT Try.prog 115 119 2 16 := ⟨by kernel_rfl, by kernel_rfl, by kernel_rfl, by kernel_rfl, ⟨.agg [.int .i64 0, .int .i64 0], by kernel_rfl, by kernel_rfl⟩, by decide⟩
@[simp] theorem zt_115 : zeroT Try.prog 115 = some (.lst true 0 []) := by kernel_rfl
@[simp] theorem zr_115 : zeroE Try.prog 115 = some (.lst true 0 []) := by kernel_rfl
@[simp] theorem ld_116 : loadT Try.prog 116 = some (6, true) := by kernel_rfl
@[simp] theorem sz_116 : szT Try.prog 116 = some 6 := by kernel_rfl
@[simp] theorem ag_116 : aggT Try.prog 116 = some true := by kernel_rfl
@[simp] theorem fd_116_0 : fieldT Try.prog 116 0 = some (0, 1, false) := by kernel_rfl
@[simp] theorem fd_116_1 : fieldT Try.prog 116 1 = some (1, 1, false) := by kernel_rfl
@[simp] theorem fd_116_2 : fieldT Try.prog 116 2 = some (2, 1, false) := by kernel_rfl
@[simp] theorem fd_116_3 : fieldT Try.prog 116 3 = some (3, 1, false) := by kernel_rfl
@[simp] theorem fd_116_4 : fieldT Try.prog 116 4 = some (4, 1, false) := by kernel_rfl
@[simp] theorem fd_116_5 : fieldT Try.prog 116 5 = some (5, 1, false) := by kernel_rfl
@[simp] theorem pl_116 : placesT Try.prog 116 = some [(0, 1), (1, 1), (2, 1), (3, 1), (4, 1), (5, 1)] := by kernel_rfl
@[simp] theorem zt_116 : zeroT Try.prog 116 = some (.agg [.int .i64 0, .lst true 0 [], .lst true 0 [], .lst true 0 [], .bool false, .bool false]) := by kernel_rfl
@[simp] theorem zr_116 : zeroE Try.prog 116 = some (.agg [.int .i64 0, .lst true 0 [], .lst true 0 [], .lst true 0 [], .bool false, .bool false]) := by kernel_rfl
@[simp] theorem ld_117 : loadT Try.prog 117 = some (6, true) := by kernel_rfl
@[simp] theorem sz_117 : szT Try.prog 117 = some 6 := by kernel_rfl
@[simp] theorem ag_117 : aggT Try.prog 117 = some true := by kernel_rfl
@[simp] theorem fd_117_0 : fieldT Try.prog 117 0 = some (0, 1, false) := by kernel_rfl
@[simp] theorem fd_117_1 : fieldT Try.prog 117 1 = some (1, 1, false) := by kernel_rfl
@[simp] theorem fd_117_2 : fieldT Try.prog 117 2 = some (2, 1, false) := by kernel_rfl
@[simp] theorem fd_117_3 : fieldT Try.prog 117 3 = some (3, 1, false) := by kernel_rfl
@[simp] theorem fd_117_4 : fieldT Try.prog 117 4 = some (4, 1, false) := by kernel_rfl
@[simp] theorem fd_117_5 : fieldT Try.prog 117 5 = some (5, 1, false) := by kernel_rfl
@[simp] theorem pl_117 : placesT Try.prog 117 = some [(0, 1), (1, 1), (2, 1), (3, 1), (4, 1), (5, 1)] := by kernel_rfl
@[simp] theorem zt_117 : zeroT Try.prog 117 = some (.agg [.int .i64 0, .lst true 0 [], .lst true 0 [], .lst true 0 [], .bool false, .bool false]) := by kernel_rfl
@[simp] theorem zr_117 : zeroE Try.prog 117 = some (.agg [.int .i64 0, .lst true 0 [], .lst true 0 [], .lst true 0 [], .bool false, .bool false]) := by kernel_rfl
@[simp] theorem ld_118 : loadT Try.prog 118 = some (2, true) := by kernel_rfl
@[simp] theorem sz_118 : szT Try.prog 118 = some 2 := by kernel_rfl
@[simp] theorem ag_118 : aggT Try.prog 118 = some true := by kernel_rfl
@[simp] theorem fd_118_0 : fieldT Try.prog 118 0 = some (0, 1, false) := by kernel_rfl
@[simp] theorem fd_118_1 : fieldT Try.prog 118 1 = some (1, 1, false) := by kernel_rfl
@[simp] theorem pl_118 : placesT Try.prog 118 = some [(0, 1), (1, 1)] := by kernel_rfl
@[simp] theorem zt_118 : zeroT Try.prog 118 = some (.agg [.int .i64 0, .int .i64 0]) := by kernel_rfl
@[simp] theorem zr_118 : zeroE Try.prog 118 = some (.agg [.int .i64 0, .int .i64 0]) := by kernel_rfl
@[simp] theorem ld_119 : loadT Try.prog 119 = some (2, true) := by kernel_rfl
@[simp] theorem sz_119 : szT Try.prog 119 = some 2 := by kernel_rfl
@[simp] theorem ag_119 : aggT Try.prog 119 = some true := by kernel_rfl
@[simp] theorem fd_119_0 : fieldT Try.prog 119 0 = some (0, 1, false) := by kernel_rfl
@[simp] theorem fd_119_1 : fieldT Try.prog 119 1 = some (1, 1, false) := by kernel_rfl
@[simp] theorem pl_119 : placesT Try.prog 119 = some [(0, 1), (1, 1)] := by kernel_rfl
@[simp] theorem zt_119 : zeroT Try.prog 119 = some (.agg [.int .i64 0, .int .i64 0]) := by kernel_rfl
@[simp] theorem zr_119 : zeroE Try.prog 119 = some (.agg [.int .i64 0, .int .i64 0]) := by kernel_rfl
@[simp] theorem ld_123 : loadT Try.prog 123 = some (2, true) := by kernel_rfl
@[simp] theorem sz_123 : szT Try.prog 123 = some 2 := by kernel_rfl
@[simp] theorem ag_123 : aggT Try.prog 123 = some true := by kernel_rfl
@[simp] theorem fd_123_0 : fieldT Try.prog 123 0 = some (0, 1, false) := by kernel_rfl
@[simp] theorem fd_123_1 : fieldT Try.prog 123 1 = some (1, 1, false) := by kernel_rfl
@[simp] theorem pl_123 : placesT Try.prog 123 = some [(0, 1), (1, 1)] := by kernel_rfl
@[simp] theorem zt_123 : zeroT Try.prog 123 = some (.agg [.str ByteArray.empty, .int .i64 0]) := by kernel_rfl
@[simp] theorem zr_123 : zeroE Try.prog 123 = some (.agg [.str ByteArray.empty, .int .i64 0]) := by kernel_rfl
@[simp] theorem ld_124 : loadT Try.prog 124 = some (2, true) := by kernel_rfl
@[simp] theorem sz_124 : szT Try.prog 124 = some 2 := by kernel_rfl
@[simp] theorem ag_124 : aggT Try.prog 124 = some true := by kernel_rfl
@[simp] theorem fd_124_0 : fieldT Try.prog 124 0 = some (0, 1, false) := by kernel_rfl
@[simp] theorem fd_124_1 : fieldT Try.prog 124 1 = some (1, 1, false) := by kernel_rfl
@[simp] theorem pl_124 : placesT Try.prog 124 = some [(0, 1), (1, 1)] := by kernel_rfl
@[simp] theorem zt_124 : zeroT Try.prog 124 = some (.agg [.str ByteArray.empty, .int .i64 0]) := by kernel_rfl
@[simp] theorem zr_124 : zeroE Try.prog 124 = some (.agg [.str ByteArray.empty, .int .i64 0]) := by kernel_rfl
@[simp] theorem ld_126 : loadT Try.prog 126 = some (2, true) := by kernel_rfl
@[simp] theorem sz_126 : szT Try.prog 126 = some 2 := by kernel_rfl
@[simp] theorem ag_126 : aggT Try.prog 126 = some true := by kernel_rfl
@[simp] theorem fd_126_0 : fieldT Try.prog 126 0 = some (0, 1, false) := by kernel_rfl
@[simp] theorem fd_126_1 : fieldT Try.prog 126 1 = some (1, 1, false) := by kernel_rfl
@[simp] theorem pl_126 : placesT Try.prog 126 = some [(0, 1), (1, 1)] := by kernel_rfl
@[simp] theorem zt_126 : zeroT Try.prog 126 = some (.agg [.str ByteArray.empty, .int .i64 0]) := by kernel_rfl
@[simp] theorem zr_126 : zeroE Try.prog 126 = some (.agg [.str ByteArray.empty, .int .i64 0]) := by kernel_rfl
@[simp] theorem ld_136 : loadT Try.prog 136 = some (1, false) := by kernel_rfl
@[simp] theorem sz_136 : szT Try.prog 136 = some 1 := by kernel_rfl
@[simp] theorem ag_136 : aggT Try.prog 136 = some false := by kernel_rfl
@[simp] theorem ld_143 : loadT Try.prog 143 = some (1, false) := by kernel_rfl
@[simp] theorem sz_143 : szT Try.prog 143 = some 1 := by kernel_rfl
@[simp] theorem ag_143 : aggT Try.prog 143 = some false := by kernel_rfl
@[simp] theorem es_143 : esz Try.prog 143 = some 1 := by kernel_rfl
@[simp] theorem el_143 : elemT Try.prog 143 = some 5 := by kernel_rfl
@[simp] theorem un_143 : Try.prog.underlying 143 = some (.slice 5) := by kernel_rfl
@[simp] theorem ii_143 : isIntT Try.prog 143 = some false := by kernel_rfl
@[simp] theorem by_5 : bytesT Try.prog 5 = some 1 := by kernel_rfl
theorem et_143 : ElemT Try.prog 143 5 1 1 := ⟨by kernel_rfl, by kernel_rfl, by kernel_rfl, by kernel_rfl, ⟨.int .u8 0, by kernel_rfl, by kernel_rfl⟩, by decide⟩
@[simp] theorem zt_143 : zeroT Try.prog 143 = some (.lst true 0 []) := by kernel_rfl
@[simp] theorem zr_143 : zeroE Try.prog 143 = some (.lst true 0 []) := by kernel_rfl
@[simp] theorem ld_149 : loadT Try.prog 149 = some (1, false) := by kernel_rfl
@[simp] theorem sz_149 : szT Try.prog 149 = some 1 := by kernel_rfl
@[simp] theorem ag_149 : aggT Try.prog 149 = some false := by kernel_rfl
@[simp] theorem es_149 : esz Try.prog 149 = some 1 := by kernel_rfl
@[simp] theorem el_149 : elemT Try.prog 149 = some 41 := by kernel_rfl
@[simp] theorem un_149 : Try.prog.underlying 149 = some (.slice 41) := by kernel_rfl
@[simp] theorem ii_149 : isIntT Try.prog 149 = some false := by kernel_rfl
@[simp] theorem by_41 : bytesT Try.prog 41 = some 24 := by kernel_rfl
theorem et_149 : ElemT Try.prog 149 41 1 24 := ⟨by kernel_rfl, by kernel_rfl, by kernel_rfl, by kernel_rfl, ⟨.lst true 0 [], by kernel_rfl, by kernel_rfl⟩, by decide⟩
@[simp] theorem zt_149 : zeroT Try.prog 149 = some (.lst true 0 []) := by kernel_rfl
@[simp] theorem zr_149 : zeroE Try.prog 149 = some (.lst true 0 []) := by kernel_rfl
@[simp] theorem ld_158 : loadT Try.prog 158 = some (2, true) := by kernel_rfl
@[simp] theorem sz_158 : szT Try.prog 158 = some 2 := by kernel_rfl
@[simp] theorem ag_158 : aggT Try.prog 158 = some true := by kernel_rfl
@[simp] theorem fd_158_0 : fieldT Try.prog 158 0 = some (0, 1, false) := by kernel_rfl
@[simp] theorem fd_158_1 : fieldT Try.prog 158 1 = some (1, 1, false) := by kernel_rfl
@[simp] theorem pl_158 : placesT Try.prog 158 = some [(0, 1), (1, 1)] := by kernel_rfl
@[simp] theorem zt_158 : zeroT Try.prog 158 = some (.agg [.int .i64 0, .int .i64 0]) := by kernel_rfl
@[simp] theorem zr_158 : zeroE Try.prog 158 = some (.agg [.int .i64 0, .int .i64 0]) := by kernel_rfl
@[simp] theorem ld_164 : loadT Try.prog 164 = some (16, true) := by kernel_rfl
@[simp] theorem sz_164 : szT Try.prog 164 = some 16 := by kernel_rfl
@[simp] theorem ag_164 : aggT Try.prog 164 = some true := by kernel_rfl
@[simp] theorem un_164 : Try.prog.underlying 164 = some (.array 4 61) := by kernel_rfl
@[simp] theorem pl_164 : placesT Try.prog 164 = some [(0, 4), (4, 4), (8, 4), (12, 4)] := by kernel_rfl
@[simp] theorem zt_164 : zeroT Try.prog 164 = some (.agg [.int .i64 0, .int .i64 0, .str ByteArray.empty, .lst true 0 [], .int .i64 0, .int .i64 0, .str ByteArray.empty, .lst true 0 [], .int .i64 0, .int .i64 0, .str ByteArray.empty, .lst true 0 [], .int .i64 0, .int .i64 0, .str ByteArray.empty, .lst true 0 []]) := by kernel_rfl
@[simp] theorem zr_164 : zeroE Try.prog 164 = some (.agg [.int .i64 0, .int .i64 0, .str ByteArray.empty, .lst true 0 [], .int .i64 0, .int .i64 0, .str ByteArray.empty, .lst true 0 [], .int .i64 0, .int .i64 0, .str ByteArray.empty, .lst true 0 [], .int .i64 0, .int .i64 0, .str ByteArray.empty, .lst true 0 []]) := by kernel_rfl
@[simp] theorem ld_172 : loadT Try.prog 172 = some (1, false) := by kernel_rfl
@[simp] theorem sz_172 : szT Try.prog 172 = some 1 := by kernel_rfl
@[simp] theorem ag_172 : aggT Try.prog 172 = some false := by kernel_rfl
@[simp] theorem un_172 : Try.prog.underlying 172 = some (.int .u64) := by kernel_rfl
@[simp] theorem zt_172 : zeroT Try.prog 172 = some (.int .u64 0) := by kernel_rfl
@[simp] theorem zr_172 : zeroE Try.prog 172 = some (.int .u64 0) := by kernel_rfl
@[simp] theorem ld_174 : loadT Try.prog 174 = some (1, false) := by kernel_rfl
@[simp] theorem sz_174 : szT Try.prog 174 = some 1 := by kernel_rfl
@[simp] theorem ag_174 : aggT Try.prog 174 = some false := by kernel_rfl
@[simp] theorem ld_175 : loadT Try.prog 175 = some (1, false) := by kernel_rfl
@[simp] theorem sz_175 : szT Try.prog 175 = some 1 := by kernel_rfl
@[simp] theorem ag_175 : aggT Try.prog 175 = some false := by kernel_rfl
@[simp] theorem ld_182 : loadT Try.prog 182 = some (1, false) := by kernel_rfl
@[simp] theorem sz_182 : szT Try.prog 182 = some 1 := by kernel_rfl
@[simp] theorem ag_182 : aggT Try.prog 182 = some false := by kernel_rfl
@[simp] theorem un_182 : Try.prog.underlying 182 = some (.int .u32) := by kernel_rfl
@[simp] theorem zt_182 : zeroT Try.prog 182 = some (.int .u32 0) := by kernel_rfl
@[simp] theorem zr_182 : zeroE Try.prog 182 = some (.int .u32 0) := by kernel_rfl
@[simp] theorem ld_184 : loadT Try.prog 184 = some (1, false) := by kernel_rfl
@[simp] theorem sz_184 : szT Try.prog 184 = some 1 := by kernel_rfl
@[simp] theorem ag_184 : aggT Try.prog 184 = some false := by kernel_rfl
@[simp] theorem un_184 : Try.prog.underlying 184 = some (.int .u64) := by kernel_rfl
@[simp] theorem zt_184 : zeroT Try.prog 184 = some (.int .u64 0) := by kernel_rfl
@[simp] theorem zr_184 : zeroE Try.prog 184 = some (.int .u64 0) := by kernel_rfl
@[simp] theorem ld_189 : loadT Try.prog 189 = some (1, false) := by kernel_rfl
@[simp] theorem sz_189 : szT Try.prog 189 = some 1 := by kernel_rfl
@[simp] theorem ag_189 : aggT Try.prog 189 = some false := by kernel_rfl
@[simp] theorem un_189 : Try.prog.underlying 189 = some (.pointer 3) := by kernel_rfl
@[simp] theorem zt_189 : zeroT Try.prog 189 = some (.nilp) := by kernel_rfl
@[simp] theorem zr_189 : zeroE Try.prog 189 = some (.nilp) := by kernel_rfl
@[simp] theorem ld_203 : loadT Try.prog 203 = some (1, false) := by kernel_rfl
@[simp] theorem sz_203 : szT Try.prog 203 = some 1 := by kernel_rfl
@[simp] theorem ag_203 : aggT Try.prog 203 = some false := by kernel_rfl
@[simp] theorem un_203 : Try.prog.underlying 203 = some (.pointer 5) := by kernel_rfl
@[simp] theorem zt_203 : zeroT Try.prog 203 = some (.nilp) := by kernel_rfl
@[simp] theorem zr_203 : zeroE Try.prog 203 = some (.nilp) := by kernel_rfl
@[simp] theorem ld_209 : loadT Try.prog 209 = some (1, false) := by kernel_rfl
@[simp] theorem sz_209 : szT Try.prog 209 = some 1 := by kernel_rfl
@[simp] theorem ag_209 : aggT Try.prog 209 = some false := by kernel_rfl
end Go.T
namespace Go.T
open Go Go.Proofs
set_option maxRecDepth 10000
set_option linter.unusedSimpArgs false
theorem c_l1In (a b c : Int) : PCall Try.prog 30 [.int .i64 a, .int .i64 b, .int .i64 c] (.bool (inR a b c)) := by
  refine pcall_of Try.func30 (by kernel_rfl) rfl (by simp [Try.f30]) ?_
  (repeat refine AWp.seq ?_); refine AWp.region noP (by kernel_rfl) ?_
  simp
  (repeat refine AWp.seq ?_); refine AWp.region noP (by kernel_rfl) ?_
  by_cases h : b ≤ a
  · simp [h]
    exact AWp.ret (post_ret1 rfl (by simp [inR, h]))
  · simp [h]
    exact AWp.ret (post_ret1 rfl (by simp [inR, h]))
theorem c_inRange (a b c : Int) : PCall Try.prog 34 [.int .i64 a, .int .i64 b, .int .i64 c] (.bool (inR a b c)) := by
  refine pcall_of Try.func34 (by kernel_rfl) rfl (by simp [Try.f34]) ?_
  (repeat refine AWp.seq ?_); refine AWp.region noP (by kernel_rfl) ?_
  simp
  (repeat refine AWp.seq ?_); refine AWp.region noP (by kernel_rfl) ?_
  by_cases h : b ≤ a
  · simp [h]
    exact AWp.ret (post_ret1 rfl (by simp [inR, h]))
  · simp [h]
    exact AWp.ret (post_ret1 rfl (by simp [inR, h]))
end Go.T
namespace Go.T
open Go Go.Proofs
set_option maxRecDepth 10000
set_option linter.unusedSimpArgs false
set_option linter.unusedVariables false
theorem c_szExpS (l : List Ex) (hf : l.length ≤ most) (h : ∀ x ∈ l, ∀ n : Int, 0 ≤ n → n ≤ 1048576 → PCall Try.prog 57 [x.av, .int .i64 n] (.int .i64 (szr x.tot n))) (n : Int) (h0 : 0 ≤ n) (h1 : n ≤ 1048576) :
    PCall Try.prog 85 [.lst false 4 (l.map Ex.av), .int .i64 n] (.int .i64 (szr (totL Ex.tot l) n)) := by
  refine pcall_of Try.func85 (by kernel_rfl) rfl (by simp [Try.f85]) ?_
  unfold most at hf
  (repeat refine AWp.seq ?_); refine AWp.region noP (by kernel_rfl) ?_
  simp
  have hw : IntKind.wrap .i64 (n - (l.length : Int)) = n - l.length := wrap64 (by omega) (by omega)
  (repeat refine AWp.seq ?_); refine AWp.region noP (by kernel_rfl) ?_
  simp [hw]
  (repeat refine AWp.seq ?_); refine AWp.region noP (by kernel_rfl) ?_
  simp
  have ht := totL_sum Ex.tot l
  refine AWp.cond (b := decide (n - (l.length : Int) < 0)) (by simp) (fun hb => ?_) (fun hb => ?_)
  · (repeat refine AWp.seq ?_); refine AWp.region noP (by kernel_rfl) ?_
    simp
    simp at hb
    exact AWp.ret (post_ret1 rfl (by simp; rw [szr_neg (by omega)]))
  simp at hb
  refine AWp.skip ?_
  simp
  (repeat refine AWp.seq ?_); refine AWp.region noP (by kernel_rfl) ?_
  simp
  (repeat refine AWp.seq ?_); refine AWp.block (AWp.rounds (fun m st => ∃ (i : Nat) (q : Int), m = l.length - i ∧ i ≤ l.length ∧ st.slots 0 = .lst false 4 (l.map Ex.av) ∧ st.slots 1 = .int .i64 q ∧ st.slots 5 = .int .i64 i ∧ 0 ≤ q ∧ q ≤ 1048576 ∧ szr (totL Ex.tot l) n = szr (sumL Ex.tot (l.drop i)) q) l.length ⟨0, n - l.length, by simp, by simp, by simp, by simp, by simp, by omega, by omega, by
    rw [ht, szr_add, szr_pos (show ((l.length : Nat) : Int) ≤ n by omega), if_neg (by omega)]; rfl⟩ ?_)
  rintro R m st hR ⟨i, q, rfl, hi, s0, s1, s5, hq0, hq1, hr⟩
  (repeat refine AWp.seq ?_); refine AWp.region noP (by kernel_rfl) ?_
  simp [s0, s5]
  refine AWp.cond (b := decide (i < l.length)) (by simp) (fun hb => ?_) (fun hb => ?_)
  · simp at hb
    have hg : l[i]? = some l[i] := List.getElem?_eq_getElem hb
    have hd : l.drop i = l[i] :: l.drop (i + 1) := List.drop_eq_getElem_cons hb
    refine AWp.skip ?_
    simp
    (repeat refine AWp.seq ?_); refine AWp.block ?_; (repeat refine AWp.seq ?_); refine AWp.region allP (by kernel_rfl) ?_
    have hx : idxA Try.prog st.mem 50 (.lst false 4 (l.map Ex.av)) (.int .i64 i) = some (.ref l[i].cells) := idx (y := l[i].av) es_50 (by simp [hg])
    have hc : List.take 4 l[i].cells = l[i].cells := List.take_of_length_le (by rw [Ex.cells_len]; exact Nat.le_refl _)
    simp [s0, s1, s5, hx, Ex.cells_len, hc]
    refine aop_call _ _ _ _ _ _ _ _ (h l[i] (List.getElem_mem _) q hq0 hq1) ?_
    simp
    have hz : szr (totL Ex.tot l) n = if szr l[i].tot q < 0 then -1 else szr (sumL Ex.tot (l.drop (i + 1))) (szr l[i].tot q) := by rw [hr, hd, sumL, szr_add]
    (repeat refine AWp.seq ?_); refine AWp.region noP (by kernel_rfl) ?_
    simp
    refine AWp.cond (b := decide (szr l[i].tot q < 0)) (by simp) (fun he => ?_) (fun he => ?_)
    · simp at he
      (repeat refine AWp.seq ?_); refine AWp.region noP (by kernel_rfl) ?_
      simp
      exact AWp.ret (post_ret1 rfl (by simp; rw [hz, if_pos he]))
    · simp at he
      refine AWp.skip ?_
      simp
      refine AWp.region noP (by kernel_rfl) ?_
      have hw : IntKind.wrap .i64 ((i : Int) + 1) = (i + 1 : Nat) := wrap64 (by omega) (by omega)
      simp [s0, s1, s5, hw]
      have hle : szr l[i].tot q ≤ 1048576 := by unfold szr; split <;> omega
      refine hR _ (l.length - (i + 1)) (by omega) ⟨i + 1, szr l[i].tot q, rfl, hb, by simp [s0], by simp, by simp, he, hle, ?_⟩
      rw [hz, if_neg (by omega)]
  · simp at hb
    refine AWp.exit ?_
    simp
    (repeat refine AWp.seq ?_); refine AWp.region noP (by kernel_rfl) ?_
    simp [s1]
    have : i = l.length := by omega
    subst this
    refine AWp.ret (post_ret1 rfl ?_)
    simp [hr, sumL]
    rw [szr_pos (by omega)]; simp
theorem c_szStmtS (l : List Sm) (hf : l.length ≤ most) (h : ∀ x ∈ l, ∀ n : Int, 0 ≤ n → n ≤ 1048576 → PCall Try.prog 19 [x.av, .int .i64 n] (.int .i64 (szr x.tot n))) (n : Int) (h0 : 0 ≤ n) (h1 : n ≤ 1048576) :
    PCall Try.prog 58 [.lst false 19 (l.map Sm.av), .int .i64 n] (.int .i64 (szr (totL Sm.tot l) n)) := by
  refine pcall_of Try.func58 (by kernel_rfl) rfl (by simp [Try.f58]) ?_
  unfold most at hf
  (repeat refine AWp.seq ?_); refine AWp.region noP (by kernel_rfl) ?_
  simp
  have hw : IntKind.wrap .i64 (n - (l.length : Int)) = n - l.length := wrap64 (by omega) (by omega)
  (repeat refine AWp.seq ?_); refine AWp.region noP (by kernel_rfl) ?_
  simp [hw]
  (repeat refine AWp.seq ?_); refine AWp.region noP (by kernel_rfl) ?_
  simp
  have ht := totL_sum Sm.tot l
  refine AWp.cond (b := decide (n - (l.length : Int) < 0)) (by simp) (fun hb => ?_) (fun hb => ?_)
  · (repeat refine AWp.seq ?_); refine AWp.region noP (by kernel_rfl) ?_
    simp
    simp at hb
    exact AWp.ret (post_ret1 rfl (by simp; rw [szr_neg (by omega)]))
  simp at hb
  refine AWp.skip ?_
  simp
  (repeat refine AWp.seq ?_); refine AWp.region noP (by kernel_rfl) ?_
  simp
  (repeat refine AWp.seq ?_); refine AWp.block (AWp.rounds (fun m st => ∃ (i : Nat) (q : Int), m = l.length - i ∧ i ≤ l.length ∧ st.slots 0 = .lst false 19 (l.map Sm.av) ∧ st.slots 1 = .int .i64 q ∧ st.slots 5 = .int .i64 i ∧ 0 ≤ q ∧ q ≤ 1048576 ∧ szr (totL Sm.tot l) n = szr (sumL Sm.tot (l.drop i)) q) l.length ⟨0, n - l.length, by simp, by simp, by simp, by simp, by simp, by omega, by omega, by
    rw [ht, szr_add, szr_pos (show ((l.length : Nat) : Int) ≤ n by omega), if_neg (by omega)]; rfl⟩ ?_)
  rintro R m st hR ⟨i, q, rfl, hi, s0, s1, s5, hq0, hq1, hr⟩
  (repeat refine AWp.seq ?_); refine AWp.region noP (by kernel_rfl) ?_
  simp [s0, s5]
  refine AWp.cond (b := decide (i < l.length)) (by simp) (fun hb => ?_) (fun hb => ?_)
  · simp at hb
    have hg : l[i]? = some l[i] := List.getElem?_eq_getElem hb
    have hd : l.drop i = l[i] :: l.drop (i + 1) := List.drop_eq_getElem_cons hb
    refine AWp.skip ?_
    simp
    (repeat refine AWp.seq ?_); refine AWp.block ?_; (repeat refine AWp.seq ?_); refine AWp.region allP (by kernel_rfl) ?_
    have hx : idxA Try.prog st.mem 53 (.lst false 19 (l.map Sm.av)) (.int .i64 i) = some (.ref l[i].cells) := idx (y := l[i].av) es_53 (by simp [hg])
    have hc : List.take 19 l[i].cells = l[i].cells := List.take_of_length_le (by rw [Sm.cells_len]; exact Nat.le_refl _)
    simp [s0, s1, s5, hx, Sm.cells_len, hc]
    refine aop_call _ _ _ _ _ _ _ _ (h l[i] (List.getElem_mem _) q hq0 hq1) ?_
    simp
    have hz : szr (totL Sm.tot l) n = if szr l[i].tot q < 0 then -1 else szr (sumL Sm.tot (l.drop (i + 1))) (szr l[i].tot q) := by rw [hr, hd, sumL, szr_add]
    (repeat refine AWp.seq ?_); refine AWp.region noP (by kernel_rfl) ?_
    simp
    refine AWp.cond (b := decide (szr l[i].tot q < 0)) (by simp) (fun he => ?_) (fun he => ?_)
    · simp at he
      (repeat refine AWp.seq ?_); refine AWp.region noP (by kernel_rfl) ?_
      simp
      exact AWp.ret (post_ret1 rfl (by simp; rw [hz, if_pos he]))
    · simp at he
      refine AWp.skip ?_
      simp
      refine AWp.region noP (by kernel_rfl) ?_
      have hw : IntKind.wrap .i64 ((i : Int) + 1) = (i + 1 : Nat) := wrap64 (by omega) (by omega)
      simp [s0, s1, s5, hw]
      have hle : szr l[i].tot q ≤ 1048576 := by unfold szr; split <;> omega
      refine hR _ (l.length - (i + 1)) (by omega) ⟨i + 1, szr l[i].tot q, rfl, hb, by simp [s0], by simp, by simp, he, hle, ?_⟩
      rw [hz, if_neg (by omega)]
  · simp at hb
    refine AWp.exit ?_
    simp
    (repeat refine AWp.seq ?_); refine AWp.region noP (by kernel_rfl) ?_
    simp [s1]
    have : i = l.length := by omega
    subst this
    refine AWp.ret (post_ret1 rfl ?_)
    simp [hr, sumL]
    rw [szr_pos (by omega)]; simp
theorem c_szExp0 (k m : Int) (s : ByteArray) (l : List Ex) (hs : s.size ≤ most) (hl : l.length ≤ most) (h : ∀ x ∈ l, ∀ n : Int, 0 ≤ n → n ≤ 1048576 → PCall Try.prog 57 [x.av, .int .i64 n] (.int .i64 (szr x.tot n))) (n : Int) (h0 : 0 ≤ n) (h1 : n ≤ 1048576) :
    PCall Try.prog 57 [(Ex.mk k m s l).av, .int .i64 n] (.int .i64 (szr (s.size + (totL Ex.tot l)) n)) := by
  unfold most at hs
  unfold Ex.av
  rw [Ex.cells_mk]
  refine pcall_of Try.func57 (by kernel_rfl) rfl (by simp [Try.f57]) ?_
  (repeat refine AWp.seq ?_); refine AWp.region noP (by kernel_rfl) ?_
  simp
  intro g
  have w0 : IntKind.wrap .i64 (n - (s.size : Int)) = n - (s.size : Int) := wrap64 (by omega) (by omega)
  (repeat refine AWp.seq ?_); refine AWp.region noP (by kernel_rfl) ?_
  simp [w0]
  (repeat refine AWp.seq ?_); refine AWp.region noP (by kernel_rfl) ?_
  simp
  have z0 : szr (s.size + (totL Ex.tot l)) n = if szr (s.size) n < 0 then -1 else szr (totL Ex.tot l) (szr (s.size) n) := szr_add _ _ _
  refine AWp.cond (b := decide ((n - (s.size : Int)) < 0)) (by simp) (fun hb => ?_) (fun hb0 => ?_)
  · simp at hb
    (repeat refine AWp.seq ?_); refine AWp.region noP (by kernel_rfl) ?_
    simp
    have e : szr (s.size) n = -1 := szr_neg (by omega)
    refine AWp.ret (post_ret1 rfl ?_)
    simp only [put_slot, reduceIte]
    congr 1
    rw [z0, e]; rfl
  simp at hb0
  refine AWp.skip ?_
  simp
  have e0 : szr (s.size) n = (n - (s.size : Int)) := szr_pos (by omega)
  have y0 := z0
  rw [e0, if_neg (by omega)] at y0
  (repeat refine AWp.seq ?_); refine AWp.region noP (by kernel_rfl) ?_
  simp
  refine aop_call _ _ _ _ _ _ _ _ (c_szExpS l hl h _ (by omega) (by omega)) ?_
  simp
  (repeat refine AWp.seq ?_); refine AWp.region noP (by kernel_rfl) ?_
  simp
  have z1 : szr (totL Ex.tot l) (n - (s.size : Int)) = szr (totL Ex.tot l) (n - (s.size : Int)) := rfl
  refine AWp.cond (b := decide ((szr (totL Ex.tot l) (n - (s.size : Int))) < 0)) (by simp) (fun hb => ?_) (fun hb1 => ?_)
  · simp at hb
    (repeat refine AWp.seq ?_); refine AWp.region noP (by kernel_rfl) ?_
    simp
    have e : szr (totL Ex.tot l) (n - (s.size : Int)) = -1 := by unfold szr at hb ⊢; split at hb <;> rename_i hq <;> first | omega | rw [if_neg hq]
    refine AWp.ret (post_ret1 rfl ?_)
    simp only [put_slot, reduceIte]
    congr 1
    rw [y0, z1, e]
  simp at hb1
  refine AWp.skip ?_
  simp
  have e1 : szr (totL Ex.tot l) (n - (s.size : Int)) = (szr (totL Ex.tot l) (n - (s.size : Int))) := rfl
  have l1 : szr (totL Ex.tot l) (n - (s.size : Int)) ≤ 1048576 := by unfold szr; split <;> omega
  have y1 := e1
  (repeat refine AWp.seq ?_); refine AWp.region noP (by kernel_rfl) ?_
  simp
  refine AWp.ret (post_ret1 rfl ?_)
  simp only [put_slot, reduceIte]
  congr 1
  rw [y0, y1]
theorem c_szExp (e : Ex) : e.fit → ∀ n : Int, 0 ≤ n → n ≤ 1048576 → PCall Try.prog 57 [e.av, .int .i64 n] (.int .i64 (szr e.tot n)) := by
  induction e using Ex.ind with | h k m s l h =>
  intro hf n h0 h1
  rw [Ex.fit_mk] at hf
  rw [Ex.tot_mk]
  exact c_szExp0 k m s l hf.1 hf.2.1 (fun x hx => h x hx (hf.2.2 x hx)) n h0 h1
theorem c_szStmt0 (k : Int) (s : ByteArray) (a e lo hi : Ex) (b : List Sm) (hs : s.size ≤ most) (ha : a.fit) (he : e.fit) (hlo : lo.fit) (hhi : hi.fit) (hl : b.length ≤ most) (h : ∀ x ∈ b, ∀ n : Int, 0 ≤ n → n ≤ 1048576 → PCall Try.prog 19 [x.av, .int .i64 n] (.int .i64 (szr x.tot n))) (n : Int) (h0 : 0 ≤ n) (h1 : n ≤ 1048576) :
    PCall Try.prog 19 [(Sm.mk k s a e lo hi b).av, .int .i64 n] (.int .i64 (szr (s.size + (a.tot + (e.tot + (lo.tot + (hi.tot + (totL Sm.tot b)))))) n)) := by
  unfold most at hs
  unfold Sm.av
  rw [Sm.cells_mk]
  refine pcall_of Try.func19 (by kernel_rfl) rfl (by simp [Try.f19]) ?_
  (repeat refine AWp.seq ?_); refine AWp.region noP (by kernel_rfl) ?_
  simp
  intro g
  have w0 : IntKind.wrap .i64 (n - (s.size : Int)) = n - (s.size : Int) := wrap64 (by omega) (by omega)
  (repeat refine AWp.seq ?_); refine AWp.region noP (by kernel_rfl) ?_
  simp [w0]
  (repeat refine AWp.seq ?_); refine AWp.region noP (by kernel_rfl) ?_
  simp
  have z0 : szr (s.size + (a.tot + (e.tot + (lo.tot + (hi.tot + (totL Sm.tot b)))))) n = if szr (s.size) n < 0 then -1 else szr (a.tot + (e.tot + (lo.tot + (hi.tot + (totL Sm.tot b))))) (szr (s.size) n) := szr_add _ _ _
  refine AWp.cond (b := decide ((n - (s.size : Int)) < 0)) (by simp) (fun hb => ?_) (fun hb0 => ?_)
  · simp at hb
    (repeat refine AWp.seq ?_); refine AWp.region noP (by kernel_rfl) ?_
    simp
    have e : szr (s.size) n = -1 := szr_neg (by omega)
    refine AWp.ret (post_ret1 rfl ?_)
    simp only [put_slot, reduceIte]
    congr 1
    rw [z0, e]; rfl
  simp at hb0
  refine AWp.skip ?_
  simp
  have e0 : szr (s.size) n = (n - (s.size : Int)) := szr_pos (by omega)
  have y0 := z0
  rw [e0, if_neg (by omega)] at y0
  (repeat refine AWp.seq ?_); refine AWp.region noP (by kernel_rfl) ?_
  simp
  refine aop_call _ _ _ _ _ _ _ _ (c_szExp a ha _ (by omega) (by omega)) ?_
  simp
  (repeat refine AWp.seq ?_); refine AWp.region noP (by kernel_rfl) ?_
  simp
  have z1 : szr (a.tot + (e.tot + (lo.tot + (hi.tot + (totL Sm.tot b))))) (n - (s.size : Int)) = if szr (a.tot) (n - (s.size : Int)) < 0 then -1 else szr (e.tot + (lo.tot + (hi.tot + (totL Sm.tot b)))) (szr (a.tot) (n - (s.size : Int))) := szr_add _ _ _
  refine AWp.cond (b := decide ((szr (a.tot) (n - (s.size : Int))) < 0)) (by simp) (fun hb => ?_) (fun hb1 => ?_)
  · simp at hb
    (repeat refine AWp.seq ?_); refine AWp.region noP (by kernel_rfl) ?_
    simp
    have e : szr (a.tot) (n - (s.size : Int)) = -1 := by unfold szr at hb ⊢; split at hb <;> rename_i hq <;> first | omega | rw [if_neg hq]
    refine AWp.ret (post_ret1 rfl ?_)
    simp only [put_slot, reduceIte]
    congr 1
    rw [y0, z1, e]; rfl
  simp at hb1
  refine AWp.skip ?_
  simp
  have e1 : szr (a.tot) (n - (s.size : Int)) = (szr (a.tot) (n - (s.size : Int))) := rfl
  have l1 : szr (a.tot) (n - (s.size : Int)) ≤ 1048576 := by unfold szr; split <;> omega
  have y1 := z1
  rw [e1, if_neg (by omega)] at y1
  (repeat refine AWp.seq ?_); refine AWp.region noP (by kernel_rfl) ?_
  simp
  refine aop_call _ _ _ _ _ _ _ _ (c_szExp e he _ (by omega) (by omega)) ?_
  simp
  (repeat refine AWp.seq ?_); refine AWp.region noP (by kernel_rfl) ?_
  simp
  have z2 : szr (e.tot + (lo.tot + (hi.tot + (totL Sm.tot b)))) (szr (a.tot) (n - (s.size : Int))) = if szr (e.tot) (szr (a.tot) (n - (s.size : Int))) < 0 then -1 else szr (lo.tot + (hi.tot + (totL Sm.tot b))) (szr (e.tot) (szr (a.tot) (n - (s.size : Int)))) := szr_add _ _ _
  refine AWp.cond (b := decide ((szr (e.tot) (szr (a.tot) (n - (s.size : Int)))) < 0)) (by simp) (fun hb => ?_) (fun hb2 => ?_)
  · simp at hb
    (repeat refine AWp.seq ?_); refine AWp.region noP (by kernel_rfl) ?_
    simp
    have e : szr (e.tot) (szr (a.tot) (n - (s.size : Int))) = -1 := by unfold szr at hb ⊢; split at hb <;> rename_i hq <;> first | omega | rw [if_neg hq]
    refine AWp.ret (post_ret1 rfl ?_)
    simp only [put_slot, reduceIte]
    congr 1
    rw [y0, y1, z2, e]; rfl
  simp at hb2
  refine AWp.skip ?_
  simp
  have e2 : szr (e.tot) (szr (a.tot) (n - (s.size : Int))) = (szr (e.tot) (szr (a.tot) (n - (s.size : Int)))) := rfl
  have l2 : szr (e.tot) (szr (a.tot) (n - (s.size : Int))) ≤ 1048576 := by unfold szr; split <;> omega
  have y2 := z2
  rw [e2, if_neg (by omega)] at y2
  (repeat refine AWp.seq ?_); refine AWp.region noP (by kernel_rfl) ?_
  simp
  refine aop_call _ _ _ _ _ _ _ _ (c_szExp lo hlo _ (by omega) (by omega)) ?_
  simp
  (repeat refine AWp.seq ?_); refine AWp.region noP (by kernel_rfl) ?_
  simp
  have z3 : szr (lo.tot + (hi.tot + (totL Sm.tot b))) (szr (e.tot) (szr (a.tot) (n - (s.size : Int)))) = if szr (lo.tot) (szr (e.tot) (szr (a.tot) (n - (s.size : Int)))) < 0 then -1 else szr (hi.tot + (totL Sm.tot b)) (szr (lo.tot) (szr (e.tot) (szr (a.tot) (n - (s.size : Int))))) := szr_add _ _ _
  refine AWp.cond (b := decide ((szr (lo.tot) (szr (e.tot) (szr (a.tot) (n - (s.size : Int))))) < 0)) (by simp) (fun hb => ?_) (fun hb3 => ?_)
  · simp at hb
    (repeat refine AWp.seq ?_); refine AWp.region noP (by kernel_rfl) ?_
    simp
    have e : szr (lo.tot) (szr (e.tot) (szr (a.tot) (n - (s.size : Int)))) = -1 := by unfold szr at hb ⊢; split at hb <;> rename_i hq <;> first | omega | rw [if_neg hq]
    refine AWp.ret (post_ret1 rfl ?_)
    simp only [put_slot, reduceIte]
    congr 1
    rw [y0, y1, y2, z3, e]; rfl
  simp at hb3
  refine AWp.skip ?_
  simp
  have e3 : szr (lo.tot) (szr (e.tot) (szr (a.tot) (n - (s.size : Int)))) = (szr (lo.tot) (szr (e.tot) (szr (a.tot) (n - (s.size : Int))))) := rfl
  have l3 : szr (lo.tot) (szr (e.tot) (szr (a.tot) (n - (s.size : Int)))) ≤ 1048576 := by unfold szr; split <;> omega
  have y3 := z3
  rw [e3, if_neg (by omega)] at y3
  (repeat refine AWp.seq ?_); refine AWp.region noP (by kernel_rfl) ?_
  simp
  refine aop_call _ _ _ _ _ _ _ _ (c_szExp hi hhi _ (by omega) (by omega)) ?_
  simp
  (repeat refine AWp.seq ?_); refine AWp.region noP (by kernel_rfl) ?_
  simp
  have z4 : szr (hi.tot + (totL Sm.tot b)) (szr (lo.tot) (szr (e.tot) (szr (a.tot) (n - (s.size : Int))))) = if szr (hi.tot) (szr (lo.tot) (szr (e.tot) (szr (a.tot) (n - (s.size : Int))))) < 0 then -1 else szr (totL Sm.tot b) (szr (hi.tot) (szr (lo.tot) (szr (e.tot) (szr (a.tot) (n - (s.size : Int)))))) := szr_add _ _ _
  refine AWp.cond (b := decide ((szr (hi.tot) (szr (lo.tot) (szr (e.tot) (szr (a.tot) (n - (s.size : Int)))))) < 0)) (by simp) (fun hb => ?_) (fun hb4 => ?_)
  · simp at hb
    (repeat refine AWp.seq ?_); refine AWp.region noP (by kernel_rfl) ?_
    simp
    have e : szr (hi.tot) (szr (lo.tot) (szr (e.tot) (szr (a.tot) (n - (s.size : Int))))) = -1 := by unfold szr at hb ⊢; split at hb <;> rename_i hq <;> first | omega | rw [if_neg hq]
    refine AWp.ret (post_ret1 rfl ?_)
    simp only [put_slot, reduceIte]
    congr 1
    rw [y0, y1, y2, y3, z4, e]; rfl
  simp at hb4
  refine AWp.skip ?_
  simp
  have e4 : szr (hi.tot) (szr (lo.tot) (szr (e.tot) (szr (a.tot) (n - (s.size : Int))))) = (szr (hi.tot) (szr (lo.tot) (szr (e.tot) (szr (a.tot) (n - (s.size : Int)))))) := rfl
  have l4 : szr (hi.tot) (szr (lo.tot) (szr (e.tot) (szr (a.tot) (n - (s.size : Int))))) ≤ 1048576 := by unfold szr; split <;> omega
  have y4 := z4
  rw [e4, if_neg (by omega)] at y4
  (repeat refine AWp.seq ?_); refine AWp.region noP (by kernel_rfl) ?_
  simp
  refine aop_call _ _ _ _ _ _ _ _ (c_szStmtS b hl h _ (by omega) (by omega)) ?_
  simp
  (repeat refine AWp.seq ?_); refine AWp.region noP (by kernel_rfl) ?_
  simp
  have z5 : szr (totL Sm.tot b) (szr (hi.tot) (szr (lo.tot) (szr (e.tot) (szr (a.tot) (n - (s.size : Int)))))) = szr (totL Sm.tot b) (szr (hi.tot) (szr (lo.tot) (szr (e.tot) (szr (a.tot) (n - (s.size : Int)))))) := rfl
  refine AWp.cond (b := decide ((szr (totL Sm.tot b) (szr (hi.tot) (szr (lo.tot) (szr (e.tot) (szr (a.tot) (n - (s.size : Int))))))) < 0)) (by simp) (fun hb => ?_) (fun hb5 => ?_)
  · simp at hb
    (repeat refine AWp.seq ?_); refine AWp.region noP (by kernel_rfl) ?_
    simp
    have e : szr (totL Sm.tot b) (szr (hi.tot) (szr (lo.tot) (szr (e.tot) (szr (a.tot) (n - (s.size : Int)))))) = -1 := by unfold szr at hb ⊢; split at hb <;> rename_i hq <;> first | omega | rw [if_neg hq]
    refine AWp.ret (post_ret1 rfl ?_)
    simp only [put_slot, reduceIte]
    congr 1
    rw [y0, y1, y2, y3, y4, z5, e]
  simp at hb5
  refine AWp.skip ?_
  simp
  have e5 : szr (totL Sm.tot b) (szr (hi.tot) (szr (lo.tot) (szr (e.tot) (szr (a.tot) (n - (s.size : Int)))))) = (szr (totL Sm.tot b) (szr (hi.tot) (szr (lo.tot) (szr (e.tot) (szr (a.tot) (n - (s.size : Int))))))) := rfl
  have l5 : szr (totL Sm.tot b) (szr (hi.tot) (szr (lo.tot) (szr (e.tot) (szr (a.tot) (n - (s.size : Int)))))) ≤ 1048576 := by unfold szr; split <;> omega
  have y5 := e5
  (repeat refine AWp.seq ?_); refine AWp.region noP (by kernel_rfl) ?_
  simp
  refine AWp.ret (post_ret1 rfl ?_)
  simp only [put_slot, reduceIte]
  congr 1
  rw [y0, y1, y2, y3, y4, y5]
theorem c_szStmt (e : Sm) : e.fit → ∀ n : Int, 0 ≤ n → n ≤ 1048576 → PCall Try.prog 19 [e.av, .int .i64 n] (.int .i64 (szr e.tot n)) := by
  induction e using Sm.ind with | h k s a e lo hi b h =>
  intro hf n h0 h1
  rw [Sm.fit_mk] at hf
  rw [Sm.tot_mk]
  obtain ⟨f1, f2, f3, f4, f5, f6, f7⟩ := hf
  exact c_szStmt0 k s a e lo hi b f1 f2 f3 f4 f5 f6 (fun x hx => h x hx (f7 x hx)) n h0 h1
theorem c_toExpS (l : List Ex) (hl : l.length ≤ 1048576) (h : ∀ x ∈ l, PCall Try.prog 61 [x.av] x.av) :
    PCall Try.prog 91 [.lst false 4 (l.map Ex.av)] (.lst false 4 (l.map Ex.av)) := by
  refine pcall_of Try.func91 (by kernel_rfl) rfl (by simp [Try.f91]) ?_
  (repeat refine AWp.seq ?_); refine AWp.region noP (by kernel_rfl) ?_
  simp
  (repeat refine AWp.seq ?_); refine AWp.region noP (by kernel_rfl) ?_
  simp
  refine ⟨by omega, by omega, fun g => ?_⟩
  (repeat refine AWp.seq ?_); refine AWp.region noP (by kernel_rfl) ?_
  simp
  (repeat refine AWp.seq ?_); refine AWp.block (AWp.rounds (fun m st => ∃ (i : Nat) (xs : List AV), m = l.length - i ∧ i ≤ l.length ∧ st.slots 0 = .lst false 4 (l.map Ex.av) ∧ st.slots 3 = .own g l.length l.length ∧ st.slots 4 = .int .i64 i ∧ st.mem g = some (.arr 61 4 l.length xs) ∧ xs.length = l.length ∧ xs.take i = (l.map Ex.av).take i) l.length ⟨0, _, by simp, by simp, by simp, by simp, by simp, by simp; rfl, by simp, by simp⟩ ?_)
  rintro R m st hR ⟨i, xs, rfl, hi, s0, s3, s4, hg, hn, hx⟩
  (repeat refine AWp.seq ?_); refine AWp.region noP (by kernel_rfl) ?_
  simp [s0, s4]
  refine AWp.cond (b := decide (i < l.length)) (by simp) (fun hb => ?_) (fun hb => ?_)
  · simp at hb
    have hq : l[i]? = some l[i] := List.getElem?_eq_getElem hb
    refine AWp.skip ?_
    simp
    (repeat refine AWp.seq ?_); refine AWp.block ?_; (repeat refine AWp.seq ?_); refine AWp.region noP (by kernel_rfl) ?_
    have hx1 : idxA Try.prog st.mem 50 (.lst false 4 (l.map Ex.av)) (.int .i64 i) = some (.ref l[i].cells) := idx (y := l[i].av) es_50 (by simp [hq])
    simp [s0, s3, s4, hx1]
    refine aop_call _ _ _ _ _ _ _ _ (h l[i] (List.getElem_mem _)) ?_
    have hx2 : idxA Try.prog st.mem 59 (.own g l.length l.length) (.int .i64 i) = some (.elt g 4 i 0) := idx_own es_59 hg hn hb
    have hx3 : storeA st.mem (.elt g 4 i 0) (.agg l[i].cells) = some _ := store_elt hg (by omega) (by simp [Ex.cells_len])
    simp [s0, s3, s4, hx2, Ex.av, hx3]
    (repeat refine AWp.seq ?_); refine AWp.region noP (by kernel_rfl) ?_
    have hw : IntKind.wrap .i64 ((i : Int) + 1) = (i + 1 : Nat) := wrap64 (by omega) (by omega)
    simp [s4, hw]
    refine hR _ (l.length - (i + 1)) (by omega) ⟨i + 1, _, rfl, hb, by simp [s0], by simp [s3], by simp, by simp; rfl, by simp [hn], ?_⟩
    exact take_set hx (by simp [hn]) (by simp [hq, Ex.av])
  · simp at hb
    refine AWp.exit ?_
    simp
    (repeat refine AWp.seq ?_); refine AWp.region noP (by kernel_rfl) ?_
    simp [s3]
    have : i = l.length := by omega
    subst this
    have e : xs = l.map Ex.av := by rw [List.take_of_length_le (by omega), List.take_of_length_le (by simp)] at hx; exact hx
    subst e
    exact AWp.ret (post_own rfl (by simp; rfl) hg (by simp) rfl)
theorem c_toStmtS (l : List Sm) (hl : l.length ≤ 1048576) (h : ∀ x ∈ l, PCall Try.prog 21 [x.av] x.av) :
    PCall Try.prog 62 [.lst false 19 (l.map Sm.av)] (.lst false 19 (l.map Sm.av)) := by
  refine pcall_of Try.func62 (by kernel_rfl) rfl (by simp [Try.f62]) ?_
  (repeat refine AWp.seq ?_); refine AWp.region noP (by kernel_rfl) ?_
  simp
  (repeat refine AWp.seq ?_); refine AWp.region noP (by kernel_rfl) ?_
  simp
  refine ⟨by omega, by omega, fun g => ?_⟩
  (repeat refine AWp.seq ?_); refine AWp.region noP (by kernel_rfl) ?_
  simp
  (repeat refine AWp.seq ?_); refine AWp.block (AWp.rounds (fun m st => ∃ (i : Nat) (xs : List AV), m = l.length - i ∧ i ≤ l.length ∧ st.slots 0 = .lst false 19 (l.map Sm.av) ∧ st.slots 3 = .own g l.length l.length ∧ st.slots 4 = .int .i64 i ∧ st.mem g = some (.arr 64 19 l.length xs) ∧ xs.length = l.length ∧ xs.take i = (l.map Sm.av).take i) l.length ⟨0, _, by simp, by simp, by simp, by simp, by simp, by simp; rfl, by simp, by simp⟩ ?_)
  rintro R m st hR ⟨i, xs, rfl, hi, s0, s3, s4, hg, hn, hx⟩
  (repeat refine AWp.seq ?_); refine AWp.region noP (by kernel_rfl) ?_
  simp [s0, s4]
  refine AWp.cond (b := decide (i < l.length)) (by simp) (fun hb => ?_) (fun hb => ?_)
  · simp at hb
    have hq : l[i]? = some l[i] := List.getElem?_eq_getElem hb
    refine AWp.skip ?_
    simp
    (repeat refine AWp.seq ?_); refine AWp.block ?_; (repeat refine AWp.seq ?_); refine AWp.region noP (by kernel_rfl) ?_
    have hx1 : idxA Try.prog st.mem 53 (.lst false 19 (l.map Sm.av)) (.int .i64 i) = some (.ref l[i].cells) := idx (y := l[i].av) es_53 (by simp [hq])
    simp [s0, s3, s4, hx1]
    refine aop_call _ _ _ _ _ _ _ _ (h l[i] (List.getElem_mem _)) ?_
    have hx2 : idxA Try.prog st.mem 62 (.own g l.length l.length) (.int .i64 i) = some (.elt g 19 i 0) := idx_own es_62 hg hn hb
    have hx3 : storeA st.mem (.elt g 19 i 0) (.agg l[i].cells) = some _ := store_elt hg (by omega) (by simp [Sm.cells_len])
    simp [s0, s3, s4, hx2, Sm.av, hx3]
    (repeat refine AWp.seq ?_); refine AWp.region noP (by kernel_rfl) ?_
    have hw : IntKind.wrap .i64 ((i : Int) + 1) = (i + 1 : Nat) := wrap64 (by omega) (by omega)
    simp [s4, hw]
    refine hR _ (l.length - (i + 1)) (by omega) ⟨i + 1, _, rfl, hb, by simp [s0], by simp [s3], by simp, by simp; rfl, by simp [hn], ?_⟩
    exact take_set hx (by simp [hn]) (by simp [hq, Sm.av])
  · simp at hb
    refine AWp.exit ?_
    simp
    (repeat refine AWp.seq ?_); refine AWp.region noP (by kernel_rfl) ?_
    simp [s3]
    have : i = l.length := by omega
    subst this
    have e : xs = l.map Sm.av := by rw [List.take_of_length_le (by omega), List.take_of_length_le (by simp)] at hx; exact hx
    subst e
    exact AWp.ret (post_own rfl (by simp; rfl) hg (by simp) rfl)
end Go.T
