/- Facts about the types of the program. Names: what the program and the reference compute. What the laws' measuring, copying and comparing functions compute. What the laws' copying and comparing functions compute. What is right: what the program and the reference compute. What is right: what the program and the reference compute. Expressions that are right: what the program computes. Expressions that are right: what the reference computes. Statements that are right: what the program and the reference compute. How many statements there are: what the program and the reference compute. Statements that are right, but for loops: what the program computes. Statements that are right: what the program computes. Statements that are right, but for loops: what the reference computes. Statements that are right: what the reference computes; StmtOk. Where a name is: what the program and the reference compute. Names put in order: what the reference computes. The names of statements and expressions: what the reference computes. Names of arrays, names apart, nested loops: what the reference computes. Programs that are right: what the reference computes. The library's functions on strings, as this program has them. Strings sorted, each once: what the program's library calls come to. Lists of names joined, put in order: what the program computes. -/
import Derived.Test.YtdbnllfjmkmdiaaDoorG5
import Derived.Test.YtdbnllfjmkmdiaaDoorG2
import Derived.Test.YtdbnllfjmkmdiaaDoorProg
import Derived.Test.YtdbnllfjmkmdiaaDoorG3
import Derived.Shelf.Lay
import Derived.Ground.NamesProg
import Derived.Shelf.Sort.Plain
import Derived.Shelf.Slices.In.SortNone
import Derived.Shelf.Slices.CompactS
import Derived.Shelf.Spec.SlicesGrow
import Derived.WalkKit
namespace Go.T
open Go Go.Proofs
set_option maxRecDepth 10000
@[simp] theorem ld_2 : loadT Tryd.prog 2 = some (1, false) := by kernel_rfl
@[simp] theorem sz_2 : szT Tryd.prog 2 = some 1 := by kernel_rfl
@[simp] theorem ag_2 : aggT Tryd.prog 2 = some false := by kernel_rfl
@[simp] theorem un_2 : Tryd.prog.underlying 2 = some (.int .i64) := by kernel_rfl
@[simp] theorem zt_2 : zeroT Tryd.prog 2 = some (.int .i64 0) := by kernel_rfl
@[simp] theorem zr_2 : zeroE Tryd.prog 2 = some (.int .i64 0) := by kernel_rfl
@[simp] theorem ld_3 : loadT Tryd.prog 3 = some (1, false) := by kernel_rfl
@[simp] theorem sz_3 : szT Tryd.prog 3 = some 1 := by kernel_rfl
@[simp] theorem ag_3 : aggT Tryd.prog 3 = some false := by kernel_rfl
@[simp] theorem un_3 : Tryd.prog.underlying 3 = some (.int .i64) := by kernel_rfl
@[simp] theorem zt_3 : zeroT Tryd.prog 3 = some (.int .i64 0) := by kernel_rfl
@[simp] theorem zr_3 : zeroE Tryd.prog 3 = some (.int .i64 0) := by kernel_rfl
@[simp] theorem ld_4 : loadT Tryd.prog 4 = some (1, false) := by kernel_rfl
@[simp] theorem sz_4 : szT Tryd.prog 4 = some 1 := by kernel_rfl
@[simp] theorem ag_4 : aggT Tryd.prog 4 = some false := by kernel_rfl
@[simp] theorem un_4 : Tryd.prog.underlying 4 = some .bool := by kernel_rfl
@[simp] theorem zt_4 : zeroT Tryd.prog 4 = some (.bool false) := by kernel_rfl
@[simp] theorem zr_4 : zeroE Tryd.prog 4 = some (.bool false) := by kernel_rfl
@[simp] theorem ld_5 : loadT Tryd.prog 5 = some (1, false) := by kernel_rfl
@[simp] theorem sz_5 : szT Tryd.prog 5 = some 1 := by kernel_rfl
@[simp] theorem ag_5 : aggT Tryd.prog 5 = some false := by kernel_rfl
@[simp] theorem un_5 : Tryd.prog.underlying 5 = some (.int .u8) := by kernel_rfl
@[simp] theorem zt_5 : zeroT Tryd.prog 5 = some (.int .u8 0) := by kernel_rfl
@[simp] theorem zr_5 : zeroE Tryd.prog 5 = some (.int .u8 0) := by kernel_rfl
@[simp] theorem ld_9 : loadT Tryd.prog 9 = some (1, false) := by kernel_rfl
@[simp] theorem sz_9 : szT Tryd.prog 9 = some 1 := by kernel_rfl
@[simp] theorem ag_9 : aggT Tryd.prog 9 = some false := by kernel_rfl
@[simp] theorem un_9 : Tryd.prog.underlying 9 = some .string := by kernel_rfl
@[simp] theorem zt_9 : zeroT Tryd.prog 9 = some (.str ByteArray.empty) := by kernel_rfl
@[simp] theorem zr_9 : zeroE Tryd.prog 9 = some (.str ByteArray.empty) := by kernel_rfl
@[simp] theorem ld_12 : loadT Tryd.prog 12 = some (1, false) := by kernel_rfl
@[simp] theorem sz_12 : szT Tryd.prog 12 = some 1 := by kernel_rfl
@[simp] theorem ag_12 : aggT Tryd.prog 12 = some false := by kernel_rfl
@[simp] theorem zt_12 : zeroT Tryd.prog 12 = some (.int .u64 0) := by kernel_rfl
@[simp] theorem zr_12 : zeroE Tryd.prog 12 = some (.int .u64 0) := by kernel_rfl
@[simp] theorem ld_13 : loadT Tryd.prog 13 = some (2, true) := by kernel_rfl
@[simp] theorem sz_13 : szT Tryd.prog 13 = some 2 := by kernel_rfl
@[simp] theorem ag_13 : aggT Tryd.prog 13 = some true := by kernel_rfl
@[simp] theorem fd_13_0 : fieldT Tryd.prog 13 0 = some (0, 1, false) := by kernel_rfl
@[simp] theorem fd_13_1 : fieldT Tryd.prog 13 1 = some (1, 1, false) := by kernel_rfl
@[simp] theorem pl_13 : placesT Tryd.prog 13 = some [(0, 1), (1, 1)] := by kernel_rfl
@[simp] theorem zt_13 : zeroT Tryd.prog 13 = some (.agg [.str ByteArray.empty, .int .u64 0]) := by kernel_rfl
@[simp] theorem zr_13 : zeroE Tryd.prog 13 = some (.agg [.str ByteArray.empty, .int .u64 0]) := by kernel_rfl
@[simp] theorem ld_21 : loadT Tryd.prog 21 = some (1, false) := by kernel_rfl
@[simp] theorem sz_21 : szT Tryd.prog 21 = some 1 := by kernel_rfl
@[simp] theorem ag_21 : aggT Tryd.prog 21 = some false := by kernel_rfl
@[simp] theorem un_21 : Tryd.prog.underlying 21 = some (.int .i32) := by kernel_rfl
@[simp] theorem zt_21 : zeroT Tryd.prog 21 = some (.int .i32 0) := by kernel_rfl
@[simp] theorem zr_21 : zeroE Tryd.prog 21 = some (.int .i32 0) := by kernel_rfl
@[simp] theorem ld_22 : loadT Tryd.prog 22 = some (1, false) := by kernel_rfl
@[simp] theorem sz_22 : szT Tryd.prog 22 = some 1 := by kernel_rfl
@[simp] theorem ag_22 : aggT Tryd.prog 22 = some false := by kernel_rfl
@[simp] theorem es_22 : esz Tryd.prog 22 = some 4 := by kernel_rfl
@[simp] theorem el_22 : elemT Tryd.prog 22 = some 24 := by kernel_rfl
@[simp] theorem un_22 : Tryd.prog.underlying 22 = some (.slice 24) := by kernel_rfl
@[simp] theorem ii_22 : isIntT Tryd.prog 22 = some false := by kernel_rfl
@[simp] theorem by_24 : bytesT Tryd.prog 24 = some 56 := by kernel_rfl
theorem et_22 : ElemT Tryd.prog 22 24 4 56 := ⟨by kernel_rfl, by kernel_rfl, by kernel_rfl, by kernel_rfl, ⟨.agg [.int .i64 0, .int .i64 0, .str ByteArray.empty, .lst true 0 []], by kernel_rfl, by kernel_rfl⟩, by decide⟩
@[simp] theorem zt_22 : zeroT Tryd.prog 22 = some (.lst true 0 []) := by kernel_rfl
@[simp] theorem zr_22 : zeroE Tryd.prog 22 = some (.lst true 0 []) := by kernel_rfl
@[simp] theorem ld_23 : loadT Tryd.prog 23 = some (4, true) := by kernel_rfl
@[simp] theorem sz_23 : szT Tryd.prog 23 = some 4 := by kernel_rfl
@[simp] theorem ag_23 : aggT Tryd.prog 23 = some true := by kernel_rfl
@[simp] theorem fd_23_0 : fieldT Tryd.prog 23 0 = some (0, 1, false) := by kernel_rfl
@[simp] theorem fd_23_1 : fieldT Tryd.prog 23 1 = some (1, 1, false) := by kernel_rfl
@[simp] theorem fd_23_2 : fieldT Tryd.prog 23 2 = some (2, 1, false) := by kernel_rfl
@[simp] theorem fd_23_3 : fieldT Tryd.prog 23 3 = some (3, 1, false) := by kernel_rfl
@[simp] theorem pl_23 : placesT Tryd.prog 23 = some [(0, 1), (1, 1), (2, 1), (3, 1)] := by kernel_rfl
@[simp] theorem zt_23 : zeroT Tryd.prog 23 = some (.agg [.int .i64 0, .int .i64 0, .str ByteArray.empty, .lst true 0 []]) := by kernel_rfl
@[simp] theorem zr_23 : zeroE Tryd.prog 23 = some (.agg [.int .i64 0, .int .i64 0, .str ByteArray.empty, .lst true 0 []]) := by kernel_rfl
@[simp] theorem ld_24 : loadT Tryd.prog 24 = some (4, true) := by kernel_rfl
@[simp] theorem sz_24 : szT Tryd.prog 24 = some 4 := by kernel_rfl
@[simp] theorem ag_24 : aggT Tryd.prog 24 = some true := by kernel_rfl
@[simp] theorem fd_24_0 : fieldT Tryd.prog 24 0 = some (0, 1, false) := by kernel_rfl
@[simp] theorem fd_24_1 : fieldT Tryd.prog 24 1 = some (1, 1, false) := by kernel_rfl
@[simp] theorem fd_24_2 : fieldT Tryd.prog 24 2 = some (2, 1, false) := by kernel_rfl
@[simp] theorem fd_24_3 : fieldT Tryd.prog 24 3 = some (3, 1, false) := by kernel_rfl
@[simp] theorem pl_24 : placesT Tryd.prog 24 = some [(0, 1), (1, 1), (2, 1), (3, 1)] := by kernel_rfl
@[simp] theorem zt_24 : zeroT Tryd.prog 24 = some (.agg [.int .i64 0, .int .i64 0, .str ByteArray.empty, .lst true 0 []]) := by kernel_rfl
@[simp] theorem zr_24 : zeroE Tryd.prog 24 = some (.agg [.int .i64 0, .int .i64 0, .str ByteArray.empty, .lst true 0 []]) := by kernel_rfl
@[simp] theorem ld_25 : loadT Tryd.prog 25 = some (1, false) := by kernel_rfl
@[simp] theorem sz_25 : szT Tryd.prog 25 = some 1 := by kernel_rfl
@[simp] theorem ag_25 : aggT Tryd.prog 25 = some false := by kernel_rfl
@[simp] theorem ld_30 : loadT Tryd.prog 30 = some (1, false) := by kernel_rfl
@[simp] theorem sz_30 : szT Tryd.prog 30 = some 1 := by kernel_rfl
@[simp] theorem ag_30 : aggT Tryd.prog 30 = some false := by kernel_rfl
@[simp] theorem es_30 : esz Tryd.prog 30 = some 3 := by kernel_rfl
@[simp] theorem el_30 : elemT Tryd.prog 30 = some 44 := by kernel_rfl
@[simp] theorem un_30 : Tryd.prog.underlying 30 = some (.slice 44) := by kernel_rfl
@[simp] theorem ii_30 : isIntT Tryd.prog 30 = some false := by kernel_rfl
@[simp] theorem by_44 : bytesT Tryd.prog 44 = some 32 := by kernel_rfl
theorem et_30 : ElemT Tryd.prog 30 44 3 32 := ⟨by kernel_rfl, by kernel_rfl, by kernel_rfl, by kernel_rfl, ⟨.agg [.int .i64 0, .str ByteArray.empty, .int .i64 0], by kernel_rfl, by kernel_rfl⟩, by decide⟩
@[simp] theorem zt_30 : zeroT Tryd.prog 30 = some (.lst true 0 []) := by kernel_rfl
@[simp] theorem zr_30 : zeroE Tryd.prog 30 = some (.lst true 0 []) := by kernel_rfl
@[simp] theorem ld_31 : loadT Tryd.prog 31 = some (1, false) := by kernel_rfl
@[simp] theorem sz_31 : szT Tryd.prog 31 = some 1 := by kernel_rfl
@[simp] theorem ag_31 : aggT Tryd.prog 31 = some false := by kernel_rfl
@[simp] theorem ld_33 : loadT Tryd.prog 33 = some (1, false) := by kernel_rfl
@[simp] theorem sz_33 : szT Tryd.prog 33 = some 1 := by kernel_rfl
@[simp] theorem ag_33 : aggT Tryd.prog 33 = some false := by kernel_rfl
@[simp] theorem un_33 : Tryd.prog.underlying 33 = some (.pointer 35) := by kernel_rfl
@[simp] theorem zt_33 : zeroT Tryd.prog 33 = some (.nilp) := by kernel_rfl
@[simp] theorem zr_33 : zeroE Tryd.prog 33 = some (.nilp) := by kernel_rfl
@[simp] theorem ld_34 : loadT Tryd.prog 34 = some (4, true) := by kernel_rfl
@[simp] theorem sz_34 : szT Tryd.prog 34 = some 4 := by kernel_rfl
@[simp] theorem ag_34 : aggT Tryd.prog 34 = some true := by kernel_rfl
@[simp] theorem fd_34_0 : fieldT Tryd.prog 34 0 = some (0, 1, false) := by kernel_rfl
@[simp] theorem fd_34_1 : fieldT Tryd.prog 34 1 = some (1, 1, false) := by kernel_rfl
@[simp] theorem fd_34_2 : fieldT Tryd.prog 34 2 = some (2, 1, false) := by kernel_rfl
@[simp] theorem fd_34_3 : fieldT Tryd.prog 34 3 = some (3, 1, false) := by kernel_rfl
@[simp] theorem pl_34 : placesT Tryd.prog 34 = some [(0, 1), (1, 1), (2, 1), (3, 1)] := by kernel_rfl
@[simp] theorem zt_34 : zeroT Tryd.prog 34 = some (.agg [.lst true 0 [], .int .i64 0, .int .i64 0, .bool false]) := by kernel_rfl
@[simp] theorem zr_34 : zeroE Tryd.prog 34 = some (.agg [.lst true 0 [], .int .i64 0, .int .i64 0, .bool false]) := by kernel_rfl
@[simp] theorem ld_35 : loadT Tryd.prog 35 = some (4, true) := by kernel_rfl
@[simp] theorem sz_35 : szT Tryd.prog 35 = some 4 := by kernel_rfl
@[simp] theorem ag_35 : aggT Tryd.prog 35 = some true := by kernel_rfl
@[simp] theorem fd_35_0 : fieldT Tryd.prog 35 0 = some (0, 1, false) := by kernel_rfl
@[simp] theorem fd_35_1 : fieldT Tryd.prog 35 1 = some (1, 1, false) := by kernel_rfl
@[simp] theorem fd_35_2 : fieldT Tryd.prog 35 2 = some (2, 1, false) := by kernel_rfl
@[simp] theorem fd_35_3 : fieldT Tryd.prog 35 3 = some (3, 1, false) := by kernel_rfl
@[simp] theorem pl_35 : placesT Tryd.prog 35 = some [(0, 1), (1, 1), (2, 1), (3, 1)] := by kernel_rfl
@[simp] theorem zt_35 : zeroT Tryd.prog 35 = some (.agg [.lst true 0 [], .int .i64 0, .int .i64 0, .bool false]) := by kernel_rfl
@[simp] theorem zr_35 : zeroE Tryd.prog 35 = some (.agg [.lst true 0 [], .int .i64 0, .int .i64 0, .bool false]) := by kernel_rfl
@[simp] theorem ld_38 : loadT Tryd.prog 38 = some (4, true) := by kernel_rfl
@[simp] theorem sz_38 : szT Tryd.prog 38 = some 4 := by kernel_rfl
@[simp] theorem ag_38 : aggT Tryd.prog 38 = some true := by kernel_rfl
@[simp] theorem fd_38_0 : fieldT Tryd.prog 38 0 = some (0, 1, false) := by kernel_rfl
@[simp] theorem fd_38_1 : fieldT Tryd.prog 38 1 = some (1, 1, false) := by kernel_rfl
@[simp] theorem fd_38_2 : fieldT Tryd.prog 38 2 = some (2, 1, false) := by kernel_rfl
@[simp] theorem fd_38_3 : fieldT Tryd.prog 38 3 = some (3, 1, false) := by kernel_rfl
@[simp] theorem pl_38 : placesT Tryd.prog 38 = some [(0, 1), (1, 1), (2, 1), (3, 1)] := by kernel_rfl
@[simp] theorem zt_38 : zeroT Tryd.prog 38 = some (.agg [.lst true 0 [], .int .i64 0, .int .i64 0, .bool false]) := by kernel_rfl
@[simp] theorem zr_38 : zeroE Tryd.prog 38 = some (.agg [.lst true 0 [], .int .i64 0, .int .i64 0, .bool false]) := by kernel_rfl
@[simp] theorem ld_39 : loadT Tryd.prog 39 = some (4, true) := by kernel_rfl
@[simp] theorem sz_39 : szT Tryd.prog 39 = some 4 := by kernel_rfl
@[simp] theorem ag_39 : aggT Tryd.prog 39 = some true := by kernel_rfl
@[simp] theorem fd_39_0 : fieldT Tryd.prog 39 0 = some (0, 1, false) := by kernel_rfl
@[simp] theorem fd_39_1 : fieldT Tryd.prog 39 1 = some (1, 1, false) := by kernel_rfl
@[simp] theorem fd_39_2 : fieldT Tryd.prog 39 2 = some (2, 1, false) := by kernel_rfl
@[simp] theorem fd_39_3 : fieldT Tryd.prog 39 3 = some (3, 1, false) := by kernel_rfl
@[simp] theorem pl_39 : placesT Tryd.prog 39 = some [(0, 1), (1, 1), (2, 1), (3, 1)] := by kernel_rfl
@[simp] theorem zt_39 : zeroT Tryd.prog 39 = some (.agg [.lst true 0 [], .int .i64 0, .int .i64 0, .bool false]) := by kernel_rfl
@[simp] theorem zr_39 : zeroE Tryd.prog 39 = some (.agg [.lst true 0 [], .int .i64 0, .int .i64 0, .bool false]) := by kernel_rfl
@[simp] theorem ld_43 : loadT Tryd.prog 43 = some (3, true) := by kernel_rfl
@[simp] theorem sz_43 : szT Tryd.prog 43 = some 3 := by kernel_rfl
@[simp] theorem ag_43 : aggT Tryd.prog 43 = some true := by kernel_rfl
@[simp] theorem fd_43_0 : fieldT Tryd.prog 43 0 = some (0, 1, false) := by kernel_rfl
@[simp] theorem fd_43_1 : fieldT Tryd.prog 43 1 = some (1, 1, false) := by kernel_rfl
@[simp] theorem fd_43_2 : fieldT Tryd.prog 43 2 = some (2, 1, false) := by kernel_rfl
@[simp] theorem pl_43 : placesT Tryd.prog 43 = some [(0, 1), (1, 1), (2, 1)] := by kernel_rfl
@[simp] theorem zt_43 : zeroT Tryd.prog 43 = some (.agg [.int .i64 0, .str ByteArray.empty, .int .i64 0]) := by kernel_rfl
@[simp] theorem zr_43 : zeroE Tryd.prog 43 = some (.agg [.int .i64 0, .str ByteArray.empty, .int .i64 0]) := by kernel_rfl
@[simp] theorem ld_44 : loadT Tryd.prog 44 = some (3, true) := by kernel_rfl
@[simp] theorem sz_44 : szT Tryd.prog 44 = some 3 := by kernel_rfl
@[simp] theorem ag_44 : aggT Tryd.prog 44 = some true := by kernel_rfl
@[simp] theorem fd_44_0 : fieldT Tryd.prog 44 0 = some (0, 1, false) := by kernel_rfl
@[simp] theorem fd_44_1 : fieldT Tryd.prog 44 1 = some (1, 1, false) := by kernel_rfl
@[simp] theorem fd_44_2 : fieldT Tryd.prog 44 2 = some (2, 1, false) := by kernel_rfl
@[simp] theorem pl_44 : placesT Tryd.prog 44 = some [(0, 1), (1, 1), (2, 1)] := by kernel_rfl
@[simp] theorem zt_44 : zeroT Tryd.prog 44 = some (.agg [.int .i64 0, .str ByteArray.empty, .int .i64 0]) := by kernel_rfl
@[simp] theorem zr_44 : zeroE Tryd.prog 44 = some (.agg [.int .i64 0, .str ByteArray.empty, .int .i64 0]) := by kernel_rfl
@[simp] theorem ld_45 : loadT Tryd.prog 45 = some (1, false) := by kernel_rfl
@[simp] theorem sz_45 : szT Tryd.prog 45 = some 1 := by kernel_rfl
@[simp] theorem ag_45 : aggT Tryd.prog 45 = some false := by kernel_rfl
@[simp] theorem ld_49 : loadT Tryd.prog 49 = some (1, false) := by kernel_rfl
@[simp] theorem sz_49 : szT Tryd.prog 49 = some 1 := by kernel_rfl
@[simp] theorem ag_49 : aggT Tryd.prog 49 = some false := by kernel_rfl
@[simp] theorem ld_51 : loadT Tryd.prog 51 = some (1, false) := by kernel_rfl
@[simp] theorem sz_51 : szT Tryd.prog 51 = some 1 := by kernel_rfl
@[simp] theorem ag_51 : aggT Tryd.prog 51 = some false := by kernel_rfl
@[simp] theorem un_51 : Tryd.prog.underlying 51 = some (.pointer 39) := by kernel_rfl
@[simp] theorem zt_51 : zeroT Tryd.prog 51 = some (.nilp) := by kernel_rfl
@[simp] theorem zr_51 : zeroE Tryd.prog 51 = some (.nilp) := by kernel_rfl
@[simp] theorem ld_56 : loadT Tryd.prog 56 = some (1, false) := by kernel_rfl
@[simp] theorem sz_56 : szT Tryd.prog 56 = some 1 := by kernel_rfl
@[simp] theorem ag_56 : aggT Tryd.prog 56 = some false := by kernel_rfl
@[simp] theorem ld_59 : loadT Tryd.prog 59 = some (1, false) := by kernel_rfl
@[simp] theorem sz_59 : szT Tryd.prog 59 = some 1 := by kernel_rfl
@[simp] theorem ag_59 : aggT Tryd.prog 59 = some false := by kernel_rfl
@[simp] theorem es_59 : esz Tryd.prog 59 = some 1 := by kernel_rfl
@[simp] theorem el_59 : elemT Tryd.prog 59 = some 9 := by kernel_rfl
@[simp] theorem un_59 : Tryd.prog.underlying 59 = some (.slice 9) := by kernel_rfl
@[simp] theorem ii_59 : isIntT Tryd.prog 59 = some false := by kernel_rfl
@[simp] theorem by_9 : bytesT Tryd.prog 9 = some 16 := by kernel_rfl
theorem et_59 : ElemT Tryd.prog 59 9 1 16 := ⟨by kernel_rfl, by kernel_rfl, by kernel_rfl, by kernel_rfl, ⟨.str ByteArray.empty, by kernel_rfl, by kernel_rfl⟩, by decide⟩
@[simp] theorem zt_59 : zeroT Tryd.prog 59 = some (.lst true 0 []) := by kernel_rfl
@[simp] theorem zr_59 : zeroE Tryd.prog 59 = some (.lst true 0 []) := by kernel_rfl
@[simp] theorem ld_65 : loadT Tryd.prog 65 = some (1, false) := by kernel_rfl
@[simp] theorem sz_65 : szT Tryd.prog 65 = some 1 := by kernel_rfl
@[simp] theorem ag_65 : aggT Tryd.prog 65 = some false := by kernel_rfl
@[simp] theorem es_65 : esz Tryd.prog 65 = some 1 := by kernel_rfl
@[simp] theorem el_65 : elemT Tryd.prog 65 = some 5 := by kernel_rfl
@[simp] theorem un_65 : Tryd.prog.underlying 65 = some (.slice 5) := by kernel_rfl
@[simp] theorem ii_65 : isIntT Tryd.prog 65 = some false := by kernel_rfl
@[simp] theorem by_5 : bytesT Tryd.prog 5 = some 1 := by kernel_rfl
theorem et_65 : ElemT Tryd.prog 65 5 1 1 := ⟨by kernel_rfl, by kernel_rfl, by kernel_rfl, by kernel_rfl, ⟨.int .u8 0, by kernel_rfl, by kernel_rfl⟩, by decide⟩
@[simp] theorem zt_65 : zeroT Tryd.prog 65 = some (.lst true 0 []) := by kernel_rfl
@[simp] theorem zr_65 : zeroE Tryd.prog 65 = some (.lst true 0 []) := by kernel_rfl
@[simp] theorem ld_79 : loadT Tryd.prog 79 = some (1, false) := by kernel_rfl
@[simp] theorem sz_79 : szT Tryd.prog 79 = some 1 := by kernel_rfl
@[simp] theorem ag_79 : aggT Tryd.prog 79 = some false := by kernel_rfl
@[simp] theorem un_79 : Tryd.prog.underlying 79 = some (.int .u64) := by kernel_rfl
@[simp] theorem zt_79 : zeroT Tryd.prog 79 = some (.int .u64 0) := by kernel_rfl
@[simp] theorem zr_79 : zeroE Tryd.prog 79 = some (.int .u64 0) := by kernel_rfl
@[simp] theorem ld_81 : loadT Tryd.prog 81 = some (1, false) := by kernel_rfl
@[simp] theorem sz_81 : szT Tryd.prog 81 = some 1 := by kernel_rfl
@[simp] theorem ag_81 : aggT Tryd.prog 81 = some false := by kernel_rfl
@[simp] theorem un_81 : Tryd.prog.underlying 81 = some (.int .u32) := by kernel_rfl
@[simp] theorem zt_81 : zeroT Tryd.prog 81 = some (.int .u32 0) := by kernel_rfl
@[simp] theorem zr_81 : zeroE Tryd.prog 81 = some (.int .u32 0) := by kernel_rfl
@[simp] theorem ld_82 : loadT Tryd.prog 82 = some (1, false) := by kernel_rfl
@[simp] theorem sz_82 : szT Tryd.prog 82 = some 1 := by kernel_rfl
@[simp] theorem ag_82 : aggT Tryd.prog 82 = some false := by kernel_rfl
@[simp] theorem ld_84 : loadT Tryd.prog 84 = some (24, true) := by kernel_rfl
@[simp] theorem sz_84 : szT Tryd.prog 84 = some 24 := by kernel_rfl
@[simp] theorem ag_84 : aggT Tryd.prog 84 = some true := by kernel_rfl
@[simp] theorem un_84 : Tryd.prog.underlying 84 = some (.array 24 5) := by kernel_rfl
@[simp] theorem pl_84 : placesT Tryd.prog 84 = some [(0, 1), (1, 1), (2, 1), (3, 1), (4, 1), (5, 1), (6, 1), (7, 1), (8, 1), (9, 1), (10, 1), (11, 1), (12, 1), (13, 1), (14, 1), (15, 1), (16, 1), (17, 1), (18, 1), (19, 1), (20, 1), (21, 1), (22, 1), (23, 1)] := by kernel_rfl
@[simp] theorem zt_84 : zeroT Tryd.prog 84 = some (.agg [.int .u8 0, .int .u8 0, .int .u8 0, .int .u8 0, .int .u8 0, .int .u8 0, .int .u8 0, .int .u8 0, .int .u8 0, .int .u8 0, .int .u8 0, .int .u8 0, .int .u8 0, .int .u8 0, .int .u8 0, .int .u8 0, .int .u8 0, .int .u8 0, .int .u8 0, .int .u8 0, .int .u8 0, .int .u8 0, .int .u8 0, .int .u8 0]) := by kernel_rfl
@[simp] theorem zr_84 : zeroE Tryd.prog 84 = some (.agg [.int .u8 0, .int .u8 0, .int .u8 0, .int .u8 0, .int .u8 0, .int .u8 0, .int .u8 0, .int .u8 0, .int .u8 0, .int .u8 0, .int .u8 0, .int .u8 0, .int .u8 0, .int .u8 0, .int .u8 0, .int .u8 0, .int .u8 0, .int .u8 0, .int .u8 0, .int .u8 0, .int .u8 0, .int .u8 0, .int .u8 0, .int .u8 0]) := by kernel_rfl
@[simp] theorem ld_85 : loadT Tryd.prog 85 = some (1, false) := by kernel_rfl
@[simp] theorem sz_85 : szT Tryd.prog 85 = some 1 := by kernel_rfl
@[simp] theorem ag_85 : aggT Tryd.prog 85 = some false := by kernel_rfl
@[simp] theorem un_85 : Tryd.prog.underlying 85 = some (.int .u64) := by kernel_rfl
@[simp] theorem zt_85 : zeroT Tryd.prog 85 = some (.int .u64 0) := by kernel_rfl
@[simp] theorem zr_85 : zeroE Tryd.prog 85 = some (.int .u64 0) := by kernel_rfl
@[simp] theorem ld_88 : loadT Tryd.prog 88 = some (1, false) := by kernel_rfl
@[simp] theorem sz_88 : szT Tryd.prog 88 = some 1 := by kernel_rfl
@[simp] theorem ag_88 : aggT Tryd.prog 88 = some false := by kernel_rfl
@[simp] theorem ld_91 : loadT Tryd.prog 91 = some (20, true) := by kernel_rfl
@[simp] theorem sz_91 : szT Tryd.prog 91 = some 20 := by kernel_rfl
@[simp] theorem ag_91 : aggT Tryd.prog 91 = some true := by kernel_rfl
@[simp] theorem un_91 : Tryd.prog.underlying 91 = some (.array 20 85) := by kernel_rfl
@[simp] theorem pl_91 : placesT Tryd.prog 91 = some [(0, 1), (1, 1), (2, 1), (3, 1), (4, 1), (5, 1), (6, 1), (7, 1), (8, 1), (9, 1), (10, 1), (11, 1), (12, 1), (13, 1), (14, 1), (15, 1), (16, 1), (17, 1), (18, 1), (19, 1)] := by kernel_rfl
@[simp] theorem zt_91 : zeroT Tryd.prog 91 = some (.agg [.int .u64 0, .int .u64 0, .int .u64 0, .int .u64 0, .int .u64 0, .int .u64 0, .int .u64 0, .int .u64 0, .int .u64 0, .int .u64 0, .int .u64 0, .int .u64 0, .int .u64 0, .int .u64 0, .int .u64 0, .int .u64 0, .int .u64 0, .int .u64 0, .int .u64 0, .int .u64 0]) := by kernel_rfl
@[simp] theorem zr_91 : zeroE Tryd.prog 91 = some (.agg [.int .u64 0, .int .u64 0, .int .u64 0, .int .u64 0, .int .u64 0, .int .u64 0, .int .u64 0, .int .u64 0, .int .u64 0, .int .u64 0, .int .u64 0, .int .u64 0, .int .u64 0, .int .u64 0, .int .u64 0, .int .u64 0, .int .u64 0, .int .u64 0, .int .u64 0, .int .u64 0]) := by kernel_rfl
@[simp] theorem ld_92 : loadT Tryd.prog 92 = some (65, true) := by kernel_rfl
@[simp] theorem sz_92 : szT Tryd.prog 92 = some 65 := by kernel_rfl
@[simp] theorem ag_92 : aggT Tryd.prog 92 = some true := by kernel_rfl
@[simp] theorem un_92 : Tryd.prog.underlying 92 = some (.array 65 5) := by kernel_rfl
@[simp] theorem pl_92 : placesT Tryd.prog 92 = some [(0, 1), (1, 1), (2, 1), (3, 1), (4, 1), (5, 1), (6, 1), (7, 1), (8, 1), (9, 1), (10, 1), (11, 1), (12, 1), (13, 1), (14, 1), (15, 1), (16, 1), (17, 1), (18, 1), (19, 1), (20, 1), (21, 1), (22, 1), (23, 1), (24, 1), (25, 1), (26, 1), (27, 1), (28, 1), (29, 1), (30, 1), (31, 1), (32, 1), (33, 1), (34, 1), (35, 1), (36, 1), (37, 1), (38, 1), (39, 1), (40, 1), (41, 1), (42, 1), (43, 1), (44, 1), (45, 1), (46, 1), (47, 1), (48, 1), (49, 1), (50, 1), (51, 1), (52, 1), (53, 1), (54, 1), (55, 1), (56, 1), (57, 1), (58, 1), (59, 1), (60, 1), (61, 1), (62, 1), (63, 1), (64, 1)] := by kernel_rfl
@[simp] theorem zt_92 : zeroT Tryd.prog 92 = some (.agg [.int .u8 0, .int .u8 0, .int .u8 0, .int .u8 0, .int .u8 0, .int .u8 0, .int .u8 0, .int .u8 0, .int .u8 0, .int .u8 0, .int .u8 0, .int .u8 0, .int .u8 0, .int .u8 0, .int .u8 0, .int .u8 0, .int .u8 0, .int .u8 0, .int .u8 0, .int .u8 0, .int .u8 0, .int .u8 0, .int .u8 0, .int .u8 0, .int .u8 0, .int .u8 0, .int .u8 0, .int .u8 0, .int .u8 0, .int .u8 0, .int .u8 0, .int .u8 0, .int .u8 0, .int .u8 0, .int .u8 0, .int .u8 0, .int .u8 0, .int .u8 0, .int .u8 0, .int .u8 0, .int .u8 0, .int .u8 0, .int .u8 0, .int .u8 0, .int .u8 0, .int .u8 0, .int .u8 0, .int .u8 0, .int .u8 0, .int .u8 0, .int .u8 0, .int .u8 0, .int .u8 0, .int .u8 0, .int .u8 0, .int .u8 0, .int .u8 0, .int .u8 0, .int .u8 0, .int .u8 0, .int .u8 0, .int .u8 0, .int .u8 0, .int .u8 0, .int .u8 0]) := by kernel_rfl
@[simp] theorem zr_92 : zeroE Tryd.prog 92 = some (.agg [.int .u8 0, .int .u8 0, .int .u8 0, .int .u8 0, .int .u8 0, .int .u8 0, .int .u8 0, .int .u8 0, .int .u8 0, .int .u8 0, .int .u8 0, .int .u8 0, .int .u8 0, .int .u8 0, .int .u8 0, .int .u8 0, .int .u8 0, .int .u8 0, .int .u8 0, .int .u8 0, .int .u8 0, .int .u8 0, .int .u8 0, .int .u8 0, .int .u8 0, .int .u8 0, .int .u8 0, .int .u8 0, .int .u8 0, .int .u8 0, .int .u8 0, .int .u8 0, .int .u8 0, .int .u8 0, .int .u8 0, .int .u8 0, .int .u8 0, .int .u8 0, .int .u8 0, .int .u8 0, .int .u8 0, .int .u8 0, .int .u8 0, .int .u8 0, .int .u8 0, .int .u8 0, .int .u8 0, .int .u8 0, .int .u8 0, .int .u8 0, .int .u8 0, .int .u8 0, .int .u8 0, .int .u8 0, .int .u8 0, .int .u8 0, .int .u8 0, .int .u8 0, .int .u8 0, .int .u8 0, .int .u8 0, .int .u8 0, .int .u8 0, .int .u8 0, .int .u8 0]) := by kernel_rfl
@[simp] theorem ld_95 : loadT Tryd.prog 95 = some (32, true) := by kernel_rfl
@[simp] theorem sz_95 : szT Tryd.prog 95 = some 32 := by kernel_rfl
@[simp] theorem ag_95 : aggT Tryd.prog 95 = some true := by kernel_rfl
@[simp] theorem un_95 : Tryd.prog.underlying 95 = some (.array 32 5) := by kernel_rfl
@[simp] theorem pl_95 : placesT Tryd.prog 95 = some [(0, 1), (1, 1), (2, 1), (3, 1), (4, 1), (5, 1), (6, 1), (7, 1), (8, 1), (9, 1), (10, 1), (11, 1), (12, 1), (13, 1), (14, 1), (15, 1), (16, 1), (17, 1), (18, 1), (19, 1), (20, 1), (21, 1), (22, 1), (23, 1), (24, 1), (25, 1), (26, 1), (27, 1), (28, 1), (29, 1), (30, 1), (31, 1)] := by kernel_rfl
@[simp] theorem zt_95 : zeroT Tryd.prog 95 = some (.agg [.int .u8 0, .int .u8 0, .int .u8 0, .int .u8 0, .int .u8 0, .int .u8 0, .int .u8 0, .int .u8 0, .int .u8 0, .int .u8 0, .int .u8 0, .int .u8 0, .int .u8 0, .int .u8 0, .int .u8 0, .int .u8 0, .int .u8 0, .int .u8 0, .int .u8 0, .int .u8 0, .int .u8 0, .int .u8 0, .int .u8 0, .int .u8 0, .int .u8 0, .int .u8 0, .int .u8 0, .int .u8 0, .int .u8 0, .int .u8 0, .int .u8 0, .int .u8 0]) := by kernel_rfl
@[simp] theorem zr_95 : zeroE Tryd.prog 95 = some (.agg [.int .u8 0, .int .u8 0, .int .u8 0, .int .u8 0, .int .u8 0, .int .u8 0, .int .u8 0, .int .u8 0, .int .u8 0, .int .u8 0, .int .u8 0, .int .u8 0, .int .u8 0, .int .u8 0, .int .u8 0, .int .u8 0, .int .u8 0, .int .u8 0, .int .u8 0, .int .u8 0, .int .u8 0, .int .u8 0, .int .u8 0, .int .u8 0, .int .u8 0, .int .u8 0, .int .u8 0, .int .u8 0, .int .u8 0, .int .u8 0, .int .u8 0, .int .u8 0]) := by kernel_rfl
@[simp] theorem ld_96 : loadT Tryd.prog 96 = some (64, true) := by kernel_rfl
@[simp] theorem sz_96 : szT Tryd.prog 96 = some 64 := by kernel_rfl
@[simp] theorem ag_96 : aggT Tryd.prog 96 = some true := by kernel_rfl
@[simp] theorem un_96 : Tryd.prog.underlying 96 = some (.array 64 5) := by kernel_rfl
@[simp] theorem pl_96 : placesT Tryd.prog 96 = some [(0, 1), (1, 1), (2, 1), (3, 1), (4, 1), (5, 1), (6, 1), (7, 1), (8, 1), (9, 1), (10, 1), (11, 1), (12, 1), (13, 1), (14, 1), (15, 1), (16, 1), (17, 1), (18, 1), (19, 1), (20, 1), (21, 1), (22, 1), (23, 1), (24, 1), (25, 1), (26, 1), (27, 1), (28, 1), (29, 1), (30, 1), (31, 1), (32, 1), (33, 1), (34, 1), (35, 1), (36, 1), (37, 1), (38, 1), (39, 1), (40, 1), (41, 1), (42, 1), (43, 1), (44, 1), (45, 1), (46, 1), (47, 1), (48, 1), (49, 1), (50, 1), (51, 1), (52, 1), (53, 1), (54, 1), (55, 1), (56, 1), (57, 1), (58, 1), (59, 1), (60, 1), (61, 1), (62, 1), (63, 1)] := by kernel_rfl
@[simp] theorem zt_96 : zeroT Tryd.prog 96 = some (.agg [.int .u8 0, .int .u8 0, .int .u8 0, .int .u8 0, .int .u8 0, .int .u8 0, .int .u8 0, .int .u8 0, .int .u8 0, .int .u8 0, .int .u8 0, .int .u8 0, .int .u8 0, .int .u8 0, .int .u8 0, .int .u8 0, .int .u8 0, .int .u8 0, .int .u8 0, .int .u8 0, .int .u8 0, .int .u8 0, .int .u8 0, .int .u8 0, .int .u8 0, .int .u8 0, .int .u8 0, .int .u8 0, .int .u8 0, .int .u8 0, .int .u8 0, .int .u8 0, .int .u8 0, .int .u8 0, .int .u8 0, .int .u8 0, .int .u8 0, .int .u8 0, .int .u8 0, .int .u8 0, .int .u8 0, .int .u8 0, .int .u8 0, .int .u8 0, .int .u8 0, .int .u8 0, .int .u8 0, .int .u8 0, .int .u8 0, .int .u8 0, .int .u8 0, .int .u8 0, .int .u8 0, .int .u8 0, .int .u8 0, .int .u8 0, .int .u8 0, .int .u8 0, .int .u8 0, .int .u8 0, .int .u8 0, .int .u8 0, .int .u8 0, .int .u8 0]) := by kernel_rfl
@[simp] theorem zr_96 : zeroE Tryd.prog 96 = some (.agg [.int .u8 0, .int .u8 0, .int .u8 0, .int .u8 0, .int .u8 0, .int .u8 0, .int .u8 0, .int .u8 0, .int .u8 0, .int .u8 0, .int .u8 0, .int .u8 0, .int .u8 0, .int .u8 0, .int .u8 0, .int .u8 0, .int .u8 0, .int .u8 0, .int .u8 0, .int .u8 0, .int .u8 0, .int .u8 0, .int .u8 0, .int .u8 0, .int .u8 0, .int .u8 0, .int .u8 0, .int .u8 0, .int .u8 0, .int .u8 0, .int .u8 0, .int .u8 0, .int .u8 0, .int .u8 0, .int .u8 0, .int .u8 0, .int .u8 0, .int .u8 0, .int .u8 0, .int .u8 0, .int .u8 0, .int .u8 0, .int .u8 0, .int .u8 0, .int .u8 0, .int .u8 0, .int .u8 0, .int .u8 0, .int .u8 0, .int .u8 0, .int .u8 0, .int .u8 0, .int .u8 0, .int .u8 0, .int .u8 0, .int .u8 0, .int .u8 0, .int .u8 0, .int .u8 0, .int .u8 0, .int .u8 0, .int .u8 0, .int .u8 0, .int .u8 0]) := by kernel_rfl
@[simp] theorem ld_107 : loadT Tryd.prog 107 = some (1, false) := by kernel_rfl
@[simp] theorem sz_107 : szT Tryd.prog 107 = some 1 := by kernel_rfl
@[simp] theorem ag_107 : aggT Tryd.prog 107 = some false := by kernel_rfl
@[simp] theorem un_107 : Tryd.prog.underlying 107 = some (.pointer 5) := by kernel_rfl
@[simp] theorem zt_107 : zeroT Tryd.prog 107 = some (.nilp) := by kernel_rfl
@[simp] theorem zr_107 : zeroE Tryd.prog 107 = some (.nilp) := by kernel_rfl
@[simp] theorem ld_112 : loadT Tryd.prog 112 = some (1, false) := by kernel_rfl
@[simp] theorem sz_112 : szT Tryd.prog 112 = some 1 := by kernel_rfl
@[simp] theorem ag_112 : aggT Tryd.prog 112 = some false := by kernel_rfl
end Go.T
namespace Go.T
open Go Go.Proofs
set_option maxRecDepth 10000
set_option maxHeartbeats 1000000
set_option linter.unusedSimpArgs false
theorem c_l1In (a b c : Int) : PCall Tryd.prog 49 [.int .i64 a, .int .i64 b, .int .i64 c] (.bool (inR a b c)) := by
  refine pcall_of Tryd.func49 (by kernel_rfl) rfl (by simp [Tryd.f49]) ?_
  (repeat refine AWp.seq ?_); refine AWp.region noP (by kernel_rfl) ?_
  simp
  (repeat refine AWp.seq ?_); refine AWp.region noP (by kernel_rfl) ?_
  by_cases h : b ≤ a
  · simp [h]
    exact AWp.ret (post_ret1 rfl (by simp [inR, h]))
  · simp [h]
    exact AWp.ret (post_ret1 rfl (by simp [inR, h]))
theorem c_inRange (a b c : Int) : PCall Tryd.prog 26 [.int .i64 a, .int .i64 b, .int .i64 c] (.bool (inR a b c)) := by
  refine pcall_of Tryd.func26 (by kernel_rfl) rfl (by simp [Tryd.f26]) ?_
  (repeat refine AWp.seq ?_); refine AWp.region noP (by kernel_rfl) ?_
  simp
  (repeat refine AWp.seq ?_); refine AWp.region noP (by kernel_rfl) ?_
  by_cases h : b ≤ a
  · simp [h]
    exact AWp.ret (post_ret1 rfl (by simp [inR, h]))
  · simp [h]
    exact AWp.ret (post_ret1 rfl (by simp [inR, h]))
theorem c_l2Small (c : UInt8) : PCall Tryd.prog 29 [.int .u8 c.toNat] (.bool (small c)) := by
  refine pcall_of Tryd.func29 (by kernel_rfl) rfl (by simp [Tryd.f29]) ?_
  (repeat refine AWp.seq ?_); refine AWp.region noP (by kernel_rfl) ?_
  simp
  (repeat refine AWp.seq ?_); refine AWp.region allP (by kernel_rfl) ?_
  have hw : IntKind.wrap .i64 (c.toNat : Int) = c.toNat := wrap64 (by omega) (by have := c.toNat_lt; omega)
  simp [hw]
  refine aop_call _ _ _ _ _ _ _ _ (c_l1In _ _ _) ?_
  simp
  exact AWp.ret (post_ret1 rfl (by simp [small]))
theorem c_isLetter (c : UInt8) : PCall Tryd.prog 39 [.int .u8 c.toNat] (.bool (small c)) := by
  refine pcall_of Tryd.func39 (by kernel_rfl) rfl (by simp [Tryd.f39]) ?_
  (repeat refine AWp.seq ?_); refine AWp.region noP (by kernel_rfl) ?_
  simp
  (repeat refine AWp.seq ?_); refine AWp.region noP (by kernel_rfl) ?_
  by_cases h : (97 : Int) ≤ c.toNat
  · simp [h]
    exact AWp.ret (post_ret1 rfl (by simp [inR, small, h]))
  · simp [h]
    exact AWp.ret (post_ret1 rfl (by simp [inR, small, h]))
theorem c_l2Has (l : List ByteArray) (s : ByteArray) (hl : l.length ≤ 9223372036854775806) : PCall Tryd.prog 34 [strs l, .str s] (.bool (has l s)) := by
  refine pcall_of Tryd.func34 (by kernel_rfl) rfl (by simp [Tryd.f34]) ?_
  (repeat refine AWp.seq ?_); refine AWp.region noP (by kernel_rfl) ?_
  simp
  (repeat refine AWp.seq ?_); refine AWp.region noP (by kernel_rfl) ?_
  simp
  (repeat refine AWp.seq ?_); refine AWp.block (AWp.rounds (fun n st => ∃ i : Nat, n = l.length - i ∧ i ≤ l.length ∧ st.slots 0 = strs l ∧ st.slots 1 = .str s ∧ st.slots 5 = .int .i64 i ∧ has l s = has (l.drop i) s) l.length ⟨0, by simp⟩ ?_)
  rintro R n st hR ⟨i, rfl, hi, h0, h1, h5, hr⟩
  (repeat refine AWp.seq ?_); refine AWp.region noP (by kernel_rfl) ?_
  simp [h0, h5, strs]
  refine AWp.cond (b := decide (i < l.length)) (by simp) (fun hb => ?_) (fun hb => ?_)
  · simp at hb
    have hg : l[i]? = some l[i] := List.getElem?_eq_getElem hb
    have hd : l.drop i = l[i] :: l.drop (i + 1) := List.drop_eq_getElem_cons hb
    refine AWp.skip ?_
    simp
    (repeat refine AWp.seq ?_); refine AWp.block ?_; (repeat refine AWp.seq ?_); refine AWp.region noP (by kernel_rfl) ?_
    have hx : idxA Tryd.prog st.mem 59 (.lst false 1 (List.map AV.str l)) (.int .i64 i) = some (.ref [.str l[i]]) := idx (y := .str l[i]) es_59 (by simp [hg])
    simp [h0, h1, h5, strs, hx]
    refine AWp.cond (b := decide (l[i] = s)) (by simp) (fun he => ?_) (fun he => ?_)
    · (repeat refine AWp.seq ?_); refine AWp.region noP (by kernel_rfl) ?_
      simp
      refine AWp.ret (post_ret1 rfl ?_)
      simp at he
      rw [hr, hd, has, List.any_cons]
      simp [he, has]
    · simp at he
      refine AWp.skip ?_
      simp
      refine AWp.region noP (by kernel_rfl) ?_
      have hw : IntKind.wrap .i64 ((i : Int) + 1) = (i + 1 : Nat) := wrap64 (by omega) (by omega)
      simp [h0, h1, h5, hw]
      refine hR _ (l.length - (i + 1)) (by omega) ⟨i + 1, rfl, hb, by simp [h0, strs], by simp [h1], by simp, ?_⟩
      rw [hr, hd, has, List.any_cons]
      simp [he, has]
  · simp at hb
    refine AWp.exit ?_
    simp
    (repeat refine AWp.seq ?_); refine AWp.region noP (by kernel_rfl) ?_
    simp
    refine AWp.ret (post_ret1 rfl ?_)
    have : i = l.length := by omega
    subst this
    simpa [has] using hr
theorem c_l2Kept (s : ByteArray) : PCall Tryd.prog 30 [.str s] (.bool (kept s)) := by
  refine pcall_of Tryd.func30 (by kernel_rfl) rfl (by simp [Tryd.f30]) ?_
  (repeat refine AWp.seq ?_); refine AWp.region noP (by kernel_rfl) ?_
  simp
  (repeat refine AWp.seq ?_); refine AWp.region allP (by kernel_rfl) ?_
  simp
  refine aop_call _ _ _ _ _ _ _ _ ((c_l2Has keptL s (by decide)).arg (.cons (Le.lst _ _ _) (.cons (Le.refl _) .nil))) ?_
  simp
  exact AWp.ret (post_ret1 rfl (by simp [kept]))
theorem c_isKept (s : ByteArray) : PCall Tryd.prog 40 [.str s] (.bool (kept s)) := by
  refine pcall_of Tryd.func40 (by kernel_rfl) rfl (by simp [Tryd.f40]) ?_
  (repeat refine AWp.seq ?_); refine AWp.region noP (by kernel_rfl) ?_
  simp
  (repeat refine AWp.seq ?_); refine AWp.region noP (by kernel_rfl) ?_
  simp
  (repeat refine AWp.seq ?_); refine AWp.block ?_
  (repeat refine AWp.seq ?_); refine AWp.region noP (by kernel_rfl) ?_
  simp
  refine AWp.cond (b := decide (s = ⟨#[97, 114, 114, 97, 121]⟩)) (by simp) (fun h => ?_) (fun h0 => ?_)
  · simp at h
    refine AWp.skip ?_
    simp
    refine AWp.cond (b := true) (by simp [h]) (fun _ => ?_) (fun h => by cases h)
    (repeat refine AWp.seq ?_); refine AWp.region noP (by kernel_rfl) ?_
    simp
    exact AWp.ret (post_ret1 rfl (by simp [kept, has, keptL, h]))
  simp at h0
  (repeat refine AWp.seq ?_); refine AWp.region noP (by kernel_rfl) ?_
  simp
  refine AWp.cond (b := decide (s = ⟨#[102, 111, 114]⟩)) (by simp) (fun h => ?_) (fun h1 => ?_)
  · simp at h
    refine AWp.skip ?_
    simp
    refine AWp.cond (b := true) (by simp [h]) (fun _ => ?_) (fun h => by cases h)
    (repeat refine AWp.seq ?_); refine AWp.region noP (by kernel_rfl) ?_
    simp
    exact AWp.ret (post_ret1 rfl (by simp [kept, has, keptL, h]))
  simp at h1
  (repeat refine AWp.seq ?_); refine AWp.region noP (by kernel_rfl) ?_
  simp
  refine AWp.cond (b := decide (s = ⟨#[116, 111]⟩)) (by simp) (fun h => ?_) (fun h2 => ?_)
  · simp at h
    refine AWp.skip ?_
    simp
    refine AWp.cond (b := true) (by simp [h]) (fun _ => ?_) (fun h => by cases h)
    (repeat refine AWp.seq ?_); refine AWp.region noP (by kernel_rfl) ?_
    simp
    exact AWp.ret (post_ret1 rfl (by simp [kept, has, keptL, h]))
  simp at h2
  (repeat refine AWp.seq ?_); refine AWp.region noP (by kernel_rfl) ?_
  simp
  refine AWp.cond (b := decide (s = ⟨#[112, 114, 105, 110, 116]⟩)) (by simp) (fun h => ?_) (fun h3 => ?_)
  · simp at h
    refine AWp.skip ?_
    simp
    refine AWp.cond (b := true) (by simp [h]) (fun _ => ?_) (fun h => by cases h)
    (repeat refine AWp.seq ?_); refine AWp.region noP (by kernel_rfl) ?_
    simp
    exact AWp.ret (post_ret1 rfl (by simp [kept, has, keptL, h]))
  simp at h3
  (repeat refine AWp.seq ?_); refine AWp.region noP (by kernel_rfl) ?_
  simp
  refine AWp.cond (b := decide (s = ⟨#[109, 105, 110]⟩)) (by simp) (fun h => ?_) (fun h4 => ?_)
  · simp at h
    refine AWp.skip ?_
    simp
    refine AWp.cond (b := true) (by simp [h]) (fun _ => ?_) (fun h => by cases h)
    (repeat refine AWp.seq ?_); refine AWp.region noP (by kernel_rfl) ?_
    simp
    exact AWp.ret (post_ret1 rfl (by simp [kept, has, keptL, h]))
  simp at h4
  (repeat refine AWp.seq ?_); refine AWp.region noP (by kernel_rfl) ?_
  simp
  refine AWp.cond (b := decide (s = ⟨#[109, 97, 120]⟩)) (by simp) (fun h => ?_) (fun h5 => ?_)
  · simp at h
    (repeat refine AWp.seq ?_); refine AWp.region noP (by kernel_rfl) ?_
    simp
    exact AWp.ret (post_ret1 rfl (by simp [kept, has, keptL, h]))
  · simp at h5
    refine AWp.skip ?_
    simp
    (repeat refine AWp.seq ?_); refine AWp.region noP (by kernel_rfl) ?_
    simp
    refine AWp.ret (post_ret1 rfl ?_)
    simp [kept, has, keptL]
    refine ⟨Ne.symm h0, Ne.symm h1, Ne.symm h2, Ne.symm h3, Ne.symm h4, Ne.symm h5⟩
theorem c_spec_NameOk (s : ByteArray) (hs : s.size ≤ 9223372036854775806) : PCall Tryd.prog 31 [.str s] (.bool (nameOk s)) := by
  refine pcall_of Tryd.func31 (by kernel_rfl) rfl (by simp [Tryd.f31]) ?_
  (repeat refine AWp.seq ?_); refine AWp.region noP (by kernel_rfl) ?_
  simp
  (repeat refine AWp.seq ?_); refine AWp.region noP (by kernel_rfl) ?_
  simp
  (repeat refine AWp.seq ?_); refine AWp.block (AWp.rounds (fun n st => ∃ i : Nat, n = s.size - i ∧ i ≤ s.size ∧ st.slots 0 = .str s ∧ st.slots 3 = .int .i64 i ∧ s.data.toList.all small = (s.data.toList.drop i).all small) s.size ⟨0, by simp⟩ ?_)
  rintro R n st hR ⟨i, rfl, hi, h0, h3, hr⟩
  (repeat refine AWp.seq ?_); refine AWp.region noP (by kernel_rfl) ?_
  simp [h0, h3]
  refine AWp.cond (b := decide (i < s.size)) (by simp) (fun hb => ?_) (fun hb => ?_)
  · simp at hb
    obtain ⟨b, hg, hd⟩ := all_drop hb small
    refine AWp.skip ?_
    simp
    (repeat refine AWp.seq ?_); refine AWp.block ?_; (repeat refine AWp.seq ?_); refine AWp.region allP (by kernel_rfl) ?_
    have hx : sidxA Tryd.prog 9 (.str s) (.int .i64 i) = some (.int .u8 b.toNat) := sidx un_9 hg
    simp [h0, h3, hx]
    refine aop_call _ _ _ _ _ _ _ _ (c_l2Small _) ?_
    simp
    refine AWp.cond (b := !small b) (by simp) (fun he => ?_) (fun he => ?_)
    · (repeat refine AWp.seq ?_); refine AWp.region noP (by kernel_rfl) ?_
      simp
      refine AWp.ret (post_ret1 rfl ?_)
      simp at he
      simp [nameOk, hr, hd, he]
    · simp at he
      refine AWp.skip ?_
      simp
      refine AWp.region noP (by kernel_rfl) ?_
      have hw : IntKind.wrap .i64 ((i : Int) + 1) = (i + 1 : Nat) := wrap64 (by omega) (by omega)
      simp [h0, h3, hw]
      refine hR _ (s.size - (i + 1)) (by omega) ⟨i + 1, rfl, hb, by simp [h0], by simp, ?_⟩
      rw [hr, hd, he, Bool.true_and]
  · simp at hb
    have : i = s.size := by omega
    subst this
    rw [drop_size] at hr
    refine AWp.exit ?_
    simp
    (repeat refine AWp.seq ?_); refine AWp.region allP (by kernel_rfl) ?_
    simp [h0]
    refine aop_call _ _ _ _ _ _ _ _ (c_l1In _ _ _) ?_
    cases h1 : inR (s.size : Int) 1 6
    · simp
      exact AWp.ret (post_ret1 rfl (by simp [nameOk, h1]))
    · simp [h0]
      refine aop_call _ _ _ _ _ _ _ _ (c_l2Kept _) ?_
      simp
      exact AWp.ret (post_ret1 rfl (by simp [nameOk, hr, h1]))
theorem c_impl_NameOk (s : ByteArray) (hs : s.size ≤ 9223372036854775806) : PCall Tryd.prog 41 [.str s] (.bool (nameOk s)) := by
  refine pcall_of Tryd.func41 (by kernel_rfl) rfl (by simp [Tryd.f41]) ?_
  (repeat refine AWp.seq ?_); refine AWp.region noP (by kernel_rfl) ?_
  simp
  (repeat refine AWp.seq ?_); refine AWp.region noP (by kernel_rfl) ?_
  simp
  (repeat refine AWp.seq ?_); refine AWp.block (AWp.rounds (fun n st => ∃ i : Nat, n = s.size - i ∧ i ≤ s.size ∧ st.slots 0 = .str s ∧ st.slots 3 = .int .i64 i ∧ s.data.toList.all small = (s.data.toList.drop i).all small) s.size ⟨0, by simp⟩ ?_)
  rintro R n st hR ⟨i, rfl, hi, h0, h3, hr⟩
  (repeat refine AWp.seq ?_); refine AWp.region noP (by kernel_rfl) ?_
  simp [h0, h3]
  refine AWp.cond (b := decide (i < s.size)) (by simp) (fun hb => ?_) (fun hb => ?_)
  · simp at hb
    obtain ⟨b, hg, hd⟩ := all_drop hb small
    refine AWp.skip ?_
    simp
    (repeat refine AWp.seq ?_); refine AWp.block ?_; (repeat refine AWp.seq ?_); refine AWp.region allP (by kernel_rfl) ?_
    have hx : sidxA Tryd.prog 9 (.str s) (.int .i64 i) = some (.int .u8 b.toNat) := sidx un_9 hg
    simp [h0, h3, hx]
    refine aop_call _ _ _ _ _ _ _ _ (c_isLetter _) ?_
    simp
    refine AWp.cond (b := !small b) (by simp) (fun he => ?_) (fun he => ?_)
    · (repeat refine AWp.seq ?_); refine AWp.region noP (by kernel_rfl) ?_
      simp
      refine AWp.ret (post_ret1 rfl ?_)
      simp at he
      simp [nameOk, hr, hd, he]
    · simp at he
      refine AWp.skip ?_
      simp
      refine AWp.region noP (by kernel_rfl) ?_
      have hw : IntKind.wrap .i64 ((i : Int) + 1) = (i + 1 : Nat) := wrap64 (by omega) (by omega)
      simp [h0, h3, hw]
      refine hR _ (s.size - (i + 1)) (by omega) ⟨i + 1, rfl, hb, by simp [h0], by simp, ?_⟩
      rw [hr, hd, he, Bool.true_and]
  · simp at hb
    have : i = s.size := by omega
    subst this
    rw [drop_size] at hr
    refine AWp.exit ?_
    simp
    (repeat refine AWp.seq ?_); refine AWp.region allP (by kernel_rfl) ?_
    simp [h0]
    refine aop_call _ _ _ _ _ _ _ _ (c_inRange _ _ _) ?_
    cases h1 : inR (s.size : Int) 1 6
    · simp
      exact AWp.ret (post_ret1 rfl (by simp [nameOk, h1]))
    · simp [h0]
      refine aop_call _ _ _ _ _ _ _ _ (c_isKept _) ?_
      simp
      exact AWp.ret (post_ret1 rfl (by simp [nameOk, hr, h1]))
end Go.T
namespace Go.T
open Go Go.Proofs
set_option maxRecDepth 10000
set_option maxHeartbeats 1000000
set_option linter.unusedSimpArgs false
set_option linter.unusedVariables false
end Go.T
namespace Go.T
open Go Go.Proofs
set_option maxRecDepth 10000
set_option maxHeartbeats 1000000
set_option linter.unusedSimpArgs false
set_option linter.unusedVariables false
theorem c_eqExpS (l : List Ex) (hl : l.length ≤ 1048576) (h : ∀ x ∈ l, PCall Tryd.prog 6 [x.av, x.av] (.bool true)) :
    PCall Tryd.prog 15 [.lst false 4 (l.map Ex.av), .lst false 4 (l.map Ex.av)] (.bool true) := by
  refine pcall_of Tryd.func15 (by kernel_rfl) rfl (by simp [Tryd.f15]) ?_
  (repeat refine AWp.seq ?_); refine AWp.region noP (by kernel_rfl) ?_
  simp
  (repeat refine AWp.seq ?_); refine AWp.region noP (by kernel_rfl) ?_
  simp
  refine AWp.cond (b := false) (by simp) (fun h => by cases h) (fun _ => ?_)
  refine AWp.skip ?_
  simp
  (repeat refine AWp.seq ?_); refine AWp.region noP (by kernel_rfl) ?_
  simp
  (repeat refine AWp.seq ?_); refine AWp.block (AWp.rounds (fun m st => ∃ (i : Nat), m = l.length - i ∧ i ≤ l.length ∧ st.slots 0 = .lst false 4 (l.map Ex.av) ∧ st.slots 1 = .lst false 4 (l.map Ex.av) ∧ st.slots 5 = .int .i64 i) l.length ⟨0, by simp, by simp, by simp, by simp, by simp⟩ ?_)
  rintro R m st hR ⟨i, rfl, hi, s0, s1, s5⟩
  (repeat refine AWp.seq ?_); refine AWp.region noP (by kernel_rfl) ?_
  simp [s0, s5]
  refine AWp.cond (b := decide (i < l.length)) (by simp) (fun hb => ?_) (fun hb => ?_)
  · simp at hb
    have hq : l[i]? = some l[i] := List.getElem?_eq_getElem hb
    refine AWp.skip ?_
    simp
    (repeat refine AWp.seq ?_); refine AWp.block ?_; (repeat refine AWp.seq ?_); refine AWp.region allP (by kernel_rfl) ?_
    have hx1 : idxA Tryd.prog st.mem 22 (.lst false 4 (l.map Ex.av)) (.int .i64 i) = some (.ref l[i].cells) := idx (y := l[i].av) es_22 (by simp [hq])
    simp [s0, s1, s5, hx1]
    refine aop_call _ _ _ _ _ _ _ _ (h l[i] (List.getElem_mem _)) ?_
    simp
    refine AWp.cond (b := false) (by simp) (fun h => by cases h) (fun _ => ?_)
    refine AWp.skip ?_
    simp
    (repeat refine AWp.seq ?_); refine AWp.region noP (by kernel_rfl) ?_
    have hw : IntKind.wrap .i64 ((i : Int) + 1) = (i + 1 : Nat) := wrap64 (by omega) (by omega)
    simp [s5, hw]
    exact hR _ (l.length - (i + 1)) (by omega) ⟨i + 1, rfl, hb, by simp [s0], by simp [s1], by simp⟩
  · simp at hb
    refine AWp.exit ?_
    simp
    (repeat refine AWp.seq ?_); refine AWp.region noP (by kernel_rfl) ?_
    simp
    exact AWp.ret (post_ret1 rfl (by simp))
theorem c_eqExp0 (k m : Int) (s : ByteArray) (l : List Ex) (hl : l.length ≤ 1048576) (h : ∀ x ∈ l, PCall Tryd.prog 6 [x.av, x.av] (.bool true)) : PCall Tryd.prog 6 [(Ex.mk k m s l).av, (Ex.mk k m s l).av] (.bool true) := by
  unfold Ex.av
  rw [Ex.cells_mk]
  refine pcall_of Tryd.func6 (by kernel_rfl) rfl (by simp [Tryd.f6]) ?_
  (repeat refine AWp.seq ?_); refine AWp.region noP (by kernel_rfl) ?_
  simp [set_at]
  intro g1 g2 h2
  have n21 : g2 ≠ g1 := fun e => by simp [e] at h2
  have m12 := n21.symm
  (repeat refine AWp.seq ?_); refine AWp.region noP (by kernel_rfl) ?_
  simp [set_at, n21, m12]
  refine AWp.cond (b := false) (by simp) (fun h => by cases h) (fun _ => ?_)
  refine AWp.skip ?_
  simp
  (repeat refine AWp.seq ?_); refine AWp.region noP (by kernel_rfl) ?_
  simp [set_at, n21, m12]
  refine AWp.cond (b := false) (by simp) (fun h => by cases h) (fun _ => ?_)
  refine AWp.skip ?_
  simp
  (repeat refine AWp.seq ?_); refine AWp.region noP (by kernel_rfl) ?_
  simp [set_at, n21, m12]
  refine AWp.cond (b := false) (by simp) (fun h => by cases h) (fun _ => ?_)
  refine AWp.skip ?_
  simp
  (repeat refine AWp.seq ?_); refine AWp.region allP (by kernel_rfl) ?_
  simp [set_at, n21, m12]
  refine aop_call _ _ _ _ _ _ _ _ (c_eqExpS l hl h) ?_
  simp [set_at, n21, m12]
  refine AWp.cond (b := false) (by simp) (fun h => by cases h) (fun _ => ?_)
  refine AWp.skip ?_
  simp
  (repeat refine AWp.seq ?_); refine AWp.region noP (by kernel_rfl) ?_
  simp
  exact AWp.ret (post_ret1 rfl (by simp))
theorem c_eqExp (e : Ex) : e.tot ≤ 1048576 → PCall Tryd.prog 6 [e.av, e.av] (.bool true) := by
  induction e using Ex.ind with | h k m s l h =>
  intro ht
  rw [Ex.tot_mk] at ht
  have hl := totL_len Ex.tot l
  exact c_eqExp0 k m s l (by omega) (fun x hx => h x hx (by have := totL_mem Ex.tot hx; omega))
end Go.T
namespace Go.T
open Go Go.Proofs
set_option maxRecDepth 10000
set_option maxHeartbeats 1000000
set_option linter.unusedSimpArgs false
set_option linter.unusedVariables false
theorem c_isTwo (k : Int) : PCall Tryd.prog 66 [.int .i64 k] (.bool (inR k 4 8)) := by
  refine pcall_of Tryd.func66 (by kernel_rfl) rfl (by simp [Tryd.f66]) ?_
  repeat' (first
    | refine AWp.seq ?_
    | (refine AWp.region allP (by kernel_rfl) ?_; simp)
    | (refine AWp.condG ?_; simp)
    | (refine AWp.skip ?_; try simp)
    | (refine AWp.exit ?_; try simp)
    | refine AWp.block ?_
    | (refine aop_call' (c_inRange _ _ _) ?_; simp)
    | (refine AWp.ret (post_ret1 rfl ?_); (simp; done))
    | (refine guardI (fun hq => ?_) (fun hq => ?_) <;> (try simp at hq) <;> (try simp))
    | (refine condRunI (fun hq => ?_) (fun hq => ?_) <;> (try simp at hq) <;> (try simp))
    | (refine iteI (fun hq => ?_) (fun hq => ?_) <;> (try simp)))
theorem c_partsOk (k n : Int) (s : ByteArray) (l : List Ex) (hs : s.size ≤ 9223372036854775806) : PCall Tryd.prog 48 [(Ex.mk k n s l).av] (.bool (partsOk k n s l.length)) := by
  refine pcall_of Tryd.func48 (by kernel_rfl) rfl (by simp [Tryd.f48]) ?_
  unfold Ex.av
  rw [Ex.cells_mk]
  (repeat refine AWp.seq ?_); refine AWp.region noP (by kernel_rfl) ?_
  simp
  intro g
  by_cases k1 : k = 1
  · repeat' (first
    | refine AWp.seq ?_
    | (refine AWp.region allP (by kernel_rfl) ?_; simp [*])
    | (refine AWp.condG ?_; simp [*])
    | (refine AWp.skip ?_; try simp)
    | (refine AWp.exit ?_; try simp)
    | refine AWp.block ?_
    | (refine aop_call' (c_inRange _ _ _) ?_; simp [*])
    | (refine aop_call' (c_impl_NameOk _ hs) ?_; simp [*])
    | (refine aop_call' (c_isTwo _) ?_; simp [*])
    | (refine AWp.ret (post_ret1 rfl ?_); (simp_all [partsOk, noS]; done))
    | (refine guardI (fun hq => ?_) (fun hq => ?_) <;> (try simp at hq) <;> (try simp [*]))
    | (refine condRunI (fun hq => ?_) (fun hq => ?_) <;> (try simp at hq) <;> (try simp [*]))
    | (refine iteI (fun hq => ?_) (fun hq => ?_) <;> (try simp [*])))
  by_cases k2 : k = 2
  · repeat' (first
    | refine AWp.seq ?_
    | (refine AWp.region allP (by kernel_rfl) ?_; simp [*])
    | (refine AWp.condG ?_; simp [*])
    | (refine AWp.skip ?_; try simp)
    | (refine AWp.exit ?_; try simp)
    | refine AWp.block ?_
    | (refine aop_call' (c_inRange _ _ _) ?_; simp [*])
    | (refine aop_call' (c_impl_NameOk _ hs) ?_; simp [*])
    | (refine aop_call' (c_isTwo _) ?_; simp [*])
    | (refine AWp.ret (post_ret1 rfl ?_); (simp_all [partsOk, noS]; done))
    | (refine guardI (fun hq => ?_) (fun hq => ?_) <;> (try simp at hq) <;> (try simp [*]))
    | (refine condRunI (fun hq => ?_) (fun hq => ?_) <;> (try simp at hq) <;> (try simp [*]))
    | (refine iteI (fun hq => ?_) (fun hq => ?_) <;> (try simp [*])))
  by_cases k3 : k = 3
  · repeat' (first
    | refine AWp.seq ?_
    | (refine AWp.region allP (by kernel_rfl) ?_; simp [*])
    | (refine AWp.condG ?_; simp [*])
    | (refine AWp.skip ?_; try simp)
    | (refine AWp.exit ?_; try simp)
    | refine AWp.block ?_
    | (refine aop_call' (c_inRange _ _ _) ?_; simp [*])
    | (refine aop_call' (c_impl_NameOk _ hs) ?_; simp [*])
    | (refine aop_call' (c_isTwo _) ?_; simp [*])
    | (refine AWp.ret (post_ret1 rfl ?_); (simp_all [partsOk, noS]; done))
    | (refine guardI (fun hq => ?_) (fun hq => ?_) <;> (try simp at hq) <;> (try simp [*]))
    | (refine condRunI (fun hq => ?_) (fun hq => ?_) <;> (try simp at hq) <;> (try simp [*]))
    | (refine iteI (fun hq => ?_) (fun hq => ?_) <;> (try simp [*])))
  repeat' (first
    | refine AWp.seq ?_
    | (refine AWp.region allP (by kernel_rfl) ?_; simp [*])
    | (refine AWp.condG ?_; simp [*])
    | (refine AWp.skip ?_; try simp)
    | (refine AWp.exit ?_; try simp)
    | refine AWp.block ?_
    | (refine aop_call' (c_inRange _ _ _) ?_; simp [*])
    | (refine aop_call' (c_impl_NameOk _ hs) ?_; simp [*])
    | (refine aop_call' (c_isTwo _) ?_; simp [*])
    | (refine AWp.ret (post_ret1 rfl ?_); (simp_all [partsOk, noS]; done))
    | (refine guardI (fun hq => ?_) (fun hq => ?_) <;> (try simp at hq) <;> (try simp [*]))
    | (refine condRunI (fun hq => ?_) (fun hq => ?_) <;> (try simp at hq) <;> (try simp [*]))
    | (refine iteI (fun hq => ?_) (fun hq => ?_) <;> (try simp [*])))
end Go.T
namespace Go.T
open Go Go.Proofs
set_option maxRecDepth 10000
set_option maxHeartbeats 1000000
set_option linter.unusedSimpArgs false
set_option linter.unusedVariables false
theorem c_l3Parts (k : Int) : PCall Tryd.prog 59 [.int .i64 k] (.int .i64 (partsN k)) := by
  refine pcall_of Tryd.func59 (by kernel_rfl) rfl (by simp [Tryd.f59]) ?_
  by_cases k1 : k = 1
  · subst k1
    repeat' (first
    | refine AWp.seq ?_
    | (refine AWp.region allP (by kernel_rfl) ?_; simp [*])
    | (refine AWp.condG ?_; simp [*])
    | (refine AWp.skip ?_; try simp)
    | (refine AWp.exit ?_; try simp)
    | refine AWp.block ?_
    | (refine AWp.ret (post_ret1 rfl ?_); (simp_all [partsN, inR]; done))
    | (refine guardI (fun hq => ?_) (fun hq => ?_) <;> (try simp at hq) <;> (try simp [*]))
    | (refine condRunI (fun hq => ?_) (fun hq => ?_) <;> (try simp at hq) <;> (try simp [*]))
    | (refine iteI (fun hq => ?_) (fun hq => ?_) <;> (try simp [*])))
  by_cases k2 : k = 2
  · subst k2
    repeat' (first
    | refine AWp.seq ?_
    | (refine AWp.region allP (by kernel_rfl) ?_; simp [*])
    | (refine AWp.condG ?_; simp [*])
    | (refine AWp.skip ?_; try simp)
    | (refine AWp.exit ?_; try simp)
    | refine AWp.block ?_
    | (refine AWp.ret (post_ret1 rfl ?_); (simp_all [partsN, inR]; done))
    | (refine guardI (fun hq => ?_) (fun hq => ?_) <;> (try simp at hq) <;> (try simp [*]))
    | (refine condRunI (fun hq => ?_) (fun hq => ?_) <;> (try simp at hq) <;> (try simp [*]))
    | (refine iteI (fun hq => ?_) (fun hq => ?_) <;> (try simp [*])))
  by_cases k3 : k = 3
  · subst k3
    repeat' (first
    | refine AWp.seq ?_
    | (refine AWp.region allP (by kernel_rfl) ?_; simp [*])
    | (refine AWp.condG ?_; simp [*])
    | (refine AWp.skip ?_; try simp)
    | (refine AWp.exit ?_; try simp)
    | refine AWp.block ?_
    | (refine AWp.ret (post_ret1 rfl ?_); (simp_all [partsN, inR]; done))
    | (refine guardI (fun hq => ?_) (fun hq => ?_) <;> (try simp at hq) <;> (try simp [*]))
    | (refine condRunI (fun hq => ?_) (fun hq => ?_) <;> (try simp at hq) <;> (try simp [*]))
    | (refine iteI (fun hq => ?_) (fun hq => ?_) <;> (try simp [*])))
  by_cases k4 : k = 4
  · subst k4
    repeat' (first
    | refine AWp.seq ?_
    | (refine AWp.region allP (by kernel_rfl) ?_; simp [*])
    | (refine AWp.condG ?_; simp [*])
    | (refine AWp.skip ?_; try simp)
    | (refine AWp.exit ?_; try simp)
    | refine AWp.block ?_
    | (refine AWp.ret (post_ret1 rfl ?_); (simp_all [partsN, inR]; done))
    | (refine guardI (fun hq => ?_) (fun hq => ?_) <;> (try simp at hq) <;> (try simp [*]))
    | (refine condRunI (fun hq => ?_) (fun hq => ?_) <;> (try simp at hq) <;> (try simp [*]))
    | (refine iteI (fun hq => ?_) (fun hq => ?_) <;> (try simp [*])))
  by_cases k5 : k = 5
  · subst k5
    repeat' (first
    | refine AWp.seq ?_
    | (refine AWp.region allP (by kernel_rfl) ?_; simp [*])
    | (refine AWp.condG ?_; simp [*])
    | (refine AWp.skip ?_; try simp)
    | (refine AWp.exit ?_; try simp)
    | refine AWp.block ?_
    | (refine AWp.ret (post_ret1 rfl ?_); (simp_all [partsN, inR]; done))
    | (refine guardI (fun hq => ?_) (fun hq => ?_) <;> (try simp at hq) <;> (try simp [*]))
    | (refine condRunI (fun hq => ?_) (fun hq => ?_) <;> (try simp at hq) <;> (try simp [*]))
    | (refine iteI (fun hq => ?_) (fun hq => ?_) <;> (try simp [*])))
  by_cases k6 : k = 6
  · subst k6
    repeat' (first
    | refine AWp.seq ?_
    | (refine AWp.region allP (by kernel_rfl) ?_; simp [*])
    | (refine AWp.condG ?_; simp [*])
    | (refine AWp.skip ?_; try simp)
    | (refine AWp.exit ?_; try simp)
    | refine AWp.block ?_
    | (refine AWp.ret (post_ret1 rfl ?_); (simp_all [partsN, inR]; done))
    | (refine guardI (fun hq => ?_) (fun hq => ?_) <;> (try simp at hq) <;> (try simp [*]))
    | (refine condRunI (fun hq => ?_) (fun hq => ?_) <;> (try simp at hq) <;> (try simp [*]))
    | (refine iteI (fun hq => ?_) (fun hq => ?_) <;> (try simp [*])))
  by_cases k7 : k = 7
  · subst k7
    repeat' (first
    | refine AWp.seq ?_
    | (refine AWp.region allP (by kernel_rfl) ?_; simp [*])
    | (refine AWp.condG ?_; simp [*])
    | (refine AWp.skip ?_; try simp)
    | (refine AWp.exit ?_; try simp)
    | refine AWp.block ?_
    | (refine AWp.ret (post_ret1 rfl ?_); (simp_all [partsN, inR]; done))
    | (refine guardI (fun hq => ?_) (fun hq => ?_) <;> (try simp at hq) <;> (try simp [*]))
    | (refine condRunI (fun hq => ?_) (fun hq => ?_) <;> (try simp at hq) <;> (try simp [*]))
    | (refine iteI (fun hq => ?_) (fun hq => ?_) <;> (try simp [*])))
  by_cases k8 : k = 8
  · subst k8
    repeat' (first
    | refine AWp.seq ?_
    | (refine AWp.region allP (by kernel_rfl) ?_; simp [*])
    | (refine AWp.condG ?_; simp [*])
    | (refine AWp.skip ?_; try simp)
    | (refine AWp.exit ?_; try simp)
    | refine AWp.block ?_
    | (refine AWp.ret (post_ret1 rfl ?_); (simp_all [partsN, inR]; done))
    | (refine guardI (fun hq => ?_) (fun hq => ?_) <;> (try simp at hq) <;> (try simp [*]))
    | (refine condRunI (fun hq => ?_) (fun hq => ?_) <;> (try simp at hq) <;> (try simp [*]))
    | (refine iteI (fun hq => ?_) (fun hq => ?_) <;> (try simp [*])))
  have hk : ¬ (4 ≤ k ∧ k ≤ 8) := by omega
  repeat' (first
    | refine AWp.seq ?_
    | (refine AWp.region allP (by kernel_rfl) ?_; simp [*])
    | (refine AWp.condG ?_; simp [*])
    | (refine AWp.skip ?_; try simp)
    | (refine AWp.exit ?_; try simp)
    | refine AWp.block ?_
    | (refine AWp.ret (post_ret1 rfl ?_); (simp_all [partsN, inR]; done))
    | (refine guardI (fun hq => ?_) (fun hq => ?_) <;> (try simp at hq) <;> (try simp [*]))
    | (refine condRunI (fun hq => ?_) (fun hq => ?_) <;> (try simp at hq) <;> (try simp [*]))
    | (refine iteI (fun hq => ?_) (fun hq => ?_) <;> (try simp [*])))
theorem c_l3Here (k n : Int) (s : ByteArray) (l : List Ex) (hs : s.size ≤ 9223372036854775806) : PCall Tryd.prog 37 [(Ex.mk k n s l).av] (.bool (partsOk k n s l.length)) := by
  refine pcall_of Tryd.func37 (by kernel_rfl) rfl (by simp [Tryd.f37]) ?_
  unfold Ex.av
  rw [Ex.cells_mk]
  (repeat refine AWp.seq ?_); refine AWp.region noP (by kernel_rfl) ?_
  simp
  intro g
  by_cases k1 : k = 1
  · subst k1
    repeat' (first
    | refine AWp.seq ?_
    | (refine AWp.region allP (by kernel_rfl) ?_; simp [*])
    | (refine AWp.condG ?_; simp [*])
    | (refine AWp.skip ?_; try simp)
    | (refine AWp.exit ?_; try simp)
    | refine AWp.block ?_
    | (refine aop_call' (c_l3Parts _) ?_; simp [*])
    | (refine aop_call' (c_l1In _ _ _) ?_; simp [*])
    | (refine aop_call' (c_spec_NameOk _ hs) ?_; simp [*])
    | (refine AWp.ret (post_ret1 rfl ?_); (simp_all [partsOk, partsN, noS, @eq_comm Int]; done))
    | (refine guardI (fun hq => ?_) (fun hq => ?_) <;> (try simp at hq) <;> (try simp [*]))
    | (refine condRunI (fun hq => ?_) (fun hq => ?_) <;> (try simp at hq) <;> (try simp [*]))
    | (refine iteI (fun hq => ?_) (fun hq => ?_) <;> (try simp [*])))
  by_cases n0 : n = 0
  · subst n0
    by_cases k2 : k = 2
    · subst k2
      repeat' (first
    | refine AWp.seq ?_
    | (refine AWp.region allP (by kernel_rfl) ?_; simp [*])
    | (refine AWp.condG ?_; simp [*])
    | (refine AWp.skip ?_; try simp)
    | (refine AWp.exit ?_; try simp)
    | refine AWp.block ?_
    | (refine aop_call' (c_l3Parts _) ?_; simp [*])
    | (refine aop_call' (c_l1In _ _ _) ?_; simp [*])
    | (refine aop_call' (c_spec_NameOk _ hs) ?_; simp [*])
    | (refine AWp.ret (post_ret1 rfl ?_); (simp_all [partsOk, partsN, noS, @eq_comm Int]; done))
    | (refine guardI (fun hq => ?_) (fun hq => ?_) <;> (try simp at hq) <;> (try simp [*]))
    | (refine condRunI (fun hq => ?_) (fun hq => ?_) <;> (try simp at hq) <;> (try simp [*]))
    | (refine iteI (fun hq => ?_) (fun hq => ?_) <;> (try simp [*])))
    by_cases k3 : k = 3
    · subst k3
      repeat' (first
    | refine AWp.seq ?_
    | (refine AWp.region allP (by kernel_rfl) ?_; simp [*])
    | (refine AWp.condG ?_; simp [*])
    | (refine AWp.skip ?_; try simp)
    | (refine AWp.exit ?_; try simp)
    | refine AWp.block ?_
    | (refine aop_call' (c_l3Parts _) ?_; simp [*])
    | (refine aop_call' (c_l1In _ _ _) ?_; simp [*])
    | (refine aop_call' (c_spec_NameOk _ hs) ?_; simp [*])
    | (refine AWp.ret (post_ret1 rfl ?_); (simp_all [partsOk, partsN, noS, @eq_comm Int]; done))
    | (refine guardI (fun hq => ?_) (fun hq => ?_) <;> (try simp at hq) <;> (try simp [*]))
    | (refine condRunI (fun hq => ?_) (fun hq => ?_) <;> (try simp at hq) <;> (try simp [*]))
    | (refine iteI (fun hq => ?_) (fun hq => ?_) <;> (try simp [*])))
    by_cases k4 : inR k 4 8 = true
    · repeat' (first
    | refine AWp.seq ?_
    | (refine AWp.region allP (by kernel_rfl) ?_; simp [*])
    | (refine AWp.condG ?_; simp [*])
    | (refine AWp.skip ?_; try simp)
    | (refine AWp.exit ?_; try simp)
    | refine AWp.block ?_
    | (refine aop_call' (c_l3Parts _) ?_; simp [*])
    | (refine aop_call' (c_l1In _ _ _) ?_; simp [*])
    | (refine aop_call' (c_spec_NameOk _ hs) ?_; simp [*])
    | (refine AWp.ret (post_ret1 rfl ?_); (simp_all [partsOk, partsN, noS, @eq_comm Int]; done))
    | (refine guardI (fun hq => ?_) (fun hq => ?_) <;> (try simp at hq) <;> (try simp [*]))
    | (refine condRunI (fun hq => ?_) (fun hq => ?_) <;> (try simp at hq) <;> (try simp [*]))
    | (refine iteI (fun hq => ?_) (fun hq => ?_) <;> (try simp [*])))
    · repeat' (first
    | refine AWp.seq ?_
    | (refine AWp.region allP (by kernel_rfl) ?_; simp [*])
    | (refine AWp.condG ?_; simp [*])
    | (refine AWp.skip ?_; try simp)
    | (refine AWp.exit ?_; try simp)
    | refine AWp.block ?_
    | (refine aop_call' (c_l3Parts _) ?_; simp [*])
    | (refine aop_call' (c_l1In _ _ _) ?_; simp [*])
    | (refine aop_call' (c_spec_NameOk _ hs) ?_; simp [*])
    | (refine AWp.ret (post_ret1 rfl ?_); (simp_all [partsOk, partsN, noS, @eq_comm Int]; done))
    | (refine guardI (fun hq => ?_) (fun hq => ?_) <;> (try simp at hq) <;> (try simp [*]))
    | (refine condRunI (fun hq => ?_) (fun hq => ?_) <;> (try simp at hq) <;> (try simp [*]))
    | (refine iteI (fun hq => ?_) (fun hq => ?_) <;> (try simp [*])))
  · by_cases k2 : k = 2
    · subst k2
      repeat' (first
    | refine AWp.seq ?_
    | (refine AWp.region allP (by kernel_rfl) ?_; simp [*])
    | (refine AWp.condG ?_; simp [*])
    | (refine AWp.skip ?_; try simp)
    | (refine AWp.exit ?_; try simp)
    | refine AWp.block ?_
    | (refine aop_call' (c_l3Parts _) ?_; simp [*])
    | (refine aop_call' (c_l1In _ _ _) ?_; simp [*])
    | (refine aop_call' (c_spec_NameOk _ hs) ?_; simp [*])
    | (refine AWp.ret (post_ret1 rfl ?_); (simp_all [partsOk, partsN, noS, @eq_comm Int]; done))
    | (refine guardI (fun hq => ?_) (fun hq => ?_) <;> (try simp at hq) <;> (try simp [*]))
    | (refine condRunI (fun hq => ?_) (fun hq => ?_) <;> (try simp at hq) <;> (try simp [*]))
    | (refine iteI (fun hq => ?_) (fun hq => ?_) <;> (try simp [*])))
    by_cases k3 : k = 3
    · subst k3
      repeat' (first
    | refine AWp.seq ?_
    | (refine AWp.region allP (by kernel_rfl) ?_; simp [*])
    | (refine AWp.condG ?_; simp [*])
    | (refine AWp.skip ?_; try simp)
    | (refine AWp.exit ?_; try simp)
    | refine AWp.block ?_
    | (refine aop_call' (c_l3Parts _) ?_; simp [*])
    | (refine aop_call' (c_l1In _ _ _) ?_; simp [*])
    | (refine aop_call' (c_spec_NameOk _ hs) ?_; simp [*])
    | (refine AWp.ret (post_ret1 rfl ?_); (simp_all [partsOk, partsN, noS, @eq_comm Int]; done))
    | (refine guardI (fun hq => ?_) (fun hq => ?_) <;> (try simp at hq) <;> (try simp [*]))
    | (refine condRunI (fun hq => ?_) (fun hq => ?_) <;> (try simp at hq) <;> (try simp [*]))
    | (refine iteI (fun hq => ?_) (fun hq => ?_) <;> (try simp [*])))
    by_cases k4 : inR k 4 8 = true
    · repeat' (first
    | refine AWp.seq ?_
    | (refine AWp.region allP (by kernel_rfl) ?_; simp [*])
    | (refine AWp.condG ?_; simp [*])
    | (refine AWp.skip ?_; try simp)
    | (refine AWp.exit ?_; try simp)
    | refine AWp.block ?_
    | (refine aop_call' (c_l3Parts _) ?_; simp [*])
    | (refine aop_call' (c_l1In _ _ _) ?_; simp [*])
    | (refine aop_call' (c_spec_NameOk _ hs) ?_; simp [*])
    | (refine AWp.ret (post_ret1 rfl ?_); (simp_all [partsOk, partsN, noS, @eq_comm Int]; done))
    | (refine guardI (fun hq => ?_) (fun hq => ?_) <;> (try simp at hq) <;> (try simp [*]))
    | (refine condRunI (fun hq => ?_) (fun hq => ?_) <;> (try simp at hq) <;> (try simp [*]))
    | (refine iteI (fun hq => ?_) (fun hq => ?_) <;> (try simp [*])))
    · repeat' (first
    | refine AWp.seq ?_
    | (refine AWp.region allP (by kernel_rfl) ?_; simp [*])
    | (refine AWp.condG ?_; simp [*])
    | (refine AWp.skip ?_; try simp)
    | (refine AWp.exit ?_; try simp)
    | refine AWp.block ?_
    | (refine aop_call' (c_l3Parts _) ?_; simp [*])
    | (refine aop_call' (c_l1In _ _ _) ?_; simp [*])
    | (refine aop_call' (c_spec_NameOk _ hs) ?_; simp [*])
    | (refine AWp.ret (post_ret1 rfl ?_); (simp_all [partsOk, partsN, noS, @eq_comm Int]; done))
    | (refine guardI (fun hq => ?_) (fun hq => ?_) <;> (try simp at hq) <;> (try simp [*]))
    | (refine condRunI (fun hq => ?_) (fun hq => ?_) <;> (try simp at hq) <;> (try simp [*]))
    | (refine iteI (fun hq => ?_) (fun hq => ?_) <;> (try simp [*])))
end Go.T
namespace Go.T
open Go Go.Proofs
set_option maxRecDepth 10000
set_option maxHeartbeats 1000000
set_option linter.unusedSimpArgs false
set_option linter.unusedVariables false
theorem c_measure0 (k n : Int) (s : ByteArray) (l : List Ex) (ht : (Ex.mk k n s l).tot ≤ 1048576) (h : ∀ x ∈ l, ∀ d : Nat, d ≤ 9 → PCall Tryd.prog 27 [x.av, .int .i64 d] (.int .i64 (x.msr d))) (d : Nat) (hd : d ≤ 9) :
    PCall Tryd.prog 27 [(Ex.mk k n s l).av, .int .i64 d] (.int .i64 ((Ex.mk k n s l).msr d)) := by
  rw [Ex.msr_mk]
  rw [Ex.tot_mk] at ht
  have hlen := totL_len Ex.tot l
  have hsum := sumL_le Ex.nodes Ex.tot l (fun x _ => Ex.nodes_le x)
  have hs : s.size ≤ 9223372036854775806 := by omega
  refine pcall_of Tryd.func27 (by kernel_rfl) rfl (by simp [Tryd.f27]) ?_
  have hav : (Ex.mk k n s l).av = .agg [.int .i64 k, .int .i64 n, .str s, .lst false 4 (l.map Ex.av)] := by unfold Ex.av; rw [Ex.cells_mk]; rfl
  rw [hav]
  (repeat refine AWp.seq ?_); refine AWp.region noP (by kernel_rfl) ?_
  simp
  intro g
  have c1 := c_partsOk k n s l hs
  rw [hav] at c1
  by_cases hd8 : 8 < d
  · have hd9 : ¬ d ≤ 8 := by omega
    have hdi : (8 : Int) < d := by omega
    repeat' (first
    | refine AWp.seq ?_
    | (refine AWp.region allP (by kernel_rfl) ?_; simp [*])
    | (refine AWp.condG ?_; simp [*])
    | (refine AWp.skip ?_; try simp)
    | (refine AWp.exit ?_; try simp)
    | refine AWp.block ?_
    | (refine aop_call' (c1) ?_; simp [*])
    | (refine AWp.ret (post_ret1 rfl ?_); (simp [*]; done))
    | (refine guardI (fun hq => ?_) (fun hq => ?_) <;> (try simp at hq) <;> (try simp [*]))
    | (refine condRunI (fun hq => ?_) (fun hq => ?_) <;> (try simp at hq) <;> (try simp [*]))
    | (refine iteI (fun hq => ?_) (fun hq => ?_) <;> (try simp [*])))
  have hd9 : d ≤ 8 := by omega
  have hdi : (d : Int) ≤ 8 := by omega
  have hdj : ¬ ((8 : Int) < d) := by omega
  cases hp : partsOk k n s l.length
  · repeat' (first
    | refine AWp.seq ?_
    | (refine AWp.region allP (by kernel_rfl) ?_; simp [*])
    | (refine AWp.condG ?_; simp [*])
    | (refine AWp.skip ?_; try simp)
    | (refine AWp.exit ?_; try simp)
    | refine AWp.block ?_
    | (refine aop_call' (c1) ?_; simp [*])
    | (refine AWp.ret (post_ret1 rfl ?_); (simp [*]; done))
    | (refine guardI (fun hq => ?_) (fun hq => ?_) <;> (try simp at hq) <;> (try simp [*]))
    | (refine condRunI (fun hq => ?_) (fun hq => ?_) <;> (try simp at hq) <;> (try simp [*]))
    | (refine iteI (fun hq => ?_) (fun hq => ?_) <;> (try simp [*])))
  repeat' (first
    | refine AWp.seq ?_
    | (refine AWp.region allP (by kernel_rfl) ?_; simp [*])
    | (refine AWp.condG ?_; simp [*])
    | (refine AWp.skip ?_; try simp)
    | (refine AWp.exit ?_; try simp)
    | refine AWp.block ?_
    | (refine aop_call' (c1) ?_; simp [*])
    | (refine guardI (fun hq => ?_) (fun hq => ?_) <;> (try simp at hq) <;> (try simp [*]))
    | (refine condRunI (fun hq => ?_) (fun hq => ?_) <;> (try simp at hq) <;> (try simp [*]))
    | (refine iteI (fun hq => ?_) (fun hq => ?_) <;> (try simp [*])))
  refine (AWp.rounds (fun m st => ∃ (i : Nat) (q : Int), m = l.length - i ∧ i ≤ l.length ∧ st.slots 17 = .lst false 4 (l.map Ex.av) ∧ st.slots 18 = .int .i64 l.length ∧ st.slots 19 = .int .i64 i ∧ st.slots 1 = .int .i64 d ∧ st.slots 5 = .int .i64 q ∧ 0 ≤ q ∧ q + sumL Ex.nodes (l.drop i) ≤ 1 + sumL Ex.nodes l ∧ Ex.msrs l (d + 1) 1 = Ex.msrs (l.drop i) (d + 1) q) l.length ⟨0, 1, by simp, by simp, by simp, by simp, by simp, by simp, by simp, by omega, by simp, by simp⟩ ?_)
  rintro R m st hR ⟨i, q, rfl, hi, s17, s18, s19, s1, s5, hq0, hq1, hr⟩
  (repeat refine AWp.seq ?_); refine AWp.region noP (by kernel_rfl) ?_
  simp [s18, s19]
  (repeat refine AWp.seq ?_)
  refine AWp.cond (b := decide (i < l.length)) (by simp) (fun hb => ?_) (fun hb => ?_)
  · simp at hb
    have hg : l[i]? = some l[i] := List.getElem?_eq_getElem hb
    have hdr : l.drop i = l[i] :: l.drop (i + 1) := List.drop_eq_getElem_cons hb
    refine AWp.skip ?_
    simp
    (repeat refine AWp.seq ?_); refine AWp.block ?_; (repeat refine AWp.seq ?_); refine AWp.region noP (by kernel_rfl) ?_
    have hx : idxA Tryd.prog st.mem 22 (.lst false 4 (l.map Ex.av)) (.int .i64 i) = some (.ref l[i].cells) := idx (y := l[i].av) es_22 (by simp [hg])
    simp [s17, s18, s19, hx]
    intro g2 hg2
    have hw1 : IntKind.wrap .i64 ((d : Int) + 1) = ((d + 1 : Nat) : Int) := wrap64 (by omega) (by omega)
    (repeat refine AWp.seq ?_); refine AWp.region allP (by kernel_rfl) ?_
    simp [s1, hw1]
    refine aop_call' (h l[i] (List.getElem_mem _) (d + 1) (by omega)) ?_
    simp
    (repeat refine AWp.seq ?_); refine AWp.region noP (by kernel_rfl) ?_
    simp
    have hz : Ex.msrs l (d + 1) 1 = if l[i].msr (d + 1) < 0 then -1 else Ex.msrs (l.drop (i + 1)) (d + 1) (q + l[i].msr (d + 1)) := by rw [hr, hdr, Ex.msrs_cons]
    refine AWp.cond (b := decide (l[i].msr (d + 1) < 0)) (by simp) (fun he => ?_) (fun he => ?_)
    · simp at he
      (repeat refine AWp.seq ?_); refine AWp.region noP (by kernel_rfl) ?_
      simp
      exact AWp.ret (post_ret1 rfl (by simp [hd9]; rw [hz, if_pos he]))
    · simp at he
      refine AWp.skip ?_
      simp
      have hle : l[i].msr (d + 1) ≤ l[i].nodes := by unfold Ex.msr; split <;> omega
      rw [hdr, sumL] at hq1
      have hw2 : IntKind.wrap .i64 (q + l[i].msr (d + 1)) = q + l[i].msr (d + 1) := wrap64 (by omega) (by omega)
      (repeat refine AWp.seq ?_); refine AWp.region noP (by kernel_rfl) ?_
      simp [s5, hw2]
      (repeat refine AWp.seq ?_); refine AWp.region noP (by kernel_rfl) ?_
      have hw : IntKind.wrap .i64 ((i : Int) + 1) = (i + 1 : Nat) := wrap64 (by omega) (by omega)
      simp [s19, hw]
      refine hR _ (l.length - (i + 1)) (by omega) ⟨i + 1, q + l[i].msr (d + 1), rfl, hb, by simp [s17], by simp [s18], by simp, by simp [s1], by simp, by omega, by omega, ?_⟩
      rw [hz, if_neg (by omega)]
  · simp at hb
    refine AWp.exit ?_
    simp
    (repeat refine AWp.seq ?_); refine AWp.region noP (by kernel_rfl) ?_
    simp [s5]
    have : i = l.length := by omega
    subst this
    refine AWp.ret (post_ret1 rfl ?_)
    simp [hd9]
    rw [hr]
    simp [Ex.msrs, Ex.goods, sumL]
theorem c_measure (e : Ex) : e.tot ≤ 1048576 → ∀ d : Nat, d ≤ 9 → PCall Tryd.prog 27 [e.av, .int .i64 d] (.int .i64 (e.msr d)) := by
  induction e using Ex.ind with | h k n s l h =>
  intro ht d hd
  refine c_measure0 k n s l ht (fun x hx => h x hx ?_) d hd
  rw [Ex.tot_mk] at ht
  have := totL_mem Ex.tot hx
  omega
theorem c_impl_ExpOk (e : Ex) (ht : e.tot ≤ 1048576) : PCall Tryd.prog 14 [e.av] (.bool e.ok) := by
  refine pcall_of Tryd.func14 (by kernel_rfl) rfl (by simp [Tryd.f14]) ?_
  have c1 := c_measure e ht 1 (by omega)
  unfold Ex.av at c1 ⊢
  (repeat refine AWp.seq ?_); refine AWp.region noP (by kernel_rfl) ?_
  simp
  intro g
  (repeat refine AWp.seq ?_); refine AWp.region allP (by kernel_rfl) ?_
  simp
  refine aop_call' c1 ?_
  simp
  refine aop_call' (c_inRange _ _ _) ?_
  simp
  refine AWp.ret (post_ret1 rfl ?_)
  simp only [put_slot, reduceIte]
  congr 1
  rw [Bool.eq_iff_iff]
  simp [Ex.ok, Ex.msr, inR]
  have : 1 ≤ e.nodes := by cases e; rw [Ex.nodes]; omega
  by_cases h1 : e.good 1 = true <;> simp [h1] <;> omega
end Go.T
namespace Go.T
open Go Go.Proofs
set_option maxRecDepth 10000
set_option maxHeartbeats 1000000
set_option linter.unusedSimpArgs false
set_option linter.unusedVariables false
theorem c_l3Count0 (k n : Int) (s : ByteArray) (l : List Ex) (ht : (Ex.mk k n s l).tot ≤ 1048576) (h : ∀ x ∈ l, ∀ d : Nat, d ≤ 9 → PCall Tryd.prog 22 [x.av, .int .i64 d] (.int .i64 (x.cnt d))) (d : Nat) (hd : d ≤ 9) :
    PCall Tryd.prog 22 [(Ex.mk k n s l).av, .int .i64 d] (.int .i64 ((Ex.mk k n s l).cnt d)) := by
  rw [Ex.cnt]
  rw [Ex.tot_mk] at ht
  have hlen := totL_len Ex.tot l
  have hsum := sumL_le Ex.nodes Ex.tot l (fun x _ => Ex.nodes_le x)
  have hs : s.size ≤ 9223372036854775806 := by omega
  refine pcall_of Tryd.func22 (by kernel_rfl) rfl (by simp [Tryd.f22]) ?_
  have hav : (Ex.mk k n s l).av = .agg [.int .i64 k, .int .i64 n, .str s, .lst false 4 (l.map Ex.av)] := by unfold Ex.av; rw [Ex.cells_mk]; rfl
  rw [hav]
  (repeat refine AWp.seq ?_); refine AWp.region noP (by kernel_rfl) ?_
  simp
  intro g
  have c1 := c_l3Here k n s l hs
  rw [hav] at c1
  by_cases hd8 : 8 < d
  · have hd9 : ¬ d ≤ 8 := by omega
    have hdi : (8 : Int) < d := by omega
    repeat' (first
    | refine AWp.seq ?_
    | (refine AWp.region allP (by kernel_rfl) ?_; simp [*])
    | (refine AWp.condG ?_; simp [*])
    | (refine AWp.skip ?_; try simp)
    | (refine AWp.exit ?_; try simp)
    | refine AWp.block ?_
    | (refine aop_call' (c1) ?_; simp [*])
    | (refine AWp.ret (post_ret1 rfl ?_); (simp [*]; done))
    | (refine guardI (fun hq => ?_) (fun hq => ?_) <;> (try simp at hq) <;> (try simp [*]))
    | (refine condRunI (fun hq => ?_) (fun hq => ?_) <;> (try simp at hq) <;> (try simp [*]))
    | (refine iteI (fun hq => ?_) (fun hq => ?_) <;> (try simp [*])))
  have hd9 : d ≤ 8 := by omega
  have hdi : (d : Int) ≤ 8 := by omega
  have hdj : ¬ ((8 : Int) < d) := by omega
  cases hp : partsOk k n s l.length
  · repeat' (first
    | refine AWp.seq ?_
    | (refine AWp.region allP (by kernel_rfl) ?_; simp [*])
    | (refine AWp.condG ?_; simp [*])
    | (refine AWp.skip ?_; try simp)
    | (refine AWp.exit ?_; try simp)
    | refine AWp.block ?_
    | (refine aop_call' (c1) ?_; simp [*])
    | (refine AWp.ret (post_ret1 rfl ?_); (simp [*]; done))
    | (refine guardI (fun hq => ?_) (fun hq => ?_) <;> (try simp at hq) <;> (try simp [*]))
    | (refine condRunI (fun hq => ?_) (fun hq => ?_) <;> (try simp at hq) <;> (try simp [*]))
    | (refine iteI (fun hq => ?_) (fun hq => ?_) <;> (try simp [*])))
  repeat' (first
    | refine AWp.seq ?_
    | (refine AWp.region allP (by kernel_rfl) ?_; simp [*])
    | (refine AWp.condG ?_; simp [*])
    | (refine AWp.skip ?_; try simp)
    | (refine AWp.exit ?_; try simp)
    | refine AWp.block ?_
    | (refine aop_call' (c1) ?_; simp [*])
    | (refine guardI (fun hq => ?_) (fun hq => ?_) <;> (try simp at hq) <;> (try simp [*]))
    | (refine condRunI (fun hq => ?_) (fun hq => ?_) <;> (try simp at hq) <;> (try simp [*]))
    | (refine iteI (fun hq => ?_) (fun hq => ?_) <;> (try simp [*])))
  refine (AWp.rounds (fun m st => ∃ (i : Nat) (q : Int), m = l.length - i ∧ i ≤ l.length ∧ st.slots 2 = .ptr g 0 ∧ st.mem g = some (.box [.int .i64 k, .int .i64 n, .str s, .lst false 4 (l.map Ex.av)]) ∧ st.slots 6 = .int .i64 i ∧ st.slots 1 = .int .i64 d ∧ st.slots 5 = .int .i64 q ∧ 0 ≤ q ∧ q + 100 * sumL Ex.nodes (l.drop i) ≤ 1 + 100 * sumL Ex.nodes l ∧ Ex.cnts l (d + 1) 1 = Ex.cnts (l.drop i) (d + 1) q) l.length ⟨0, 1, by simp, by simp, by simp, by simp, by simp, by simp, by simp, by omega, by simp, by simp⟩ ?_)
  rintro R m st hR ⟨i, q, rfl, hi, s2, sg, s6, s1, s5, hq0, hq1, hr⟩
  have hF : i < l.length ∧ q ≤ 60 ∨ Ex.cnts l (d + 1) 1 = q := by
    by_cases hb : i < l.length
    · by_cases hq : q ≤ 60
      · exact .inl ⟨hb, hq⟩
      · refine .inr ?_
        rw [hr, List.drop_eq_getElem_cons hb, Ex.cnts, if_neg hq]
    · refine .inr ?_
      rw [hr, List.drop_eq_nil_of_le (by omega), Ex.cnts]
  by_cases hb : i < l.length ∧ q ≤ 60
  · obtain ⟨hb, hq⟩ := hb
    have hg : l[i]? = some l[i] := List.getElem?_eq_getElem hb
    have hdr : l.drop i = l[i] :: l.drop (i + 1) := List.drop_eq_getElem_cons hb
    have hbi : (i : Int) < l.length := by omega
    (repeat refine AWp.seq ?_); refine AWp.region noP (by kernel_rfl) ?_
    simp [s2, sg, s5, s6, hb, hq]
    (repeat refine AWp.seq ?_); refine AWp.condT (by simp) ?_
    refine AWp.skip ?_
    simp
    (repeat refine AWp.seq ?_); refine AWp.block ?_; (repeat refine AWp.seq ?_); refine AWp.region allP (by kernel_rfl) ?_
    have hx : idxA Tryd.prog st.mem 22 (.lst false 4 (l.map Ex.av)) (.int .i64 i) = some (.ref l[i].cells) := idx (y := l[i].av) es_22 (by simp [hg])
    have hw1 : IntKind.wrap .i64 ((d : Int) + 1) = ((d + 1 : Nat) : Int) := wrap64 (by omega) (by omega)
    simp [s2, sg, s1, s5, s6, hx, hw1]
    refine aop_call' (h l[i] (List.getElem_mem _) (d + 1) (by omega)) ?_
    have hc0 := l[i].cnt_pos (d + 1)
    have hc1 := l[i].cnt_le (d + 1)
    rw [hdr, sumL] at hq1
    have hw2 : IntKind.wrap .i64 (q + l[i].cnt (d + 1)) = q + l[i].cnt (d + 1) := wrap64 (by omega) (by omega)
    simp [hw2]
    (repeat refine AWp.seq ?_); refine AWp.region noP (by kernel_rfl) ?_
    have hw : IntKind.wrap .i64 ((i : Int) + 1) = (i + 1 : Nat) := wrap64 (by omega) (by omega)
    simp [s6, hw]
    refine hR _ (l.length - (i + 1)) (by omega) ⟨i + 1, q + l[i].cnt (d + 1), rfl, hb, by simp [s2], by simp [sg], by simp, by simp [s1], by simp, by omega, by omega, ?_⟩
    rw [hr, hdr, Ex.cnts, if_pos hq]
  · have hfin : Ex.cnts l (d + 1) 1 = q := hF.resolve_left hb
    (repeat refine AWp.seq ?_); refine AWp.region noP (by kernel_rfl) ?_
    by_cases hb1 : i < l.length
    · have hq : ¬ q ≤ 60 := fun hq => hb ⟨hb1, hq⟩
      simp [s2, sg, s5, s6, hb1, hq]
      (repeat refine AWp.seq ?_); refine AWp.condF (by simp [hq]) ?_
      refine AWp.exit ?_
      simp
      (repeat refine AWp.seq ?_); refine AWp.region noP (by kernel_rfl) ?_
      simp [s5]
      exact AWp.ret (post_ret1 rfl (by simp [hd9, hfin]))
    · simp [s2, sg, s5, s6, hb1]
      (repeat refine AWp.seq ?_); refine AWp.condF (by simp) ?_
      refine AWp.exit ?_
      simp
      (repeat refine AWp.seq ?_); refine AWp.region noP (by kernel_rfl) ?_
      simp [s5]
      exact AWp.ret (post_ret1 rfl (by simp [hd9, hfin]))
theorem c_l3Count (e : Ex) : e.tot ≤ 1048576 → ∀ d : Nat, d ≤ 9 → PCall Tryd.prog 22 [e.av, .int .i64 d] (.int .i64 (e.cnt d)) := by
  induction e using Ex.ind with | h k n s l h =>
  intro ht d hd
  refine c_l3Count0 k n s l ht (fun x hx => h x hx ?_) d hd
  rw [Ex.tot_mk] at ht
  have := totL_mem Ex.tot hx
  omega
theorem c_spec_ExpOk (e : Ex) (ht : e.tot ≤ 1048576) : PCall Tryd.prog 11 [e.av] (.bool e.ok) := by
  refine pcall_of Tryd.func11 (by kernel_rfl) rfl (by simp [Tryd.f11]) ?_
  have c1 := c_l3Count e ht 1 (by omega)
  unfold Ex.av at c1 ⊢
  (repeat refine AWp.seq ?_); refine AWp.region noP (by kernel_rfl) ?_
  simp
  intro g
  (repeat refine AWp.seq ?_); refine AWp.region allP (by kernel_rfl) ?_
  simp
  refine aop_call' c1 ?_
  simp
  exact AWp.ret (post_ret1 rfl (by simp [Ex.ok_cnt]))
end Go.T
namespace Go.T
open Go Go.Proofs
set_option maxRecDepth 10000
set_option maxHeartbeats 1000000
set_option linter.unusedSimpArgs false
set_option linter.unusedVariables false
end Go.T
namespace Go.T
open Go Go.Proofs
set_option maxRecDepth 10000
set_option maxHeartbeats 1000000
set_option linter.unusedSimpArgs false
set_option linter.unusedVariables false
end Go.T
namespace Go.T
open Go Go.Proofs
set_option maxRecDepth 10000
set_option maxHeartbeats 1000000
set_option linter.unusedSimpArgs false
set_option linter.unusedVariables false
end Go.T
namespace Go.T
open Go Go.Proofs
set_option maxRecDepth 10000
set_option maxHeartbeats 1000000
set_option linter.unusedSimpArgs false
set_option linter.unusedVariables false
end Go.T
namespace Go.T
open Go Go.Proofs
set_option maxRecDepth 10000
set_option maxHeartbeats 1000000
set_option linter.unusedSimpArgs false
set_option linter.unusedVariables false
end Go.T
namespace Go.T
open Go Go.Proofs
set_option maxRecDepth 10000
set_option maxHeartbeats 1000000
set_option linter.unusedSimpArgs false
set_option linter.unusedVariables false
end Go.T
namespace Go.T
open Go Go.Proofs
set_option maxRecDepth 10000
set_option maxHeartbeats 1000000
set_option linter.unusedSimpArgs false
set_option linter.unusedVariables false
end Go.T
namespace Go.T
open Go Go.Proofs
set_option maxRecDepth 10000
set_option maxHeartbeats 1000000
set_option linter.unusedSimpArgs false
set_option linter.unusedVariables false
/-- A growing list of strings. -/
abbrev GS (m0 : Mem) (xs : List ByteArray) (v : AV) (m : Mem) : Prop := Grows 9 1 m0 (xs.map .str) v m
theorem GS.push {m0 m : Mem} {xs : List ByteArray} {v : AV} (h : GS m0 xs v m) (s : ByteArray) (hb : xs.length ≤ 16777216) {k : AV → Mem → Prop} (hk : ∀ v' m', GS m0 (xs ++ [s]) v' m' → k v' m') : appendW Tryd.prog m k #[59, 59] v (.lst true 1 [.str s]) := by
  refine Grows.append et_59 h (ys := [.str s]) rfl (by simp) (by simp; omega) (fun v' m' hg => hk v' m' ?_) _ rfl
  simpa [GS] using hg
theorem GS.app {m0 m : Mem} {xs : List ByteArray} {v : AV} (h : GS m0 xs v m) (f : Bool) (ys : List ByteArray) (hb : xs.length + ys.length ≤ 16777216) {k : AV → Mem → Prop} (hk : ∀ v' m', GS m0 (xs ++ ys) v' m' → k v' m') : appendW Tryd.prog m k #[59, 59] v (.lst f 1 (ys.map .str)) := by
  refine Grows.append et_59 h (ys := ys.map .str) rfl (by simp) (by simp; omega) (fun v' m' hg => hk v' m' ?_) _ rfl
  simpa [GS] using hg
theorem GS.ext {m0 m : Mem} {xs : List ByteArray} {v : AV} (h : GS m0 xs v m) : Ext m0 m := by
  cases h with
  | lit _ _ _ h => exact h
  | own _ _ _ _ _ _ _ h => exact h
theorem GS.view {m0 m : Mem} {xs : List ByteArray} {v : AV} (h : GS m0 xs v m) : View m v m0 (strs xs) := Grows.view h
end Go.T
namespace Go.T
open Go Go.Proofs
set_option maxRecDepth 10000
set_option maxHeartbeats 1000000
set_option linter.unusedSimpArgs false
set_option linter.unusedVariables false
end Go.T
namespace Go.T
open Go Go.Proofs
set_option maxRecDepth 10000
set_option maxHeartbeats 1000000
set_option linter.unusedSimpArgs false
set_option linter.unusedVariables false
end Go.T
namespace Go.T
open Go Go.Proofs
set_option maxRecDepth 10000
set_option maxHeartbeats 1000000
set_option linter.unusedSimpArgs false
set_option linter.unusedVariables false
end Go.T
namespace Go.Proofs
open Go.Shelf
end Go.Proofs
namespace Go.Proofs
open Go.T
end Go.Proofs
namespace Go.T
open Go Go.Proofs Go.Sort
set_option maxRecDepth 10000
set_option maxHeartbeats 1000000
set_option linter.unusedSimpArgs false
set_option linter.unusedVariables false
/-- A list of strings that grows: nil, or a row of its own. -/
def GO (m0 : Mem) (xs : List ByteArray) (v : AV) (m : Mem) : Prop := Ext m0 m ∧ ((xs = [] ∧ ∃ f, v = .lst true f []) ∨ ∃ g c, v = .own g xs.length c ∧ m g = some (.arr 9 1 c (xs.map .str)) ∧ m0 g = none)
theorem GO.gs {m0 m : Mem} {xs : List ByteArray} {v : AV} (h : GO m0 xs v m) : GS m0 xs v m := by
  obtain ⟨he, ⟨rfl, f, rfl⟩ | ⟨g, c, rfl, hg, h0⟩⟩ := h
  · exact .lit f m (.inr rfl) he
  · exact .own g c _ m (by simp) hg h0 he
theorem GO.ok {m0 m : Mem} {xs : List ByteArray} {v : AV} (h : GO m0 xs v m) : v.cells = [v] ∧ okCell v = true ∧ v ≠ .undef := by
  obtain ⟨he, ⟨rfl, f, rfl⟩ | ⟨g, c, rfl, hg, h0⟩⟩ := h
  · exact ⟨rfl, rfl, by simp⟩
  · exact ⟨rfl, rfl, by simp⟩
theorem GO.app {m0 m : Mem} {xs : List ByteArray} {v : AV} (h : GO m0 xs v m) (f : Bool) (ys : List ByteArray) (hb : xs.length + ys.length ≤ 16777216) {k : AV → Mem → Prop} (hk : ∀ v' m', GO m0 (xs ++ ys) v' m' → k v' m') : appendW Tryd.prog m k #[59, 59] v (.lst f 1 (ys.map .str)) := by
  have hT := et_59
  obtain ⟨z, hz, hzl⟩ := hT.zero
  unfold appendW
  simp only [List.getElem?_toArray, List.getElem?_cons_zero, List.getElem?_cons_succ, hT.int, hT.elem, hT.size, hT.byte, hz, srcA, true_and, if_true]
  refine ⟨hT.pos.1, hT.pos.2, hzl, ?_⟩
  obtain ⟨he, ⟨rfl, e, rfl⟩ | ⟨g, c, rfl, hg, h0⟩⟩ := h
  · refine ⟨.inr rfl, by simp at hb ⊢; omega, fun h0 => ?_, fun _ g c hg hle => ?_⟩
    · have : ys = [] := by simpa using h0
      subst this
      exact hk _ _ ⟨he, .inl ⟨rfl, e, rfl⟩⟩
    · refine hk _ _ ⟨he.set (he.none hg) _, .inr ⟨g, c, by simp, by simp [set_same], he.none hg⟩⟩
  · simp only [hg]
    refine ⟨trivial, trivial, trivial, by simp, by simp, by simp at hb ⊢; omega, fun g' c' hg' hle => ?_⟩
    have hg0 : m0 g' = none := by
      rcases hg' with rfl | h
      · exact h0
      · exact he.none h
    exact hk _ _ ⟨he.set hg0 _, .inr ⟨g', c', by simp, by simp [set_same], hg0⟩⟩
/-- A call that is told for no memory only answers. -/
theorem WCall.p {P : Program} {n : FuncId} {args : List AV} {r : AV} (hw : WCall P n args (fun _ => none) fun r' _ => r' = r) : PCall P n args r := by
  refine ⟨hw.1, fun w S cargs m hm hr => ?_⟩
  have hm0 : MemRep w S (fun _ => none) := ⟨(fun g b h => by cases h), fun b hb => ⟨rfl, (hm.apart b hb).2⟩⟩
  refine calls_mono (hw.2 w S cargs hm0 hr) ?_
  rintro e w' ⟨v, r', m', S', rfl, rfl, h1, h2, h3, h4, h5, h6⟩
  have hk : Keep (fun _ => False) w w' := h5.mono (fun b h => absurd rfl h)
  refine ⟨v, S', rfl, h1, fun b hb => (h2 b hb).imp id (fun h => h.elim (fun h => absurd rfl h) id), ⟨fun g b hg => ?_, fun b hb => ?_⟩, h4, hk⟩
  · have hlt := (hm.blk g b hg).lt
    exact (hm.blk g b hg).mono (fun b' hb' => hk.block b' (hm.apart b' hb').2 id) h1 (hk.block g hlt id)
  · refine ⟨?_, (h3.apart b hb).2⟩
    rcases h2 b hb with h | h | h
    · exact (hm.apart b h).1
    · exact absurd rfl h
    · cases hq : m b with
      | none => rfl
      | some x => have := (hm.blk b x hq).lt; omega
end Go.T
namespace Go.T
open Go Go.Proofs
set_option maxRecDepth 10000
set_option maxHeartbeats 1000000
set_option linter.unusedSimpArgs false
set_option linter.unusedVariables false
theorem GO.view {m0 m : Mem} {xs : List ByteArray} {v : AV} (h : GO m0 xs v m) : View m v m0 (strs xs) := h.gs.view
theorem GO.mono {m0 m1 m : Mem} {xs : List ByteArray} {v : AV} (h : GO m1 xs v m) (he : Ext m0 m1) : GO m0 xs v m := by
  obtain ⟨h1, h2⟩ := h
  refine ⟨fun g b hg => h1 g b (he g b hg), h2.imp id ?_⟩
  rintro ⟨g, c, a, b, h0⟩
  exact ⟨g, c, a, b, he.none h0⟩
theorem GO.fresh {m0 m : Mem} {xs : List ByteArray} {v : AV} (h : GO m0 xs v m) {g : Nat} (hg : m g = none) (b : Blk) : GO m0 xs v (m.set g b) := by
  obtain ⟨h1, h2⟩ := h
  refine ⟨h1.set (h1.none hg) b, h2.imp id ?_⟩
  rintro ⟨g', c, a, hb, h0⟩
  refine ⟨g', c, a, ?_, h0⟩
  rw [set_at, if_neg]
  · exact hb
  · rintro rfl; rw [hg] at hb; cases hb
end Go.T
