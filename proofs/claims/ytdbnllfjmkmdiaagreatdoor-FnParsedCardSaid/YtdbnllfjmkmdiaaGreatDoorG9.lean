/- Parts of the proof of FnParsed: Facts about the types of the program. -/
import Derived.Test.YtdbnllfjmkmdiaaGreatDoorG8
import Derived.Test.YtdbnllfjmkmdiaaGreatDoorG2
import Derived.Test.YtdbnllfjmkmdiaaGreatDoorProg
import Derived.Test.YtdbnllfjmkmdiaaGreatDoorG3
import Derived.Test.YtdbnllfjmkmdiaaGreatDoorG4
set_option linter.unusedSimpArgs false
set_option linter.unusedVariables false
namespace Go.T
open _root_.ByteArray (empty)
open Go Go.Proofs
set_option maxRecDepth 10000
@[simp] theorem xVf : zRa Tryz.prog 2 = some (1, false) := by kernel_rfl
@[simp] theorem xWf : szT Tryz.prog 2 = some 1 := by kernel_rfl
@[simp] theorem xXf : xta Tryz.prog 2 = some false := by kernel_rfl
@[simp] theorem xYf : Tryz.prog.underlying 2 = some (.int .i64) := by kernel_rfl
@[simp] theorem xZf : yha Tryz.prog 2 = some (.int .i64 0) := by kernel_rfl
@[simp] theorem x0f : zMa Tryz.prog 2 = some (.int .i64 0) := by kernel_rfl
@[simp] theorem x1f : zRa Tryz.prog 3 = some (1, false) := by kernel_rfl
@[simp] theorem x2f : szT Tryz.prog 3 = some 1 := by kernel_rfl
@[simp] theorem x3f : xta Tryz.prog 3 = some false := by kernel_rfl
@[simp] theorem x4f : Tryz.prog.underlying 3 = some (.int .i64) := by kernel_rfl
@[simp] theorem x5f : yha Tryz.prog 3 = some (.int .i64 0) := by kernel_rfl
@[simp] theorem x6f : zMa Tryz.prog 3 = some (.int .i64 0) := by kernel_rfl
@[simp] theorem x7f : zRa Tryz.prog 4 = some (1, false) := by kernel_rfl
@[simp] theorem x8f : szT Tryz.prog 4 = some 1 := by kernel_rfl
@[simp] theorem x9f : xta Tryz.prog 4 = some false := by kernel_rfl
@[simp] theorem waf : Tryz.prog.underlying 4 = some .bool := by kernel_rfl
@[simp] theorem wbf : yha Tryz.prog 4 = some (.bool false) := by kernel_rfl
@[simp] theorem wcf : zMa Tryz.prog 4 = some (.bool false) := by kernel_rfl
@[simp] theorem wdf : zRa Tryz.prog 5 = some (1, false) := by kernel_rfl
@[simp] theorem wef : szT Tryz.prog 5 = some 1 := by kernel_rfl
@[simp] theorem wff : xta Tryz.prog 5 = some false := by kernel_rfl
@[simp] theorem wgf : Tryz.prog.underlying 5 = some (.int .u8) := by kernel_rfl
@[simp] theorem whf : yha Tryz.prog 5 = some (.int .u8 0) := by kernel_rfl
@[simp] theorem wif : zMa Tryz.prog 5 = some (.int .u8 0) := by kernel_rfl
@[simp] theorem zRf : zRa Tryz.prog 9 = some (1, false) := by kernel_rfl
@[simp] theorem wjf : szT Tryz.prog 9 = some 1 := by kernel_rfl
@[simp] theorem wkf : xta Tryz.prog 9 = some false := by kernel_rfl
@[simp] theorem wWe : Tryz.prog.underlying 9 = some .string := by kernel_rfl
@[simp] theorem wlf : yha Tryz.prog 9 = some (.str empty) := by kernel_rfl
@[simp] theorem wmf : zMa Tryz.prog 9 = some (.str empty) := by kernel_rfl
@[simp] theorem zSf : zRa Tryz.prog 21 = some (1, false) := by kernel_rfl
@[simp] theorem zTf : szT Tryz.prog 21 = some 1 := by kernel_rfl
@[simp] theorem zUf : xta Tryz.prog 21 = some false := by kernel_rfl
@[simp] theorem zVf : Tryz.prog.underlying 21 = some (.int .i32) := by kernel_rfl
@[simp] theorem zWf : yha Tryz.prog 21 = some (.int .i32 0) := by kernel_rfl
@[simp] theorem zXf : zMa Tryz.prog 21 = some (.int .i32 0) := by kernel_rfl
@[simp] theorem zYf : zRa Tryz.prog 22 = some (1, false) := by kernel_rfl
@[simp] theorem zZf : szT Tryz.prog 22 = some 1 := by kernel_rfl
@[simp] theorem z0f : xta Tryz.prog 22 = some false := by kernel_rfl
@[simp] theorem es_22 : esz Tryz.prog 22 = some 1 := by kernel_rfl
@[simp] theorem z1f : y2a Tryz.prog 22 = some 5 := by kernel_rfl
@[simp] theorem z2f : Tryz.prog.underlying 22 = some (.slice 5) := by kernel_rfl
@[simp] theorem z3f : xva Tryz.prog 22 = some false := by kernel_rfl
@[simp] theorem wnf : xua Tryz.prog 5 = some 1 := by kernel_rfl
theorem et_22 : zab Tryz.prog 22 5 1 1 := ⟨by kernel_rfl, by kernel_rfl, by kernel_rfl, by kernel_rfl, ⟨.int .u8 0, by kernel_rfl, by kernel_rfl⟩, by decide⟩
@[simp] theorem z4f : yha Tryz.prog 22 = some (.lst true 0 []) := by kernel_rfl
@[simp] theorem z5f : zMa Tryz.prog 22 = some (.lst true 0 []) := by kernel_rfl
@[simp] theorem z6f : zRa Tryz.prog 24 = some (1, false) := by kernel_rfl
@[simp] theorem z7f : szT Tryz.prog 24 = some 1 := by kernel_rfl
@[simp] theorem z8f : xta Tryz.prog 24 = some false := by kernel_rfl
@[simp] theorem es_24 : esz Tryz.prog 24 = some 4 := by kernel_rfl
@[simp] theorem z9f : y2a Tryz.prog 24 = some 26 := by kernel_rfl
@[simp] theorem yaf : Tryz.prog.underlying 24 = some (.slice 26) := by kernel_rfl
@[simp] theorem ybf : xva Tryz.prog 24 = some false := by kernel_rfl
@[simp] theorem ycf : xua Tryz.prog 26 = some 56 := by kernel_rfl
theorem et_24 : zab Tryz.prog 24 26 4 56 := ⟨by kernel_rfl, by kernel_rfl, by kernel_rfl, by kernel_rfl, ⟨.agg [.int .i64 0, .int .i64 0, .str empty, .lst true 0 []], by kernel_rfl, by kernel_rfl⟩, by decide⟩
@[simp] theorem ydf : yha Tryz.prog 24 = some (.lst true 0 []) := by kernel_rfl
@[simp] theorem yef : zMa Tryz.prog 24 = some (.lst true 0 []) := by kernel_rfl
@[simp] theorem yff : zRa Tryz.prog 26 = some (4, true) := by kernel_rfl
@[simp] theorem ygf : szT Tryz.prog 26 = some 4 := by kernel_rfl
@[simp] theorem yhf : xta Tryz.prog 26 = some true := by kernel_rfl
@[simp] theorem x8e : zDa Tryz.prog 26 0 = some (0, 1, false) := by kernel_rfl
@[simp] theorem x9e : zDa Tryz.prog 26 1 = some (1, 1, false) := by kernel_rfl
@[simp] theorem wae : zDa Tryz.prog 26 2 = some (2, 1, false) := by kernel_rfl
@[simp] theorem wbe : zDa Tryz.prog 26 3 = some (3, 1, false) := by kernel_rfl
@[simp] theorem yif : ySa Tryz.prog 26 = some [(0, 1), (1, 1), (2, 1), (3, 1)] := by kernel_rfl
@[simp] theorem yjf : yha Tryz.prog 26 = some (.agg [.int .i64 0, .int .i64 0, .str empty, .lst true 0 []]) := by kernel_rfl
@[simp] theorem ykf : zMa Tryz.prog 26 = some (.agg [.int .i64 0, .int .i64 0, .str empty, .lst true 0 []]) := by kernel_rfl
@[simp] theorem ylf : zRa Tryz.prog 29 = some (1, false) := by kernel_rfl
@[simp] theorem ymf : szT Tryz.prog 29 = some 1 := by kernel_rfl
@[simp] theorem ynf : xta Tryz.prog 29 = some false := by kernel_rfl
@[simp] theorem es_29 : esz Tryz.prog 29 = some 2 := by kernel_rfl
@[simp] theorem yof : y2a Tryz.prog 29 = some 57 := by kernel_rfl
@[simp] theorem ypf : Tryz.prog.underlying 29 = some (.slice 57) := by kernel_rfl
@[simp] theorem yqf : xva Tryz.prog 29 = some false := by kernel_rfl
@[simp] theorem yrf : xua Tryz.prog 57 = some 24 := by kernel_rfl
theorem et_29 : zab Tryz.prog 29 57 2 24 := ⟨by kernel_rfl, by kernel_rfl, by kernel_rfl, by kernel_rfl, ⟨.agg [.str empty, .int .i64 0], by kernel_rfl, by kernel_rfl⟩, by decide⟩
@[simp] theorem ysf : yha Tryz.prog 29 = some (.lst true 0 []) := by kernel_rfl
@[simp] theorem ytf : zMa Tryz.prog 29 = some (.lst true 0 []) := by kernel_rfl
@[simp] theorem yuf : zRa Tryz.prog 30 = some (1, false) := by kernel_rfl
@[simp] theorem yvf : szT Tryz.prog 30 = some 1 := by kernel_rfl
@[simp] theorem ywf : xta Tryz.prog 30 = some false := by kernel_rfl
@[simp] theorem es_30 : esz Tryz.prog 30 = some 19 := by kernel_rfl
@[simp] theorem yxf : y2a Tryz.prog 30 = some 83 := by kernel_rfl
@[simp] theorem yyf : Tryz.prog.underlying 30 = some (.slice 83) := by kernel_rfl
@[simp] theorem yzf : xva Tryz.prog 30 = some false := by kernel_rfl
@[simp] theorem yAf : xua Tryz.prog 83 = some 272 := by kernel_rfl
theorem et_30 : zab Tryz.prog 30 83 19 272 := ⟨by kernel_rfl, by kernel_rfl, by kernel_rfl, by kernel_rfl, ⟨.agg [.int .i64 0, .str empty, .int .i64 0, .int .i64 0, .str empty, .lst true 0 [], .int .i64 0, .int .i64 0, .str empty, .lst true 0 [], .int .i64 0, .int .i64 0, .str empty, .lst true 0 [], .int .i64 0, .int .i64 0, .str empty, .lst true 0 [], .lst true 0 []], by kernel_rfl, by kernel_rfl⟩, by decide⟩
@[simp] theorem yBf : yha Tryz.prog 30 = some (.lst true 0 []) := by kernel_rfl
@[simp] theorem yCf : zMa Tryz.prog 30 = some (.lst true 0 []) := by kernel_rfl
@[simp] theorem yDf : zRa Tryz.prog 32 = some (2, true) := by kernel_rfl
@[simp] theorem yEf : szT Tryz.prog 32 = some 2 := by kernel_rfl
@[simp] theorem yFf : xta Tryz.prog 32 = some true := by kernel_rfl
@[simp] theorem wce : zDa Tryz.prog 32 0 = some (0, 1, false) := by kernel_rfl
@[simp] theorem wde : zDa Tryz.prog 32 1 = some (1, 1, false) := by kernel_rfl
@[simp] theorem yGf : ySa Tryz.prog 32 = some [(0, 1), (1, 1)] := by kernel_rfl
@[simp] theorem yHf : yha Tryz.prog 32 = some (.agg [.lst true 0 [], .lst true 0 []]) := by kernel_rfl
@[simp] theorem yIf : zMa Tryz.prog 32 = some (.agg [.lst true 0 [], .lst true 0 []]) := by kernel_rfl
@[simp] theorem yJf : zRa Tryz.prog 40 = some (1, false) := by kernel_rfl
@[simp] theorem yKf : szT Tryz.prog 40 = some 1 := by kernel_rfl
@[simp] theorem yLf : xta Tryz.prog 40 = some false := by kernel_rfl
@[simp] theorem es_40 : esz Tryz.prog 40 = some 3 := by kernel_rfl
@[simp] theorem yMf : y2a Tryz.prog 40 = some 77 := by kernel_rfl
@[simp] theorem yNf : Tryz.prog.underlying 40 = some (.slice 77) := by kernel_rfl
@[simp] theorem yOf : xva Tryz.prog 40 = some false := by kernel_rfl
@[simp] theorem yPf : xua Tryz.prog 77 = some 32 := by kernel_rfl
theorem et_40 : zab Tryz.prog 40 77 3 32 := ⟨by kernel_rfl, by kernel_rfl, by kernel_rfl, by kernel_rfl, ⟨.agg [.int .i64 0, .str empty, .int .i64 0], by kernel_rfl, by kernel_rfl⟩, by decide⟩
@[simp] theorem yQf : yha Tryz.prog 40 = some (.lst true 0 []) := by kernel_rfl
@[simp] theorem yRf : zMa Tryz.prog 40 = some (.lst true 0 []) := by kernel_rfl
@[simp] theorem ySf : zRa Tryz.prog 49 = some (1, false) := by kernel_rfl
@[simp] theorem yTf : szT Tryz.prog 49 = some 1 := by kernel_rfl
@[simp] theorem yUf : xta Tryz.prog 49 = some false := by kernel_rfl
@[simp] theorem yVf : Tryz.prog.underlying 49 = some (.pointer 110) := by kernel_rfl
@[simp] theorem yWf : yha Tryz.prog 49 = some (.nilp) := by kernel_rfl
@[simp] theorem yXf : zMa Tryz.prog 49 = some (.nilp) := by kernel_rfl
@[simp] theorem yYf : zRa Tryz.prog 53 = some (1, false) := by kernel_rfl
@[simp] theorem yZf : szT Tryz.prog 53 = some 1 := by kernel_rfl
@[simp] theorem y0f : xta Tryz.prog 53 = some false := by kernel_rfl
@[simp] theorem y1f : Tryz.prog.underlying 53 = some (.pointer 55) := by kernel_rfl
@[simp] theorem y2f : yha Tryz.prog 53 = some (.nilp) := by kernel_rfl
@[simp] theorem y3f : zMa Tryz.prog 53 = some (.nilp) := by kernel_rfl
@[simp] theorem y4f : zRa Tryz.prog 55 = some (2, true) := by kernel_rfl
@[simp] theorem y5f : szT Tryz.prog 55 = some 2 := by kernel_rfl
@[simp] theorem y6f : xta Tryz.prog 55 = some true := by kernel_rfl
@[simp] theorem wee : zDa Tryz.prog 55 0 = some (0, 1, false) := by kernel_rfl
@[simp] theorem wfe : zDa Tryz.prog 55 1 = some (1, 1, false) := by kernel_rfl
@[simp] theorem y7f : ySa Tryz.prog 55 = some [(0, 1), (1, 1)] := by kernel_rfl
@[simp] theorem y8f : yha Tryz.prog 55 = some (.agg [.nilp, .lst true 0 []]) := by kernel_rfl
@[simp] theorem y9f : zMa Tryz.prog 55 = some (.agg [.nilp, .lst true 0 []]) := by kernel_rfl
@[simp] theorem wge : zRa Tryz.prog 57 = some (2, true) := by kernel_rfl
@[simp] theorem xaf : szT Tryz.prog 57 = some 2 := by kernel_rfl
@[simp] theorem xbf : xta Tryz.prog 57 = some true := by kernel_rfl
@[simp] theorem whe : zDa Tryz.prog 57 0 = some (0, 1, false) := by kernel_rfl
@[simp] theorem wie : zDa Tryz.prog 57 1 = some (1, 1, false) := by kernel_rfl
@[simp] theorem xcf : ySa Tryz.prog 57 = some [(0, 1), (1, 1)] := by kernel_rfl
@[simp] theorem xdf : yha Tryz.prog 57 = some (.agg [.str empty, .int .i64 0]) := by kernel_rfl
@[simp] theorem xef : zMa Tryz.prog 57 = some (.agg [.str empty, .int .i64 0]) := by kernel_rfl
@[simp] theorem xff : zRa Tryz.prog 68 = some (4, true) := by kernel_rfl
@[simp] theorem xgf : szT Tryz.prog 68 = some 4 := by kernel_rfl
@[simp] theorem xhf : xta Tryz.prog 68 = some true := by kernel_rfl
@[simp] theorem wje : zDa Tryz.prog 68 0 = some (0, 1, false) := by kernel_rfl
@[simp] theorem wke : zDa Tryz.prog 68 1 = some (1, 1, false) := by kernel_rfl
@[simp] theorem wle : zDa Tryz.prog 68 2 = some (2, 1, false) := by kernel_rfl
@[simp] theorem wme : zDa Tryz.prog 68 3 = some (3, 1, false) := by kernel_rfl
@[simp] theorem xif : ySa Tryz.prog 68 = some [(0, 1), (1, 1), (2, 1), (3, 1)] := by kernel_rfl
@[simp] theorem xjf : yha Tryz.prog 68 = some (.agg [.lst true 0 [], .int .i64 0, .int .i64 0, .bool false]) := by kernel_rfl
@[simp] theorem xkf : zMa Tryz.prog 68 = some (.agg [.lst true 0 [], .int .i64 0, .int .i64 0, .bool false]) := by kernel_rfl
@[simp] theorem xlf : zRa Tryz.prog 70 = some (1, false) := by kernel_rfl
@[simp] theorem xmf : szT Tryz.prog 70 = some 1 := by kernel_rfl
@[simp] theorem xnf : xta Tryz.prog 70 = some false := by kernel_rfl
@[simp] theorem es_70 : esz Tryz.prog 70 = some 1 := by kernel_rfl
@[simp] theorem xof : y2a Tryz.prog 70 = some 9 := by kernel_rfl
@[simp] theorem xpf : Tryz.prog.underlying 70 = some (.slice 9) := by kernel_rfl
@[simp] theorem xqf : xva Tryz.prog 70 = some false := by kernel_rfl
@[simp] theorem wof : xua Tryz.prog 9 = some 16 := by kernel_rfl
theorem et_70 : zab Tryz.prog 70 9 1 16 := ⟨by kernel_rfl, by kernel_rfl, by kernel_rfl, by kernel_rfl, ⟨.str empty, by kernel_rfl, by kernel_rfl⟩, by decide⟩
@[simp] theorem xrf : yha Tryz.prog 70 = some (.lst true 0 []) := by kernel_rfl
@[simp] theorem xsf : zMa Tryz.prog 70 = some (.lst true 0 []) := by kernel_rfl
@[simp] theorem xtf : zRa Tryz.prog 77 = some (3, true) := by kernel_rfl
@[simp] theorem xuf : szT Tryz.prog 77 = some 3 := by kernel_rfl
@[simp] theorem xvf : xta Tryz.prog 77 = some true := by kernel_rfl
@[simp] theorem wne : zDa Tryz.prog 77 0 = some (0, 1, false) := by kernel_rfl
@[simp] theorem woe : zDa Tryz.prog 77 1 = some (1, 1, false) := by kernel_rfl
@[simp] theorem wpe : zDa Tryz.prog 77 2 = some (2, 1, false) := by kernel_rfl
@[simp] theorem xwf : ySa Tryz.prog 77 = some [(0, 1), (1, 1), (2, 1)] := by kernel_rfl
@[simp] theorem xxf : yha Tryz.prog 77 = some (.agg [.int .i64 0, .str empty, .int .i64 0]) := by kernel_rfl
@[simp] theorem xyf : zMa Tryz.prog 77 = some (.agg [.int .i64 0, .str empty, .int .i64 0]) := by kernel_rfl
@[simp] theorem xzf : zRa Tryz.prog 83 = some (19, true) := by kernel_rfl
@[simp] theorem xAf : szT Tryz.prog 83 = some 19 := by kernel_rfl
@[simp] theorem xBf : xta Tryz.prog 83 = some true := by kernel_rfl
@[simp] theorem wqe : zDa Tryz.prog 83 0 = some (0, 1, false) := by kernel_rfl
@[simp] theorem wre : zDa Tryz.prog 83 1 = some (1, 1, false) := by kernel_rfl
@[simp] theorem wse : zDa Tryz.prog 83 2 = some (2, 4, true) := by kernel_rfl
@[simp] theorem wte : zDa Tryz.prog 83 3 = some (6, 4, true) := by kernel_rfl
@[simp] theorem wue : zDa Tryz.prog 83 4 = some (10, 4, true) := by kernel_rfl
@[simp] theorem wve : zDa Tryz.prog 83 5 = some (14, 4, true) := by kernel_rfl
@[simp] theorem wwe : zDa Tryz.prog 83 6 = some (18, 1, false) := by kernel_rfl
@[simp] theorem xCf : ySa Tryz.prog 83 = some [(0, 1), (1, 1), (2, 4), (6, 4), (10, 4), (14, 4), (18, 1)] := by kernel_rfl
@[simp] theorem xDf : yha Tryz.prog 83 = some (.agg [.int .i64 0, .str empty, .int .i64 0, .int .i64 0, .str empty, .lst true 0 [], .int .i64 0, .int .i64 0, .str empty, .lst true 0 [], .int .i64 0, .int .i64 0, .str empty, .lst true 0 [], .int .i64 0, .int .i64 0, .str empty, .lst true 0 [], .lst true 0 []]) := by kernel_rfl
@[simp] theorem xEf : zMa Tryz.prog 83 = some (.agg [.int .i64 0, .str empty, .int .i64 0, .int .i64 0, .str empty, .lst true 0 [], .int .i64 0, .int .i64 0, .str empty, .lst true 0 [], .int .i64 0, .int .i64 0, .str empty, .lst true 0 [], .int .i64 0, .int .i64 0, .str empty, .lst true 0 [], .lst true 0 []]) := by kernel_rfl
@[simp] theorem xFf : zRa Tryz.prog 89 = some (1, false) := by kernel_rfl
@[simp] theorem xGf : szT Tryz.prog 89 = some 1 := by kernel_rfl
@[simp] theorem xHf : xta Tryz.prog 89 = some false := by kernel_rfl
@[simp] theorem xIf : Tryz.prog.underlying 89 = some (.pointer 91) := by kernel_rfl
@[simp] theorem xJf : yha Tryz.prog 89 = some (.nilp) := by kernel_rfl
@[simp] theorem xKf : zMa Tryz.prog 89 = some (.nilp) := by kernel_rfl
@[simp] theorem xLf : zRa Tryz.prog 91 = some (4, true) := by kernel_rfl
@[simp] theorem xMf : szT Tryz.prog 91 = some 4 := by kernel_rfl
@[simp] theorem xNf : xta Tryz.prog 91 = some true := by kernel_rfl
@[simp] theorem wxe : zDa Tryz.prog 91 0 = some (0, 1, false) := by kernel_rfl
@[simp] theorem wye : zDa Tryz.prog 91 1 = some (1, 1, false) := by kernel_rfl
@[simp] theorem wze : zDa Tryz.prog 91 2 = some (2, 1, false) := by kernel_rfl
@[simp] theorem wAe : zDa Tryz.prog 91 3 = some (3, 1, false) := by kernel_rfl
@[simp] theorem xOf : ySa Tryz.prog 91 = some [(0, 1), (1, 1), (2, 1), (3, 1)] := by kernel_rfl
@[simp] theorem xPf : yha Tryz.prog 91 = some (.agg [.lst true 0 [], .int .i64 0, .int .i64 0, .bool false]) := by kernel_rfl
@[simp] theorem xQf : zMa Tryz.prog 91 = some (.agg [.lst true 0 [], .int .i64 0, .int .i64 0, .bool false]) := by kernel_rfl
@[simp] theorem wXe : zRa Tryz.prog 110 = some (3, true) := by kernel_rfl
@[simp] theorem wYe : szT Tryz.prog 110 = some 3 := by kernel_rfl
@[simp] theorem wZe : xta Tryz.prog 110 = some true := by kernel_rfl
@[simp] theorem xte : zDa Tryz.prog 110 0 = some (0, 1, false) := by kernel_rfl
@[simp] theorem xue : zDa Tryz.prog 110 1 = some (1, 1, false) := by kernel_rfl
@[simp] theorem xve : zDa Tryz.prog 110 2 = some (2, 1, false) := by kernel_rfl
@[simp] theorem w0e : ySa Tryz.prog 110 = some [(0, 1), (1, 1), (2, 1)] := by kernel_rfl
@[simp] theorem w1e : yha Tryz.prog 110 = some (.agg [.lst true 0 [], .int .i64 0, .int .i64 0]) := by kernel_rfl
@[simp] theorem w2e : zMa Tryz.prog 110 = some (.agg [.lst true 0 [], .int .i64 0, .int .i64 0]) := by kernel_rfl
@[simp] theorem w3e : zRa Tryz.prog 112 = some (1, false) := by kernel_rfl
@[simp] theorem w4e : szT Tryz.prog 112 = some 1 := by kernel_rfl
@[simp] theorem w5e : xta Tryz.prog 112 = some false := by kernel_rfl
@[simp] theorem es_112 : esz Tryz.prog 112 = some 1 := by kernel_rfl
@[simp] theorem w6e : y2a Tryz.prog 112 = some 3 := by kernel_rfl
@[simp] theorem w7e : Tryz.prog.underlying 112 = some (.slice 3) := by kernel_rfl
@[simp] theorem w8e : xva Tryz.prog 112 = some false := by kernel_rfl
@[simp] theorem wpf : xua Tryz.prog 3 = some 8 := by kernel_rfl
theorem et_112 : zab Tryz.prog 112 3 1 8 := ⟨by kernel_rfl, by kernel_rfl, by kernel_rfl, by kernel_rfl, ⟨.int .i64 0, by kernel_rfl, by kernel_rfl⟩, by decide⟩
@[simp] theorem w9e : yha Tryz.prog 112 = some (.lst true 0 []) := by kernel_rfl
@[simp] theorem zaf : zMa Tryz.prog 112 = some (.lst true 0 []) := by kernel_rfl
@[simp] theorem zbf : zRa Tryz.prog 120 = some (1, false) := by kernel_rfl
@[simp] theorem zcf : szT Tryz.prog 120 = some 1 := by kernel_rfl
@[simp] theorem zdf : xta Tryz.prog 120 = some false := by kernel_rfl
@[simp] theorem zef : Tryz.prog.underlying 120 = some (.pointer 5) := by kernel_rfl
@[simp] theorem zff : yha Tryz.prog 120 = some (.nilp) := by kernel_rfl
@[simp] theorem zgf : zMa Tryz.prog 120 = some (.nilp) := by kernel_rfl
@[simp] theorem zhf : zRa Tryz.prog 122 = some (1, false) := by kernel_rfl
@[simp] theorem zif : szT Tryz.prog 122 = some 1 := by kernel_rfl
@[simp] theorem zjf : xta Tryz.prog 122 = some false := by kernel_rfl
@[simp] theorem zkf : Tryz.prog.underlying 122 = some (.pointer 68) := by kernel_rfl
@[simp] theorem zlf : yha Tryz.prog 122 = some (.nilp) := by kernel_rfl
@[simp] theorem zmf : zMa Tryz.prog 122 = some (.nilp) := by kernel_rfl
@[simp] theorem znf : zRa Tryz.prog 151 = some (1, false) := by kernel_rfl
@[simp] theorem zof : szT Tryz.prog 151 = some 1 := by kernel_rfl
@[simp] theorem zpf : xta Tryz.prog 151 = some false := by kernel_rfl
@[simp] theorem zqf : zRa Tryz.prog 158 = some (1, false) := by kernel_rfl
@[simp] theorem zrf : szT Tryz.prog 158 = some 1 := by kernel_rfl
@[simp] theorem zsf : xta Tryz.prog 158 = some false := by kernel_rfl
@[simp] theorem ztf : Tryz.prog.underlying 158 = some (.int .u64) := by kernel_rfl
@[simp] theorem zuf : yha Tryz.prog 158 = some (.int .u64 0) := by kernel_rfl
@[simp] theorem zvf : zMa Tryz.prog 158 = some (.int .u64 0) := by kernel_rfl
@[simp] theorem zwf : zRa Tryz.prog 168 = some (1, false) := by kernel_rfl
@[simp] theorem zxf : szT Tryz.prog 168 = some 1 := by kernel_rfl
@[simp] theorem zyf : xta Tryz.prog 168 = some false := by kernel_rfl
@[simp] theorem es_168 : esz Tryz.prog 168 = some 1 := by kernel_rfl
@[simp] theorem zzf : y2a Tryz.prog 168 = some 70 := by kernel_rfl
@[simp] theorem zAf : Tryz.prog.underlying 168 = some (.slice 70) := by kernel_rfl
@[simp] theorem zBf : xva Tryz.prog 168 = some false := by kernel_rfl
@[simp] theorem xRf : xua Tryz.prog 70 = some 24 := by kernel_rfl
theorem et_168 : zab Tryz.prog 168 70 1 24 := ⟨by kernel_rfl, by kernel_rfl, by kernel_rfl, by kernel_rfl, ⟨.lst true 0 [], by kernel_rfl, by kernel_rfl⟩, by decide⟩
@[simp] theorem zCf : yha Tryz.prog 168 = some (.lst true 0 []) := by kernel_rfl
@[simp] theorem zDf : zMa Tryz.prog 168 = some (.lst true 0 []) := by kernel_rfl
@[simp] theorem zEf : zRa Tryz.prog 176 = some (16, true) := by kernel_rfl
@[simp] theorem zFf : szT Tryz.prog 176 = some 16 := by kernel_rfl
@[simp] theorem zGf : xta Tryz.prog 176 = some true := by kernel_rfl
@[simp] theorem zHf : Tryz.prog.underlying 176 = some (.array 4 26) := by kernel_rfl
@[simp] theorem zIf : ySa Tryz.prog 176 = some [(0, 4), (4, 4), (8, 4), (12, 4)] := by kernel_rfl
@[simp] theorem zJf : yha Tryz.prog 176 = some (.agg [.int .i64 0, .int .i64 0, .str empty, .lst true 0 [], .int .i64 0, .int .i64 0, .str empty, .lst true 0 [], .int .i64 0, .int .i64 0, .str empty, .lst true 0 [], .int .i64 0, .int .i64 0, .str empty, .lst true 0 []]) := by kernel_rfl
@[simp] theorem zKf : zMa Tryz.prog 176 = some (.agg [.int .i64 0, .int .i64 0, .str empty, .lst true 0 [], .int .i64 0, .int .i64 0, .str empty, .lst true 0 [], .int .i64 0, .int .i64 0, .str empty, .lst true 0 [], .int .i64 0, .int .i64 0, .str empty, .lst true 0 []]) := by kernel_rfl
end Go.T
namespace Go.T
open Go Go.Proofs
set_option maxRecDepth 10000
set_option maxHeartbeats 1000000
def bys (l : List Int) : AV := .lst false 1 (l.map (AV.int .u8))
def yKc (l : List Int) : Prop := l.length <= 1048576 /\ ∀ x ∈ l, 0 <= x /\ x <= 255
def Cur (l : List Int) (g : Nat) (m : Mem) : Prop := ∃ i h : Int, 0 <= i /\ i <= l.length /\ m g = some (.box [bys l, .int .i64 i, .int .i64 h])
def w0c (a b : Int) : Int := IntKind.wrap .i64 ((BitVec.ofInt 64 a &&& BitVec.ofInt 64 b).toNat : Int)
def zxe (a b : Int) : Int := IntKind.wrap .i64 ((BitVec.ofInt 64 a ^^^ BitVec.ofInt 64 b).toNat : Int)
theorem xbc (a b : Int) : xFb .and .i64 a b = some (.int .i64 (w0c a b)) := rfl
theorem zye (a b : Int) : xFb .xor .i64 a b = some (.int .i64 (zxe a b)) := rfl
theorem wBe (a : Int) : yia .shr (.int .i64 a) (.int .u64 33) = some (.int .i64 (a.fdiv 8589934592)) := rfl
theorem wCe (a : Int) : yia .shr (.int .i64 a) (.int .u64 47) = some (.int .i64 (a.fdiv 140737488355328)) := rfl
theorem wId (a : Int) : 0 <= w0c a 255 /\ w0c a 255 <= 255 := by
 have h : (BitVec.ofInt 64 a &&& BitVec.ofInt 64 255).toNat <= 255 := by
  rw [BitVec.toNat_and];exact Nat.le_trans Nat.and_le_right (by decide)
 unfold w0c;rw [zga (by omega) (by omega)];omega
theorem yAd (l : List Int) (hl : yKc l) {m : Mem} {K : AV -> Mem -> Prop} (hK : ∀ g m', m g = none -> Cur l g m' -> Ext m m' -> K (.ptr g 0) m') : zka Tryz.prog 28 [bys l] m K := by
 obtain ⟨hlen, hby⟩ := hl;refine wO Tryz.func28 ?_;unfold bys;refine rA ?_;try simp
 refine rA ?_;try simp
 refine rA ?_;try simp
 (try refine qA ?_)
 refine AWp.cA (fun st => st.sl 0 = .lst false 1 (l.map (AV.int .u8)) /\ (∃ h, st.sl 3 = .int .i64 h) /\ st.mem = m) ?_ ?_
 ·refine AWp.block (AWp.ro (fun k st => ∃ (i : Nat) (h : Int), k = l.length - i /\ i <= l.length /\ st.sl 0 = .lst false 1 (l.map (AV.int .u8)) /\ st.sl 3 = .int .i64 h /\ st.sl 4 = .int .i64 i /\ st.mem = m) l.length ⟨0, _, by simp, by simp, by simp, by simp; rfl, by simp, by simp⟩ ?_);rintro R k st hR ⟨i, h, rfl, hi, s0, s3, s4, sm⟩;by_cases hb : i < l.length
  ·have hq : l[i]? = some l[i] := gE hb;have hw := iA i (by omega);have hx : ∀ m, yga Tryz.prog m 22 (.lst false 1 (l.map (AV.int .u8))) (.int .i64 i) = some (.ref [.int .u8 l[i]]) := fun m => idx (y := .int .u8 l[i]) es_22 (by simp [hq]);by_cases h4 : (i : Int) < 4000
   ·refine raA ?_;simp [s0, s4, hb, h4];refine tA ?_;refine kA ?_;try simp
    (repeat refine qA ?_);refine bA ?_;refine rA ?_;simp [s0, s3, s4, hx, xbc];refine rA ?_;simp [s4, hw];exact hR _ (l.length - (i + 1)) (by omega) ⟨i + 1, _, rfl, hb, by simp [s0], by simp; rfl, by simp, by simp [sm]⟩
   refine raA ?_;simp [s0, s4, hb, h4];refine fA ?_;refine eA ?_;simp [s0, s3, sm]
  refine raA ?_;simp [s0, s4, hb];refine fA ?_;refine eA ?_;simp [s0, s3, sm]
 rintro st ⟨s0, ⟨h, s3⟩, sm⟩;refine rA ?_;simp [s0, s3, sm];intro g hg;refine AWp.ret (zea rfl ⟨_, _, View.refl _ _, ?_⟩);simp [sm];exact hK g _ hg ⟨0, h, by omega, by omega, by simp [zia, bys]⟩ ((Ext.refl m).set hg _)
theorem yxb {l : List Int} (hl : yKc l) {g : Nat} {m : Mem} (hm : Cur l g m) {K : AV -> Mem -> Prop} (hK : ∀ x m', 0 <= x -> x <= 255 -> Cur l g m' -> (∀ k, k ≠ g -> m' k = m k) -> K (.int .i64 x) m') : zka Tryz.prog 128 [.ptr g 0] m K := by
 obtain ⟨hlen, hby⟩ := hl;obtain ⟨i, h, hi0, hil, hm⟩ := hm;unfold bys at hm;refine wO Tryz.func128 ?_;refine rA ?_;try simp
 refine rA ?_;simp [hm];generalize IntKind.wrap .i64 (IntKind.wrap .i64 (h * 6364136223846793005) + 1442695040888963407) = h1;have hgg := zaa m g (.box [.lst false 1 (l.map (AV.int .u8)), .int .i64 i, .int .i64 h1]);have ho : ∀ k, k ≠ g -> (m.set g (.box [.lst false 1 (l.map (AV.int .u8)), .int .i64 i, .int .i64 h1])) k = m k := fun k hk => Mem.so hk;generalize m.set g (.box [.lst false 1 (l.map (AV.int .u8)), .int .i64 i, .int .i64 h1]) = m1 at *;refine raA ?_;simp [hgg, xbc, zye, wBe, wCe];have ha := wId (zxe (h1.fdiv 8589934592) (h1.fdiv 140737488355328));generalize w0c (zxe (h1.fdiv 8589934592) (h1.fdiv 140737488355328)) 255 = x at *;refine raA ?_;simp [hgg];by_cases hlt : i < l.length
 ·obtain ⟨n, rfl⟩ := Int.eq_ofNat_of_zero_le hi0;have hln : n < l.length := by omega
  have hq : l[n]? = some l[n] := gE hln;have hw : IntKind.wrap .i64 ((n : Int) + 1) = (n : Int) + 1 := zga (by omega) (by omega);have hx : ∀ m, yga Tryz.prog m 22 (.lst false 1 (l.map (AV.int .u8))) (.int .i64 n) = some (.ref [.int .u8 l[n]]) := fun m => idx (y := .int .u8 l[n]) es_22 (by simp [hq]);(repeat refine qA ?_);refine AWp.condT (by simp [hln]) ?_;refine raA ?_;simp [hgg, hx, xbc];have hb2 := wId (IntKind.wrap .i64 (x + IntKind.wrap .i64 l[n]));generalize w0c (IntKind.wrap .i64 (x + IntKind.wrap .i64 l[n])) 255 = y at *;refine rA ?_;simp [hgg, hw];refine rA ?_;simp;refine AWp.ret (zea rfl ⟨_, _, View.refl _ _, ?_⟩);simp;exact hK y _ hb2.1 hb2.2 ⟨n + 1, h1, by omega, by omega, by simp [zia, bys]⟩ fun k hk => by rw [zia, if_neg hk]; exact ho k hk
 (repeat refine qA ?_);refine AWp.condF (by simp; omega) ?_;refine kA ?_;try simp
 refine rA ?_;simp;refine AWp.ret (zea rfl ⟨_, _, View.refl _ _, ?_⟩);simp;exact hK x m1 ha.1 ha.2 ⟨i, h1, hi0, hil, hgg⟩ ho
theorem zHa {l : List Int} (hl : yKc l) {g : Nat} {m : Mem} (hm : Cur l g m) (n : Int) (h0 : 0 < n) {K : AV -> Mem -> Prop} (hK : ∀ x m', 0 <= x -> x < n -> Cur l g m' -> (∀ k, k ≠ g -> m' k = m k) -> K (.int .i64 x) m') : zka Tryz.prog 75 [.ptr g 0, .int .i64 n] m K := by
 refine wO Tryz.func75 ?_;refine rA ?_;try simp
 refine rA ?_;try simp
 (repeat refine qA ?_);refine AWp.condF (by simp; omega) ?_;refine kA ?_;try simp
 refine rA ?_;try simp
 have key : ∀ x : Int, 0 <= x -> 0 <= x.tmod n /\ x.tmod n < n := fun x hx => by
  rw [Int.tmod_eq_emod_of_nonneg hx]; exact ⟨Int.emod_nonneg _ (by omega), Int.emod_lt_of_pos _ h0⟩
 have hn : ¬ n = 0 := by omega
 by_cases h2 : n <= 256
 ·(repeat refine qA ?_);refine AWp.condT (by simp [h2]) ?_;refine rA ?_;simp;refine wA ?_;refine yxb hl hm fun x m' x0 x1 hc ho => ?_;simp [hn];refine AWp.ret (zea rfl ⟨_, _, View.refl _ _, ?_⟩);simp;exact hK _ _ (key x x0).1 (key x x0).2 hc ho
 (repeat refine qA ?_);refine AWp.condF (by simp; omega) ?_;refine kA ?_;try simp
 refine rA ?_;simp;refine wA ?_;refine yxb hl hm fun x m1 x0 x1 hc1 ho1 => ?_;simp;refine rA ?_;simp;refine wA ?_;refine yxb hl hc1 fun y m2 y0 y1 hc2 ho2 => ?_;simp;refine rA ?_;simp;refine wA ?_;refine yxb hl hc2 fun z m3 z0 z1 hc3 ho3 => ?_;simp;have w1 : IntKind.wrap .i64 (x * 65536) = x * 65536 := zga (by omega) (by omega);have w2 : IntKind.wrap .i64 (y * 256) = y * 256 := zga (by omega) (by omega);have w3 : IntKind.wrap .i64 (x * 65536 + y * 256) = x * 65536 + y * 256 := zga (by omega) (by omega);have w4 : IntKind.wrap .i64 (x * 65536 + y * 256 + z) = x * 65536 + y * 256 + z := zga (by omega) (by omega);refine rA ?_;simp [w1, w2, w3, w4, hn];refine AWp.ret (zea rfl ⟨_, _, View.refl _ _, ?_⟩);simp;exact hK _ _ (key _ (by omega)).1 (key _ (by omega)).2 hc3 fun k hk => (ho3 k hk).trans ((ho2 k hk).trans (ho1 k hk))
theorem zYb {l : List Int} (hl : yKc l) {g : Nat} {m : Mem} (hm : Cur l g m) (f : Bool) (ns : List Int) (h0 : 0 < ns.length) (h1 : ns.length <= 1000) {K : AV -> Mem -> Prop} (hK : ∀ x m', x ∈ ns -> Cur l g m' -> (∀ k, k ≠ g -> m' k = m k) -> K (.int .i64 x) m') : zka Tryz.prog 84 [.ptr g 0, .lst f 1 (ns.map (AV.int .i64))] m K := by
 refine wO Tryz.func84 ?_;refine rA ?_;try simp
 refine rA ?_;simp;refine wA ?_;refine zHa hl hm ns.length (by omega) fun x m' x0 x1 hc ho => ?_;obtain ⟨j, rfl⟩ := Int.eq_ofNat_of_zero_le x0;have hj : j < ns.length := by omega
 have hx : ∀ m, yga Tryz.prog m 112 (.lst f 1 (ns.map (AV.int .i64))) (.int .i64 j) = some (.ref [.int .i64 ns[j]]) := fun m => idx (y := .int .i64 ns[j]) es_112 (by simp [gE hj]);simp [hx];refine AWp.ret (zea rfl ⟨_, _, View.refl _ _, ?_⟩);simp;exact hK _ _ (List.getElem_mem hj) hc ho
theorem wDe (l : List Int) (hl : yKc l) : zca Tryz.prog 6 [bys l] (.bool false) := by
 refine pO Tryz.func6 ?_;unfold bys;refine rA ?_;try simp
 refine rA ?_;simp;exact AWp.ret (pR1 rfl (by simp; have := hl.1; omega))
theorem yKe (l : List Int) (hl : ¬ l.length <= 1048576) : zca Tryz.prog 6 [bys l] (.bool true) := by
 refine pO Tryz.func6 ?_;unfold bys;refine rA ?_;try simp
 refine rA ?_;simp;exact AWp.ret (pR1 rfl (by simp; omega))
def words : List Int := [0, 1, 2, 3, 7, -1, -5, 100, 65536, 2147483647, -2147483648, 2147483648, 4294967296, -2147483649, 9223372036854775807, -9223372036854775808]
section
variable {H : Type} {enc : TypeId × Value -> H} {W : World}
theorem zze (fuel : Nat) : Opens enc Tryz.prog W 22 (fun l : List Int => [bys l]) (fun l => l.length <= 9223372036854775807 /\ ∀ x ∈ l, 0 <= x /\ x <= 255) fuel := by
 cases fuel with
 | zero => exact wQc
 | succ k => exact Opens.map (yXc Tryz.underlying22 (n := 1) (elt := AV.int .u8) (by kernel_rfl) (by omega) (fun _ => rfl) (fun _ => rfl) (xKd Tryz.underlying5 k)) id fun x hx => ⟨hx, Les.refl _⟩
end
theorem yhc {w : World} {S S' : Nat -> Prop} {b : Nat} {k : IntKind} : ∀ {zs : List Int} {o : Nat}, Cells w S b o (zNb k zs) -> Cells w S' b o (zNb k zs)
 | [], o, h => .nil _ _
 | z :: zs, o, h => by
  unfold zNb at h ⊢;simp only [List.map_cons] at h ⊢;cases h with
  | cons hc hr ht =>
  cases hr;exact .cons hc (.int _ _) (yhc ht)
theorem zAe {W : World} {g : Nat} {T : TypeId} {S : Nat -> Prop} (hb : ypa W S g (yba T)) {l : List Int} {v : Value} (h : Rep W (Old W) (bys l) v) : Rep W (whb W g) (bys l) v := by
 have hrow := wVb hb;unfold bys at h ⊢;cases l with
 | nil =>
  simp only [List.map_nil] at h ⊢;cases h with
  | lnil f e A c hf => exact .lnil _ _ _ _ hf
  | lst f e b o c hS he hle hf hc => exact .lnil _ _ _ _ (fun h => by cases h)
 | cons x xs =>
  generalize hL : (x :: xs) = L at h ⊢;have hne : L.map (AV.int .u8) ≠ [] := by rw [<- hL]; simp
  generalize hM : L.map (AV.int .u8) = M at h ⊢ hne;cases h with
  | lnil f e A c hf => exact absurd rfl hne
  | lst f e b o c hS he hle hf hc =>
   have hflat : flat M = zNb .u8 L := by rw [<- hM]; exact zfb .u8 L
   rw [hflat] at hc;refine .lst _ _ b o c ⟨hS, ?_⟩ he hle hf (by rw [hflat]; exact yhc hc);rintro rfl;rw [<- hL] at hc;unfold zNb at hc;simp only [List.map_cons] at hc;cases hc with
   | cons h1 h2 h3 =>
   cases h2;simp only [World.cell?, hrow] at h1;rw [List.getElem?_toArray, List.getElem?_map] at h1;obtain ⟨z, _, hz⟩ := Option.map_eq_some_iff.1 h1;cases hz
theorem zwa (a b c : Int) : zca Tryz.prog 100 [.int .i64 a, .int .i64 b, .int .i64 c] (.bool (inR a b c)) := by
 refine pO Tryz.func100 ?_;refine rA ?_;simp;refine rA ?_;by_cases h : b <= a
 ·simp [h];exact AWp.ret (pR1 rfl (by simp [inR, h]))
 simp [h];exact AWp.ret (pR1 rfl (by simp [inR, h]))
theorem zza (a b c : Int) : zca Tryz.prog 87 [.int .i64 a, .int .i64 b, .int .i64 c] (.bool (inR a b c)) := by
 refine pO Tryz.func87 ?_;refine rA ?_;simp;refine rA ?_;by_cases h : b <= a
 ·simp [h];exact AWp.ret (pR1 rfl (by simp [inR, h]))
 simp [h];exact AWp.ret (pR1 rfl (by simp [inR, h]))
theorem xhb (c : UInt8) : zca Tryz.prog 149 [.int .u8 c.toNat] (.bool (small c)) := by
 refine pO Tryz.func149 ?_;refine rA ?_;simp;refine raA ?_;have hw : IntKind.wrap .i64 (c.toNat : Int) = c.toNat := zga (by omega) (by have := c.toNat_lt; omega);simp [hw];refine z3a _ _ _ _ _ _ _ _ (zwa _ _ _) ?_;simp;exact AWp.ret (pR1 rfl (by simp [small]))
theorem wtb (c : UInt8) : zca Tryz.prog 108 [.int .u8 c.toNat] (.bool (small c)) := by
 refine pO Tryz.func108 ?_;refine rA ?_;simp;refine rA ?_;by_cases h : (97 : Int) <= c.toNat
 ·simp [h];exact AWp.ret (pR1 rfl (by simp [inR, small, h]))
 simp [h];exact AWp.ret (pR1 rfl (by simp [inR, small, h]))
theorem w9b (l : List ByteArray) (s : ByteArray) (hl : l.length <= 9223372036854775806) : zca Tryz.prog 106 [strs l, .str s] (.bool (has l s)) := by
 refine pO Tryz.func106 ?_;refine rA ?_;simp;refine rA ?_;simp;(repeat refine qA ?_);refine AWp.block (AWp.ro (fun n st => ∃ i : Nat, n = l.length - i /\ i <= l.length /\ st.sl 0 = strs l /\ st.sl 1 = .str s /\ st.sl 5 = .int .i64 i /\ has l s = has (l.drop i) s) l.length ⟨0, by simp⟩ ?_);rintro R n st hR ⟨i, rfl, hi, h0, h1, h5, hr⟩;refine rA ?_;simp [h0, h5, strs];refine AWp.cond (b := decide (i < l.length)) (by simp) (fun hb => ?_) (fun hb => ?_)
 ·simp at hb;have hg : l[i]? = some l[i] := gE hb;have hd : l.drop i = l[i] :: l.drop (i + 1) := List.drop_eq_getElem_cons hb;refine kA ?_;simp;(repeat refine qA ?_);refine bA ?_;refine rA ?_;have hx : yga Tryz.prog st.mem 70 (.lst false 1 (List.map AV.str l)) (.int .i64 i) = some (.ref [.str l[i]]) := idx (y := .str l[i]) es_70 (by simp [hg]);simp [h0, h1, h5, strs, hx];refine AWp.cond (b := decide (l[i] = s)) (by simp) (fun he => ?_) (fun he => ?_)
  ·refine rA ?_;simp;refine AWp.ret (pR1 rfl ?_);simp at he;rw [hr, hd, has, List.any_cons];simp [he, has]
  simp at he;refine kA ?_;simp;refine rA ?_;have hw := iA i (by omega);simp [h0, h1, h5, hw];refine hR _ (l.length - (i + 1)) (by omega) ⟨i + 1, rfl, hb, by simp [h0, strs], by simp [h1], by simp, ?_⟩;rw [hr, hd, has, List.any_cons];simp [he, has]
 simp at hb;refine eA ?_;simp;refine rA ?_;simp;refine AWp.ret (pR1 rfl ?_);have : i = l.length := by omega
 subst this;simpa [has] using hr
theorem x4c (s : ByteArray) : zca Tryz.prog 150 [.str s] (.bool (kept s)) := by
 refine pO Tryz.func150 ?_;refine rA ?_;simp;refine raA ?_;simp;refine z3a _ _ _ _ _ _ _ _ ((w9b xMb s (by decide)).arg (.cons (Le.lst _ _ _) (.cons (Le.refl _) .nil))) ?_;simp;exact AWp.ret (pR1 rfl (by simp [kept]))
theorem x5c (s : ByteArray) : zca Tryz.prog 109 [.str s] (.bool (kept s)) := by
 refine pO Tryz.func109 ?_;refine rA ?_;simp;refine rA ?_;simp;(repeat refine qA ?_);refine bA ?_;refine rA ?_;simp;refine AWp.cond (b := decide (s = ⟨#[97, 114, 114, 97, 121]⟩)) (by simp) (fun h => ?_) (fun h0 => ?_)
 ·simp at h;refine kA ?_;simp;refine AWp.cond (b := true) (by simp [h]) (fun _ => ?_) (fun h => by cases h);refine rA ?_;simp;exact AWp.ret (pR1 rfl (by simp [kept, has, xMb, h]))
 simp at h0;refine rA ?_;simp;refine AWp.cond (b := decide (s = ⟨#[102, 111, 114]⟩)) (by simp) (fun h => ?_) (fun h1 => ?_)
 ·simp at h;refine kA ?_;simp;refine AWp.cond (b := true) (by simp [h]) (fun _ => ?_) (fun h => by cases h);refine rA ?_;simp;exact AWp.ret (pR1 rfl (by simp [kept, has, xMb, h]))
 simp at h1;refine rA ?_;simp;refine AWp.cond (b := decide (s = ⟨#[116, 111]⟩)) (by simp) (fun h => ?_) (fun h2 => ?_)
 ·simp at h;refine kA ?_;simp;refine AWp.cond (b := true) (by simp [h]) (fun _ => ?_) (fun h => by cases h);refine rA ?_;simp;exact AWp.ret (pR1 rfl (by simp [kept, has, xMb, h]))
 simp at h2;refine rA ?_;simp;refine AWp.cond (b := decide (s = ⟨#[112, 114, 105, 110, 116]⟩)) (by simp) (fun h => ?_) (fun h3 => ?_)
 ·simp at h;refine kA ?_;simp;refine AWp.cond (b := true) (by simp [h]) (fun _ => ?_) (fun h => by cases h);refine rA ?_;simp;exact AWp.ret (pR1 rfl (by simp [kept, has, xMb, h]))
 simp at h3;refine rA ?_;simp;refine AWp.cond (b := decide (s = ⟨#[109, 105, 110]⟩)) (by simp) (fun h => ?_) (fun h4 => ?_)
 ·simp at h;refine kA ?_;simp;refine AWp.cond (b := true) (by simp [h]) (fun _ => ?_) (fun h => by cases h);refine rA ?_;simp;exact AWp.ret (pR1 rfl (by simp [kept, has, xMb, h]))
 simp at h4;refine rA ?_;simp;refine AWp.cond (b := decide (s = ⟨#[109, 97, 120]⟩)) (by simp) (fun h => ?_) (fun h5 => ?_)
 ·simp at h;refine rA ?_;simp;exact AWp.ret (pR1 rfl (by simp [kept, has, xMb, h]))
 simp at h5;refine kA ?_;simp;refine rA ?_;simp;refine AWp.ret (pR1 rfl ?_);simp [kept, has, xMb];refine ⟨Ne.symm h0, Ne.symm h1, Ne.symm h2, Ne.symm h3, Ne.symm h4, Ne.symm h5⟩
theorem xNO (s : ByteArray) (hs : s.size <= 9223372036854775806) : zca Tryz.prog 99 [.str s] (.bool (zxa s)) := by
 refine pO Tryz.func99 ?_;refine rA ?_;simp;refine rA ?_;simp;(repeat refine qA ?_);refine AWp.block (AWp.ro (fun n st => ∃ i : Nat, n = s.size - i /\ i <= s.size /\ st.sl 0 = .str s /\ st.sl 3 = .int .i64 i /\ s.data.toList.all small = (s.data.toList.drop i).all small) s.size ⟨0, by simp⟩ ?_);rintro R n st hR ⟨i, rfl, hi, h0, h3, hr⟩;refine rA ?_;simp [h0, h3];refine AWp.cond (b := decide (i < s.size)) (by simp) (fun hb => ?_) (fun hb => ?_)
 ·simp at hb;obtain ⟨b, hg, hd⟩ := xEc hb small;refine kA ?_;simp;(repeat refine qA ?_);refine bA ?_;refine raA ?_;have hx : xXa Tryz.prog 9 (.str s) (.int .i64 i) = some (.int .u8 b.toNat) := sidx wWe hg;simp [h0, h3, hx];refine z3a _ _ _ _ _ _ _ _ (xhb _) ?_;simp;refine AWp.cond (b := !small b) (by simp) (fun he => ?_) (fun he => ?_)
  ·refine rA ?_;simp;refine AWp.ret (pR1 rfl ?_);simp at he;simp [zxa, hr, hd, he]
  simp at he;refine kA ?_;simp;refine rA ?_;have hw := iA i (by omega);simp [h0, h3, hw];refine hR _ (s.size - (i + 1)) (by omega) ⟨i + 1, rfl, hb, by simp [h0], by simp, ?_⟩;rw [hr, hd, he, Bool.true_and]
 simp at hb;have : i = s.size := by omega
 subst this;rw [zCc] at hr;refine eA ?_;simp;refine raA ?_;simp [h0];refine z3a _ _ _ _ _ _ _ _ (zwa _ _ _) ?_;cases h1 : inR (s.size : Int) 1 6
 ·simp;exact AWp.ret (pR1 rfl (by simp [zxa, h1]))
 simp [h0];refine z3a _ _ _ _ _ _ _ _ (x4c _) ?_;simp;exact AWp.ret (pR1 rfl (by simp [zxa, hr, h1]))
theorem zpa (s : ByteArray) (hs : s.size <= 9223372036854775806) : zca Tryz.prog 110 [.str s] (.bool (zxa s)) := by
 refine pO Tryz.func110 ?_;refine rA ?_;simp;refine rA ?_;simp;(repeat refine qA ?_);refine AWp.block (AWp.ro (fun n st => ∃ i : Nat, n = s.size - i /\ i <= s.size /\ st.sl 0 = .str s /\ st.sl 3 = .int .i64 i /\ s.data.toList.all small = (s.data.toList.drop i).all small) s.size ⟨0, by simp⟩ ?_);rintro R n st hR ⟨i, rfl, hi, h0, h3, hr⟩;refine rA ?_;simp [h0, h3];refine AWp.cond (b := decide (i < s.size)) (by simp) (fun hb => ?_) (fun hb => ?_)
 ·simp at hb;obtain ⟨b, hg, hd⟩ := xEc hb small;refine kA ?_;simp;(repeat refine qA ?_);refine bA ?_;refine raA ?_;have hx : xXa Tryz.prog 9 (.str s) (.int .i64 i) = some (.int .u8 b.toNat) := sidx wWe hg;simp [h0, h3, hx];refine z3a _ _ _ _ _ _ _ _ (wtb _) ?_;simp;refine AWp.cond (b := !small b) (by simp) (fun he => ?_) (fun he => ?_)
  ·refine rA ?_;simp;refine AWp.ret (pR1 rfl ?_);simp at he;simp [zxa, hr, hd, he]
  simp at he;refine kA ?_;simp;refine rA ?_;have hw := iA i (by omega);simp [h0, h3, hw];refine hR _ (s.size - (i + 1)) (by omega) ⟨i + 1, rfl, hb, by simp [h0], by simp, ?_⟩;rw [hr, hd, he, Bool.true_and]
 simp at hb;have : i = s.size := by omega
 subst this;rw [zCc] at hr;refine eA ?_;simp;refine raA ?_;simp [h0];refine z3a _ _ _ _ _ _ _ _ (zza _ _ _) ?_;cases h1 : inR (s.size : Int) 1 6
 ·simp;exact AWp.ret (pR1 rfl (by simp [zxa, h1]))
 simp [h0];refine z3a _ _ _ _ _ _ _ _ (x5c _) ?_;simp;exact AWp.ret (pR1 rfl (by simp [zxa, hr, h1]))


theorem zac (k : Int) : zca Tryz.prog 175 [.int .i64 k] (.bool (inR k 4 8)) := by
 refine pO Tryz.func175 ?_;repeat' (first|refine qA ?_|((first|refine raA ?_|refine gA ?_|refine oC' (zza _ _ _) ?_);simp)|((first|refine kA ?_|refine eA ?_);try simp)|refine bA ?_|(refine AWp.ret (pR1 rfl ?_); (simp; done))|((first|refine zja ?_ ?_|refine cRI ?_ ?_)<;>intro hq<;>(try simp at hq)<;>(try simp))|(refine zWa ?_ ?_<;>intro hq<;>(try simp)))
theorem yBd (k n : Int) (s : ByteArray) (l : List Ex) (hs : s.size <= 9223372036854775806) : zca Tryz.prog 142 [(Ex.mk k n s l).av] (.bool (zSa k n s l.length)) := by
 refine pO Tryz.func142 ?_;unfold Ex.av;rw [Ex.cells_mk];refine rA ?_;simp;intro g;by_cases k1 : k = 1
 ·repeat' (first|refine qA ?_|((first|refine raA ?_|refine gA ?_|refine oC' (zza _ _ _) ?_|refine oC' (zpa _ hs) ?_|refine oC' (zac _) ?_);simp [*])|((first|refine kA ?_|refine eA ?_);try simp)|refine bA ?_|(refine AWp.ret (pR1 rfl ?_); (simp_all [zSa, noS]; done))|((first|refine zja ?_ ?_|refine cRI ?_ ?_)<;>intro hq<;>(try simp at hq)<;>(try simp [*]))|(refine zWa ?_ ?_<;>intro hq<;>(try simp [*])))
 by_cases k2 : k = 2
 ·repeat' (first|refine qA ?_|((first|refine raA ?_|refine gA ?_|refine oC' (zza _ _ _) ?_|refine oC' (zpa _ hs) ?_|refine oC' (zac _) ?_);simp [*])|((first|refine kA ?_|refine eA ?_);try simp)|refine bA ?_|(refine AWp.ret (pR1 rfl ?_); (simp_all [zSa, noS]; done))|((first|refine zja ?_ ?_|refine cRI ?_ ?_)<;>intro hq<;>(try simp at hq)<;>(try simp [*]))|(refine zWa ?_ ?_<;>intro hq<;>(try simp [*])))
 by_cases k3 : k = 3
 ·repeat' (first|refine qA ?_|((first|refine raA ?_|refine gA ?_|refine oC' (zza _ _ _) ?_|refine oC' (zpa _ hs) ?_|refine oC' (zac _) ?_);simp [*])|((first|refine kA ?_|refine eA ?_);try simp)|refine bA ?_|(refine AWp.ret (pR1 rfl ?_); (simp_all [zSa, noS]; done))|((first|refine zja ?_ ?_|refine cRI ?_ ?_)<;>intro hq<;>(try simp at hq)<;>(try simp [*]))|(refine zWa ?_ ?_<;>intro hq<;>(try simp [*])))
 repeat' (first|refine qA ?_|((first|refine raA ?_|refine gA ?_|refine oC' (zza _ _ _) ?_|refine oC' (zpa _ hs) ?_|refine oC' (zac _) ?_);simp [*])|((first|refine kA ?_|refine eA ?_);try simp)|refine bA ?_|(refine AWp.ret (pR1 rfl ?_); (simp_all [zSa, noS]; done))|((first|refine zja ?_ ?_|refine cRI ?_ ?_)<;>intro hq<;>(try simp at hq)<;>(try simp [*]))|(refine zWa ?_ ?_<;>intro hq<;>(try simp [*])))
theorem yNa (k : Int) : zca Tryz.prog 147 [.int .i64 k] (.int .i64 (yIa k)) := by
 refine pO Tryz.func147 ?_;by_cases k1 : k = 1
 ·subst k1;repeat' (first|refine qA ?_|((first|refine raA ?_|refine gA ?_);simp [*])|((first|refine kA ?_|refine eA ?_);try simp)|refine bA ?_|(refine AWp.ret (pR1 rfl ?_); (simp_all [yIa, inR]; done))|((first|refine zja ?_ ?_|refine cRI ?_ ?_)<;>intro hq<;>(try simp at hq)<;>(try simp [*]))|(refine zWa ?_ ?_<;>intro hq<;>(try simp [*])))
 by_cases k2 : k = 2
 ·subst k2;repeat' (first|refine qA ?_|((first|refine raA ?_|refine gA ?_);simp [*])|((first|refine kA ?_|refine eA ?_);try simp)|refine bA ?_|(refine AWp.ret (pR1 rfl ?_); (simp_all [yIa, inR]; done))|((first|refine zja ?_ ?_|refine cRI ?_ ?_)<;>intro hq<;>(try simp at hq)<;>(try simp [*]))|(refine zWa ?_ ?_<;>intro hq<;>(try simp [*])))
 by_cases k3 : k = 3
 ·subst k3;repeat' (first|refine qA ?_|((first|refine raA ?_|refine gA ?_);simp [*])|((first|refine kA ?_|refine eA ?_);try simp)|refine bA ?_|(refine AWp.ret (pR1 rfl ?_); (simp_all [yIa, inR]; done))|((first|refine zja ?_ ?_|refine cRI ?_ ?_)<;>intro hq<;>(try simp at hq)<;>(try simp [*]))|(refine zWa ?_ ?_<;>intro hq<;>(try simp [*])))
 by_cases k4 : k = 4
 ·subst k4;repeat' (first|refine qA ?_|((first|refine raA ?_|refine gA ?_);simp [*])|((first|refine kA ?_|refine eA ?_);try simp)|refine bA ?_|(refine AWp.ret (pR1 rfl ?_); (simp_all [yIa, inR]; done))|((first|refine zja ?_ ?_|refine cRI ?_ ?_)<;>intro hq<;>(try simp at hq)<;>(try simp [*]))|(refine zWa ?_ ?_<;>intro hq<;>(try simp [*])))
 by_cases k5 : k = 5
 ·subst k5;repeat' (first|refine qA ?_|((first|refine raA ?_|refine gA ?_);simp [*])|((first|refine kA ?_|refine eA ?_);try simp)|refine bA ?_|(refine AWp.ret (pR1 rfl ?_); (simp_all [yIa, inR]; done))|((first|refine zja ?_ ?_|refine cRI ?_ ?_)<;>intro hq<;>(try simp at hq)<;>(try simp [*]))|(refine zWa ?_ ?_<;>intro hq<;>(try simp [*])))
 by_cases k6 : k = 6
 ·subst k6;repeat' (first|refine qA ?_|((first|refine raA ?_|refine gA ?_);simp [*])|((first|refine kA ?_|refine eA ?_);try simp)|refine bA ?_|(refine AWp.ret (pR1 rfl ?_); (simp_all [yIa, inR]; done))|((first|refine zja ?_ ?_|refine cRI ?_ ?_)<;>intro hq<;>(try simp at hq)<;>(try simp [*]))|(refine zWa ?_ ?_<;>intro hq<;>(try simp [*])))
 by_cases k7 : k = 7
 ·subst k7;repeat' (first|refine qA ?_|((first|refine raA ?_|refine gA ?_);simp [*])|((first|refine kA ?_|refine eA ?_);try simp)|refine bA ?_|(refine AWp.ret (pR1 rfl ?_); (simp_all [yIa, inR]; done))|((first|refine zja ?_ ?_|refine cRI ?_ ?_)<;>intro hq<;>(try simp at hq)<;>(try simp [*]))|(refine zWa ?_ ?_<;>intro hq<;>(try simp [*])))
 by_cases k8 : k = 8
 ·subst k8;repeat' (first|refine qA ?_|((first|refine raA ?_|refine gA ?_);simp [*])|((first|refine kA ?_|refine eA ?_);try simp)|refine bA ?_|(refine AWp.ret (pR1 rfl ?_); (simp_all [yIa, inR]; done))|((first|refine zja ?_ ?_|refine cRI ?_ ?_)<;>intro hq<;>(try simp at hq)<;>(try simp [*]))|(refine zWa ?_ ?_<;>intro hq<;>(try simp [*])))
 have hk : ¬ (4 <= k /\ k <= 8) := by omega
 repeat' (first|refine qA ?_|((first|refine raA ?_|refine gA ?_);simp [*])|((first|refine kA ?_|refine eA ?_);try simp)|refine bA ?_|(refine AWp.ret (pR1 rfl ?_); (simp_all [yIa, inR]; done))|((first|refine zja ?_ ?_|refine cRI ?_ ?_)<;>intro hq<;>(try simp at hq)<;>(try simp [*]))|(refine zWa ?_ ?_<;>intro hq<;>(try simp [*])))
theorem x0d (k n : Int) (s : ByteArray) (l : List Ex) (hs : s.size <= 9223372036854775806) : zca Tryz.prog 96 [(Ex.mk k n s l).av] (.bool (zSa k n s l.length)) := by
 refine pO Tryz.func96 ?_;unfold Ex.av;rw [Ex.cells_mk];refine rA ?_;simp;intro g;by_cases k1 : k = 1
 ·subst k1;repeat' (first|refine qA ?_|((first|refine raA ?_|refine gA ?_|refine oC' (yNa _) ?_|refine oC' (zwa _ _ _) ?_|refine oC' (xNO _ hs) ?_);simp [*])|((first|refine kA ?_|refine eA ?_);try simp)|refine bA ?_|(refine AWp.ret (pR1 rfl ?_); (simp_all [zSa, yIa, noS, @eq_comm Int]; done))|((first|refine zja ?_ ?_|refine cRI ?_ ?_)<;>intro hq<;>(try simp at hq)<;>(try simp [*]))|(refine zWa ?_ ?_<;>intro hq<;>(try simp [*])))
 by_cases n0 : n = 0
 ·subst n0;by_cases k2 : k = 2
  ·subst k2;repeat' (first|refine qA ?_|((first|refine raA ?_|refine gA ?_|refine oC' (yNa _) ?_|refine oC' (zwa _ _ _) ?_|refine oC' (xNO _ hs) ?_);simp [*])|((first|refine kA ?_|refine eA ?_);try simp)|refine bA ?_|(refine AWp.ret (pR1 rfl ?_); (simp_all [zSa, yIa, noS, @eq_comm Int]; done))|((first|refine zja ?_ ?_|refine cRI ?_ ?_)<;>intro hq<;>(try simp at hq)<;>(try simp [*]))|(refine zWa ?_ ?_<;>intro hq<;>(try simp [*])))
  by_cases k3 : k = 3
  ·subst k3;repeat' (first|refine qA ?_|((first|refine raA ?_|refine gA ?_|refine oC' (yNa _) ?_|refine oC' (zwa _ _ _) ?_|refine oC' (xNO _ hs) ?_);simp [*])|((first|refine kA ?_|refine eA ?_);try simp)|refine bA ?_|(refine AWp.ret (pR1 rfl ?_); (simp_all [zSa, yIa, noS, @eq_comm Int]; done))|((first|refine zja ?_ ?_|refine cRI ?_ ?_)<;>intro hq<;>(try simp at hq)<;>(try simp [*]))|(refine zWa ?_ ?_<;>intro hq<;>(try simp [*])))
  by_cases k4 : inR k 4 8 = true
  ·repeat' (first|refine qA ?_|((first|refine raA ?_|refine gA ?_|refine oC' (yNa _) ?_|refine oC' (zwa _ _ _) ?_|refine oC' (xNO _ hs) ?_);simp [*])|((first|refine kA ?_|refine eA ?_);try simp)|refine bA ?_|(refine AWp.ret (pR1 rfl ?_); (simp_all [zSa, yIa, noS, @eq_comm Int]; done))|((first|refine zja ?_ ?_|refine cRI ?_ ?_)<;>intro hq<;>(try simp at hq)<;>(try simp [*]))|(refine zWa ?_ ?_<;>intro hq<;>(try simp [*])))
  repeat' (first|refine qA ?_|((first|refine raA ?_|refine gA ?_|refine oC' (yNa _) ?_|refine oC' (zwa _ _ _) ?_|refine oC' (xNO _ hs) ?_);simp [*])|((first|refine kA ?_|refine eA ?_);try simp)|refine bA ?_|(refine AWp.ret (pR1 rfl ?_); (simp_all [zSa, yIa, noS, @eq_comm Int]; done))|((first|refine zja ?_ ?_|refine cRI ?_ ?_)<;>intro hq<;>(try simp at hq)<;>(try simp [*]))|(refine zWa ?_ ?_<;>intro hq<;>(try simp [*])))
 by_cases k2 : k = 2
 ·subst k2;repeat' (first|refine qA ?_|((first|refine raA ?_|refine gA ?_|refine oC' (yNa _) ?_|refine oC' (zwa _ _ _) ?_|refine oC' (xNO _ hs) ?_);simp [*])|((first|refine kA ?_|refine eA ?_);try simp)|refine bA ?_|(refine AWp.ret (pR1 rfl ?_); (simp_all [zSa, yIa, noS, @eq_comm Int]; done))|((first|refine zja ?_ ?_|refine cRI ?_ ?_)<;>intro hq<;>(try simp at hq)<;>(try simp [*]))|(refine zWa ?_ ?_<;>intro hq<;>(try simp [*])))
 by_cases k3 : k = 3
 ·subst k3;repeat' (first|refine qA ?_|((first|refine raA ?_|refine gA ?_|refine oC' (yNa _) ?_|refine oC' (zwa _ _ _) ?_|refine oC' (xNO _ hs) ?_);simp [*])|((first|refine kA ?_|refine eA ?_);try simp)|refine bA ?_|(refine AWp.ret (pR1 rfl ?_); (simp_all [zSa, yIa, noS, @eq_comm Int]; done))|((first|refine zja ?_ ?_|refine cRI ?_ ?_)<;>intro hq<;>(try simp at hq)<;>(try simp [*]))|(refine zWa ?_ ?_<;>intro hq<;>(try simp [*])))
 by_cases k4 : inR k 4 8 = true
 ·repeat' (first|refine qA ?_|((first|refine raA ?_|refine gA ?_|refine oC' (yNa _) ?_|refine oC' (zwa _ _ _) ?_|refine oC' (xNO _ hs) ?_);simp [*])|((first|refine kA ?_|refine eA ?_);try simp)|refine bA ?_|(refine AWp.ret (pR1 rfl ?_); (simp_all [zSa, yIa, noS, @eq_comm Int]; done))|((first|refine zja ?_ ?_|refine cRI ?_ ?_)<;>intro hq<;>(try simp at hq)<;>(try simp [*]))|(refine zWa ?_ ?_<;>intro hq<;>(try simp [*])))
 repeat' (first|refine qA ?_|((first|refine raA ?_|refine gA ?_|refine oC' (yNa _) ?_|refine oC' (zwa _ _ _) ?_|refine oC' (xNO _ hs) ?_);simp [*])|((first|refine kA ?_|refine eA ?_);try simp)|refine bA ?_|(refine AWp.ret (pR1 rfl ?_); (simp_all [zSa, yIa, noS, @eq_comm Int]; done))|((first|refine zja ?_ ?_|refine cRI ?_ ?_)<;>intro hq<;>(try simp at hq)<;>(try simp [*]))|(refine zWa ?_ ?_<;>intro hq<;>(try simp [*])))
theorem w1c (k n : Int) (s : ByteArray) (l : List Ex) (ht : (Ex.mk k n s l).tot <= 1048576) (h : ∀ x ∈ l, ∀ d : Nat, d <= 9 -> zca Tryz.prog 88 [x.av, .int .i64 d] (.int .i64 (x.msr d))) (d : Nat) (hd : d <= 9) :
  zca Tryz.prog 88 [(Ex.mk k n s l).av, .int .i64 d] (.int .i64 ((Ex.mk k n s l).msr d)) := by
 rw [Ex.msr_mk];rw [Ex.tot_mk] at ht;have hlen := zua Ex.tot l;have hsum := wka Ex.nodes Ex.tot l (fun x _ => Ex.nodes_le x);have hs : s.size <= 9223372036854775806 := by omega
 refine pO Tryz.func88 ?_;have hav : (Ex.mk k n s l).av = .agg [.int .i64 k, .int .i64 n, .str s, .lst false 4 (l.map Ex.av)] := by unfold Ex.av; rw [Ex.cells_mk]; rfl
 rw [hav];refine rA ?_;simp;intro g;have c1 := yBd k n s l hs;rw [hav] at c1;by_cases hd8 : 8 < d
 ·have hd9 : ¬ d <= 8 := by omega
  have hdi : (8 : Int) < d := by omega
  repeat' (first|refine qA ?_|((first|refine raA ?_|refine gA ?_|refine oC' (c1) ?_);simp [*])|((first|refine kA ?_|refine eA ?_);try simp)|refine bA ?_|(refine AWp.ret (pR1 rfl ?_); (simp [*]; done))|((first|refine zja ?_ ?_|refine cRI ?_ ?_)<;>intro hq<;>(try simp at hq)<;>(try simp [*]))|(refine zWa ?_ ?_<;>intro hq<;>(try simp [*])))
 have hd9 : d <= 8 := by omega
 have hdi : (d : Int) <= 8 := by omega
 have hdj : ¬ ((8 : Int) < d) := by omega
 cases hp : zSa k n s l.length
 ·repeat' (first|refine qA ?_|((first|refine raA ?_|refine gA ?_|refine oC' (c1) ?_);simp [*])|((first|refine kA ?_|refine eA ?_);try simp)|refine bA ?_|(refine AWp.ret (pR1 rfl ?_); (simp [*]; done))|((first|refine zja ?_ ?_|refine cRI ?_ ?_)<;>intro hq<;>(try simp at hq)<;>(try simp [*]))|(refine zWa ?_ ?_<;>intro hq<;>(try simp [*])))
 repeat' (first|refine qA ?_|((first|refine raA ?_|refine gA ?_|refine oC' (c1) ?_);simp [*])|((first|refine kA ?_|refine eA ?_);try simp)|refine bA ?_|((first|refine zja ?_ ?_|refine cRI ?_ ?_)<;>intro hq<;>(try simp at hq)<;>(try simp [*]))|(refine zWa ?_ ?_<;>intro hq<;>(try simp [*])))
 refine (AWp.ro (fun m st => ∃ (i : Nat) (q : Int), m = l.length - i /\ i <= l.length /\ st.sl 17 = .lst false 4 (l.map Ex.av) /\ st.sl 18 = .int .i64 l.length /\ st.sl 19 = .int .i64 i /\ st.sl 1 = .int .i64 d /\ st.sl 5 = .int .i64 q /\ 0 <= q /\ q + zYa Ex.nodes (l.drop i) <= 1 + zYa Ex.nodes l /\ Ex.msrs l (d + 1) 1 = Ex.msrs (l.drop i) (d + 1) q) l.length ⟨0, 1, by simp, by simp, by simp, by simp, by simp, by simp, by simp, by omega, by simp, by simp⟩ ?_);rintro R m st hR ⟨i, q, rfl, hi, s17, s18, s19, s1, s5, hq0, hq1, hr⟩;refine rA ?_;simp [s18, s19];(repeat refine qA ?_);refine AWp.cond (b := decide (i < l.length)) (by simp) (fun hb => ?_) (fun hb => ?_)
 ·simp at hb;have hg : l[i]? = some l[i] := gE hb;have hdr : l.drop i = l[i] :: l.drop (i + 1) := List.drop_eq_getElem_cons hb;refine kA ?_;simp;(repeat refine qA ?_);refine bA ?_;refine rA ?_;have hx : yga Tryz.prog st.mem 24 (.lst false 4 (l.map Ex.av)) (.int .i64 i) = some (.ref l[i].cells) := idx (y := l[i].av) es_24 (by simp [hg]);simp [s17, s18, s19, hx];intro g2 hg2;have hw1 : IntKind.wrap .i64 ((d : Int) + 1) = ((d + 1 : Nat) : Int) := zga (by omega) (by omega);refine raA ?_;simp [s1, hw1];refine oC' (h l[i] (List.getElem_mem _) (d + 1) (by omega)) ?_;simp;refine rA ?_;simp;have hz : Ex.msrs l (d + 1) 1 = if l[i].msr (d + 1) < 0 then -1 else Ex.msrs (l.drop (i + 1)) (d + 1) (q + l[i].msr (d + 1)) := by rw [hr, hdr, Ex.msrs_cons]
  refine AWp.cond (b := decide (l[i].msr (d + 1) < 0)) (by simp) (fun he => ?_) (fun he => ?_)
  ·simp at he;refine rA ?_;simp;exact AWp.ret (pR1 rfl (by simp [hd9]; rw [hz, if_pos he]))
  simp at he;refine kA ?_;simp;have hle : l[i].msr (d + 1) <= l[i].nodes := by unfold Ex.msr; split <;> omega
  rw [hdr, zYa] at hq1;have hw2 : IntKind.wrap .i64 (q + l[i].msr (d + 1)) = q + l[i].msr (d + 1) := zga (by omega) (by omega);refine rA ?_;simp [s5, hw2];refine rA ?_;have hw := iA i (by omega);simp [s19, hw];refine hR _ (l.length - (i + 1)) (by omega) ⟨i + 1, q + l[i].msr (d + 1), rfl, hb, by simp [s17], by simp [s18], by simp, by simp [s1], by simp, by omega, by omega, ?_⟩;rw [hz, if_neg (by omega)]
 simp at hb;refine eA ?_;simp;refine rA ?_;simp [s5];have : i = l.length := by omega
 subst this;refine AWp.ret (pR1 rfl ?_);simp [hd9];rw [hr];simp [Ex.msrs, Ex.goods, zYa]
theorem yCd (e : Ex) : e.tot <= 1048576 -> ∀ d : Nat, d <= 9 -> zca Tryz.prog 88 [e.av, .int .i64 d] (.int .i64 (e.msr d)) := by
 induction e using Ex.ind with | h k n s l h =>
 intro ht d hd;refine w1c k n s l ht (fun x hx => h x hx ?_) d hd;rw [Ex.tot_mk] at ht;have := zoa Ex.tot hx;omega
theorem yab (e : Ex) (ht : e.tot <= 1048576) : zca Tryz.prog 30 [e.av] (.bool e.ok) := by
 refine pO Tryz.func30 ?_;have c1 := yCd e ht 1 (by omega);unfold Ex.av at c1 ⊢;refine rA ?_;simp;intro g;refine raA ?_;simp;refine oC' c1 ?_;simp;refine oC' (zza _ _ _) ?_;simp;refine AWp.ret (pR1 rfl ?_);simp only [yYa, reduceIte];congr 1;rw [Bool.eq_iff_iff];simp [Ex.ok, Ex.msr, inR];have : 1 <= e.nodes := by cases e; rw [Ex.nodes]; omega
 by_cases h1 : e.good 1 = true <;> simp [h1] <;> omega
theorem w2c (k n : Int) (s : ByteArray) (l : List Ex) (ht : (Ex.mk k n s l).tot <= 1048576) (h : ∀ x ∈ l, ∀ d : Nat, d <= 9 -> zca Tryz.prog 40 [x.av, .int .i64 d] (.int .i64 (x.cnt d))) (d : Nat) (hd : d <= 9) :
  zca Tryz.prog 40 [(Ex.mk k n s l).av, .int .i64 d] (.int .i64 ((Ex.mk k n s l).cnt d)) := by
 rw [Ex.cnt];rw [Ex.tot_mk] at ht;have hlen := zua Ex.tot l;have hsum := wka Ex.nodes Ex.tot l (fun x _ => Ex.nodes_le x);have hs : s.size <= 9223372036854775806 := by omega
 refine pO Tryz.func40 ?_;have hav : (Ex.mk k n s l).av = .agg [.int .i64 k, .int .i64 n, .str s, .lst false 4 (l.map Ex.av)] := by unfold Ex.av; rw [Ex.cells_mk]; rfl
 rw [hav];refine rA ?_;simp;intro g;have c1 := x0d k n s l hs;rw [hav] at c1;by_cases hd8 : 8 < d
 ·have hd9 : ¬ d <= 8 := by omega
  have hdi : (8 : Int) < d := by omega
  repeat' (first|refine qA ?_|((first|refine raA ?_|refine gA ?_|refine oC' (c1) ?_);simp [*])|((first|refine kA ?_|refine eA ?_);try simp)|refine bA ?_|(refine AWp.ret (pR1 rfl ?_); (simp [*]; done))|((first|refine zja ?_ ?_|refine cRI ?_ ?_)<;>intro hq<;>(try simp at hq)<;>(try simp [*]))|(refine zWa ?_ ?_<;>intro hq<;>(try simp [*])))
 have hd9 : d <= 8 := by omega
 have hdi : (d : Int) <= 8 := by omega
 have hdj : ¬ ((8 : Int) < d) := by omega
 cases hp : zSa k n s l.length
 ·repeat' (first|refine qA ?_|((first|refine raA ?_|refine gA ?_|refine oC' (c1) ?_);simp [*])|((first|refine kA ?_|refine eA ?_);try simp)|refine bA ?_|(refine AWp.ret (pR1 rfl ?_); (simp [*]; done))|((first|refine zja ?_ ?_|refine cRI ?_ ?_)<;>intro hq<;>(try simp at hq)<;>(try simp [*]))|(refine zWa ?_ ?_<;>intro hq<;>(try simp [*])))
 repeat' (first|refine qA ?_|((first|refine raA ?_|refine gA ?_|refine oC' (c1) ?_);simp [*])|((first|refine kA ?_|refine eA ?_);try simp)|refine bA ?_|((first|refine zja ?_ ?_|refine cRI ?_ ?_)<;>intro hq<;>(try simp at hq)<;>(try simp [*]))|(refine zWa ?_ ?_<;>intro hq<;>(try simp [*])))
 refine (AWp.ro (fun m st => ∃ (i : Nat) (q : Int), m = l.length - i /\ i <= l.length /\ st.sl 2 = .ptr g 0 /\ st.mem g = some (.box [.int .i64 k, .int .i64 n, .str s, .lst false 4 (l.map Ex.av)]) /\ st.sl 6 = .int .i64 i /\ st.sl 1 = .int .i64 d /\ st.sl 5 = .int .i64 q /\ 0 <= q /\ q + 100 * zYa Ex.nodes (l.drop i) <= 1 + 100 * zYa Ex.nodes l /\ Ex.cnts l (d + 1) 1 = Ex.cnts (l.drop i) (d + 1) q) l.length ⟨0, 1, by simp, by simp, by simp, by simp, by simp, by simp, by simp, by omega, by simp, by simp⟩ ?_);rintro R m st hR ⟨i, q, rfl, hi, s2, sg, s6, s1, s5, hq0, hq1, hr⟩;have hF : i < l.length /\ q <= 60 ∨ Ex.cnts l (d + 1) 1 = q := by
  by_cases hb : i < l.length
  ·by_cases hq : q <= 60
   ·exact .inl ⟨hb, hq⟩
   refine .inr ?_;rw [hr, List.drop_eq_getElem_cons hb, Ex.cnts, if_neg hq]
  refine .inr ?_;rw [hr, List.drop_eq_nil_of_le (by omega), Ex.cnts]
 by_cases hb : i < l.length /\ q <= 60
 ·obtain ⟨hb, hq⟩ := hb;have hg : l[i]? = some l[i] := gE hb;have hdr : l.drop i = l[i] :: l.drop (i + 1) := List.drop_eq_getElem_cons hb;have hbi : (i : Int) < l.length := by omega
  refine rA ?_;simp [s2, sg, s5, s6, hb, hq];refine tA ?_;refine kA ?_;simp;(repeat refine qA ?_);refine bA ?_;refine raA ?_;have hx : yga Tryz.prog st.mem 24 (.lst false 4 (l.map Ex.av)) (.int .i64 i) = some (.ref l[i].cells) := idx (y := l[i].av) es_24 (by simp [hg]);have hw1 : IntKind.wrap .i64 ((d : Int) + 1) = ((d + 1 : Nat) : Int) := zga (by omega) (by omega);simp [s2, sg, s1, s5, s6, hx, hw1];refine oC' (h l[i] (List.getElem_mem _) (d + 1) (by omega)) ?_;have hc0 := l[i].cnt_pos (d + 1);have hc1 := l[i].cnt_le (d + 1);rw [hdr, zYa] at hq1;have hw2 : IntKind.wrap .i64 (q + l[i].cnt (d + 1)) = q + l[i].cnt (d + 1) := zga (by omega) (by omega);simp [hw2];refine rA ?_;have hw := iA i (by omega);simp [s6, hw];refine hR _ (l.length - (i + 1)) (by omega) ⟨i + 1, q + l[i].cnt (d + 1), rfl, hb, by simp [s2], by simp [sg], by simp, by simp [s1], by simp, by omega, by omega, ?_⟩;rw [hr, hdr, Ex.cnts, if_pos hq]
 have hfin : Ex.cnts l (d + 1) 1 = q := hF.resolve_left hb;refine rA ?_;by_cases hb1 : i < l.length
 ·have hq : ¬ q <= 60 := fun hq => hb ⟨hb1, hq⟩;simp [s2, sg, s5, s6, hb1, hq];(repeat refine qA ?_);refine AWp.condF (by simp [hq]) ?_;refine eA ?_;simp;refine rA ?_;simp [s5];exact AWp.ret (pR1 rfl (by simp [hd9, hfin]))
 simp [s2, sg, s5, s6, hb1];refine fA ?_;refine eA ?_;simp;refine rA ?_;simp [s5];exact AWp.ret (pR1 rfl (by simp [hd9, hfin]))
theorem yDd (e : Ex) : e.tot <= 1048576 -> ∀ d : Nat, d <= 9 -> zca Tryz.prog 40 [e.av, .int .i64 d] (.int .i64 (e.cnt d)) := by
 induction e using Ex.ind with | h k n s l h =>
 intro ht d hd;refine w2c k n s l ht (fun x hx => h x hx ?_) d hd;rw [Ex.tot_mk] at ht;have := zoa Ex.tot hx;omega
theorem xEO (e : Ex) (ht : e.tot <= 1048576) : zca Tryz.prog 13 [e.av] (.bool e.ok) := by
 refine pO Tryz.func13 ?_;have c1 := yDd e ht 1 (by omega);unfold Ex.av at c1 ⊢;refine rA ?_;simp;intro g;refine raA ?_;simp;refine oC' c1 ?_;simp;exact AWp.ret (pR1 rfl (by simp [Ex.ok_cnt]))
end Go.T
