/- The types of this seat. Facts about the seat's program. No conditions. -/
import Derived.Test.YtohcoghaaifmgaaEwE
import Derived.Test.YtohcoghaaifmgaaRows
import Derived.WalkKit
import Derived.ProofKit
import Derived.OpenShut
import Derived.ShutString
import Derived.ChangeOld
import Derived.Below
import Derived.SizedLaws
import Derived.Carry
set_option maxHeartbeats 16000000
set_option maxRecDepth 100000
set_option linter.unusedVariables false
set_option linter.unusedSimpArgs false
set_option linter.unusedSectionVars false
namespace Go.Proofs.It
open Go Go.Ev
noncomputable def fieldsOf (t : TypeId) : Array Field :=
 match Try.prog.underlying t with
 | some (.struct fs) => fs
 | _ => #[]
abbrev tInt : TypeId := 3
abbrev tBool : TypeId := 4
abbrev tStr : TypeId := 9
abbrev tNodes : TypeId := 22
abbrev tForest : TypeId := 24
abbrev tU32 : TypeId := 25
abbrev tRules : TypeId := 26
abbrev tFilter : TypeId := 28
abbrev tIter : TypeId := 30
abbrev tInts : TypeId := 43
abbrev tVerdict : TypeId := 46
abbrev tKind : TypeId := 70
abbrev tRule : TypeId := 72
abbrev tName : TypeId := 79
abbrev tUnits : TypeId := 81
abbrev tAttrs : TypeId := 82
abbrev tMode : TypeId := 83
abbrev tNode : TypeId := 85
abbrev tU16 : TypeId := 86
abbrev tAttr : TypeId := 117
theorem uInt : Try.prog.underlying tInt = some (.int .i64) := by kernel_rfl
theorem uBool : Try.prog.underlying tBool = some .bool := by kernel_rfl
theorem uStr : Try.prog.underlying tStr = some .string := by kernel_rfl
theorem uNodes : Try.prog.underlying tNodes = some (.slice tNode) := by kernel_rfl
theorem uForest : Try.prog.underlying tForest = some (.struct (fieldsOf tForest)) := by kernel_rfl
theorem fForest : (fieldsOf tForest).toList.map (·.type) = [tNodes] := by kernel_rfl
theorem uU32 : Try.prog.underlying tU32 = some (.int .u32) := by kernel_rfl
theorem uRules : Try.prog.underlying tRules = some (.slice tRule) := by kernel_rfl
theorem uFilter : Try.prog.underlying tFilter = some (.struct (fieldsOf tFilter)) := by kernel_rfl
theorem fFilter : (fieldsOf tFilter).toList.map (·.type) = [tU32, tRules] := by kernel_rfl
theorem uIter : Try.prog.underlying tIter = some (.struct (fieldsOf tIter)) := by kernel_rfl
theorem fIter : (fieldsOf tIter).toList.map (·.type) = [tInt, tInt, tBool, tFilter] := by kernel_rfl
theorem uInts : Try.prog.underlying tInts = some (.slice tInt) := by kernel_rfl
theorem uVerdict : Try.prog.underlying tVerdict = some (.int .u8) := by kernel_rfl
theorem uKind : Try.prog.underlying tKind = some (.int .u8) := by kernel_rfl
theorem uRule : Try.prog.underlying tRule = some (.struct (fieldsOf tRule)) := by kernel_rfl
theorem fRule : (fieldsOf tRule).toList.map (·.type) = [tKind, tStr, tVerdict] := by kernel_rfl
theorem uName : Try.prog.underlying tName = some (.struct (fieldsOf tName)) := by kernel_rfl
theorem fName : (fieldsOf tName).toList.map (·.type) = [tStr, tStr, tStr] := by kernel_rfl
theorem uUnits : Try.prog.underlying tUnits = some (.slice tU16) := by kernel_rfl
theorem uAttrs : Try.prog.underlying tAttrs = some (.slice tAttr) := by kernel_rfl
theorem uMode : Try.prog.underlying tMode = some (.int .u8) := by kernel_rfl
theorem uNode : Try.prog.underlying tNode = some (.struct (fieldsOf tNode)) := by kernel_rfl
theorem fNode : (fieldsOf tNode).toList.map (·.type) = [tKind, tName, tStr, tStr, tUnits, tAttrs, tInt, tInts, tInt, tInt, tInt, tMode, tBool, tBool] := by kernel_rfl
theorem uU16 : Try.prog.underlying tU16 = some (.int .u16) := by kernel_rfl
theorem uAttr : Try.prog.underlying tAttr = some (.struct (fieldsOf tAttr)) := by kernel_rfl
theorem fAttr : (fieldsOf tAttr).toList.map (·.type) = [tName, tStr] := by kernel_rfl
theorem bInt : Try.prog.bytesOf tInt = 8 := by kernel_rfl
theorem bU16 : Try.prog.bytesOf tU16 = 2 := by kernel_rfl
theorem bNode : Try.prog.bytesOf tNode = 200 := by kernel_rfl
theorem bAttr : Try.prog.bytesOf tAttr = 64 := by kernel_rfl
theorem bRule : Try.prog.bytesOf tRule = 32 := by kernel_rfl
open Go Go.Ev Go.ChangeShapes Go.WideShapes Go.ChangeAt Go.RowKit
theorem wZT : ownKnob Try.prog.godebug = none := by kernel_rfl
theorem laidOut : laidOutB Try.prog = true := by kernel_rfl
end Go.Proofs.It
