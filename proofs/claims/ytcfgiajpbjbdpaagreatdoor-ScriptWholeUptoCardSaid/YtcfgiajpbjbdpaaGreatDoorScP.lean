/- Functions of Go's library, at this seat, told of by hand: by the shelf's contracts. Conditions: the world at first holds the library's variables as their text lays them (Laid). No conditions. -/
import Derived.Test.YtcfgiajpbjbdpaaGreatDoorTryzPlain
import Derived.Test.YtcfgiajpbjbdpaaGreatDoorEwR
set_option maxHeartbeats 16000000
set_option maxRecDepth 100000
set_option linter.unusedVariables false
set_option linter.unusedSimpArgs false
set_option linter.unusedSectionVars false
namespace Go.Proofs.Sc
open Go Go.Ev
structure Laid (G : Glob) : Prop where
 tab : Lib.TabIs Tryz.prog G "internal/strconv.uint64pow10" .u64 Lib.pow10Tab
 e1 : ∃ v, G.cell? ⟨2, 0, none⟩ = some v ∧ (v = .nilIface ∨ ∃ te pe, v = .iface te pe)
 e2 : ∃ v, G.cell? ⟨3, 0, none⟩ = some v ∧ (v = .nilIface ∨ ∃ te pe, v = .iface te pe)
theorem itoa_told {G : Glob} (hG : Laid G) : BodyS G Tryz.prog 43 (primF1 .itoa) := itoa_body hG.tab Tryz.strconv_Itoa
theorem atoi_told {G : Glob} (hG : Laid G) : BodyS G Tryz.prog 100 (primF1 (.atoi 165)) := by
 obtain ⟨v1, g1, k1⟩ := hG.e1
 obtain ⟨v2, g2, k2⟩ := hG.e2
 exact atoi_body (t5 := 5) g1 k1 g2 k2 Tryz.strconv_Atoi_ok (fun s hl h h2 ev w hv hev => ⟨_, Any.strconv_Atoi_syntax Tryz.laysC172 s hl (by
  generalize Lib.atoiAll s.data.toList = x at h h2 ⊢
  cases x <;> first | rfl | exact absurd rfl (h _) | exact absurd rfl h2) ev w hv hev⟩) (fun s hl h ev w hv hev => ⟨_, Tryz.strconv_Atoi_range s hl h ev w hv hev⟩)
theorem sidx_told {G : Glob} (hG : Laid G) : BodyS G Tryz.prog 108 (primF2 .sidx) := sidx_body Tryz.stringslite_Index_one
theorem sbyte_told {G : Glob} (hG : Laid G) : BodyS G Tryz.prog 116 (primF2 .sbyte) := sbyte_body Tryz.stringslite_IndexByte
theorem join_told {G : Glob} (hG : Laid G) : BodyS G Tryz.prog 90 (primF2 .join) := join_body Tryz.strings_Join_none Tryz.strings_Join
end Go.Proofs.Sc
