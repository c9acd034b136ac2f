/- Functions of Go's library, at this seat, told of by hand: by the shelf's contracts. Conditions: the world at first holds the library's variables as their text lays them (Laid). No conditions. -/
import Derived.Test.YtcfgiajpbjbdpaaDoorTrydPlain
import Derived.Test.YtcfgiajpbjbdpaaDoorEwR
set_option maxHeartbeats 16000000
set_option maxRecDepth 100000
set_option linter.unusedVariables false
set_option linter.unusedSimpArgs false
set_option linter.unusedSectionVars false
namespace Go.Proofs.Sc
open Go Go.Ev
structure Laid (G : Glob) : Prop where
 tab : Lib.TabIs Tryd.prog G "internal/strconv.uint64pow10" .u64 Lib.pow10Tab
 e1 : ∃ v, G.cell? ⟨1, 0, none⟩ = some v ∧ (v = .nilIface ∨ ∃ te pe, v = .iface te pe)
 e2 : ∃ v, G.cell? ⟨2, 0, none⟩ = some v ∧ (v = .nilIface ∨ ∃ te pe, v = .iface te pe)
theorem itoa_told {G : Glob} (hG : Laid G) : BodyS G Tryd.prog 39 (primF1 .itoa) := itoa_body hG.tab Tryd.strconv_Itoa
theorem atoi_told {G : Glob} (hG : Laid G) : BodyS G Tryd.prog 53 (primF1 (.atoi 109)) := by
 obtain ⟨v1, g1, k1⟩ := hG.e1
 obtain ⟨v2, g2, k2⟩ := hG.e2
 exact atoi_body (t5 := 5) g1 k1 g2 k2 Tryd.strconv_Atoi_ok (fun s hl h h2 ev w hv hev => ⟨_, Any.strconv_Atoi_syntax Tryd.laysC172 s hl (by
  generalize Lib.atoiAll s.data.toList = x at h h2 ⊢
  cases x <;> first | rfl | exact absurd rfl (h _) | exact absurd rfl h2) ev w hv hev⟩) (fun s hl h ev w hv hev => ⟨_, Tryd.strconv_Atoi_range s hl h ev w hv hev⟩)
theorem sidx_told {G : Glob} (hG : Laid G) : BodyS G Tryd.prog 66 (primF2 .sidx) := sidx_body Tryd.stringslite_Index_one
theorem sbyte_told {G : Glob} (hG : Laid G) : BodyS G Tryd.prog 68 (primF2 .sbyte) := sbyte_body Tryd.stringslite_IndexByte
theorem join_told {G : Glob} (hG : Laid G) : BodyS G Tryd.prog 47 (primF2 .join) := join_body Tryd.strings_Join_none Tryd.strings_Join
end Go.Proofs.Sc
