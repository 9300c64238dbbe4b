/- Palms, the reference: Slots. No condition. -/
import Derived.Test.YtlapepdhkomijaaPWrk
import Derived.Test.YtlapepdhkomijaaPRgr
import Derived.Test.YtlapepdhkomijaaPKnm
set_option linter.unusedSimpArgs false
set_option linter.unusedVariables false
namespace Go.Proofs.Ytlapepdhkomijaa
open Go Go.RowKit
variable {G : Nat → Option (Nat × (Nat → Val))}
theorem workE_0 {l : Pms} {w : Wk} (h : workE l w = 0) : PmsOk l ∧ ¬ badI l < l.1 ∧ WkOk (knF l) w := by
 unfold workE at h
 split at h
 ·rename_i h1
  split at h
  ·cases h
  ·rename_i h2
   split at h
   ·rename_i h3; exact ⟨pmE_0 h1,h2,decP_true.1 h3⟩
   ·cases h
 ·cases h
end Go.Proofs.Ytlapepdhkomijaa
