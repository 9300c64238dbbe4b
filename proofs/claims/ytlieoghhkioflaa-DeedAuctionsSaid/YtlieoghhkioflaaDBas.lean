/- Deeds: base. No condition. -/
import Derived.Test.YtlieoghhkioflaaDTy
import Derived.Test.YtlieoghhkioflaaACode1
set_option linter.unusedSimpArgs false
set_option linter.unusedVariables false
namespace Go.Proofs.Ytlieoghhkioflaa
open Go Go.RowKit
theorem mixed : Try.prog.follows .mixedOrders = true := by kernel_rfl
noncomputable def decP (p : Prop) : Bool := @decide p (Classical.propDecidable _)
theorem decP_true {p : Prop} : decP p = true ↔ p := @decide_eq_true_iff p (Classical.propDecidable _)
theorem decP_false {p : Prop} : decP p = false ↔ ¬ p := @decide_eq_false_iff_not p (Classical.propDecidable _)
theorem decP_t {p : Prop} (h : p) : decP p = true := decP_true.2 h
theorem decP_f {p : Prop} (h : ¬ p) : decP p = false := decP_false.2 h
end Go.Proofs.Ytlieoghhkioflaa
