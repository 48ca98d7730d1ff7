/- PatchPast, as the row asks. -/
import Derived.Test.YtecangnmmbcbkaaP4
import Derived.Test.YtecangnmmbcbkaaP5
set_option linter.unusedVariables false
namespace Go.Proofs.Ytecangnmmbcbkaa.Ab
open Go
theorem PatchPast_ok (a : den Y8) (p q : den Y10) (_ : wfT Y8 a) (_ : wfT Y10 p) (_ : wfT Y10 q) (h : bulkT Y8 a + bulkT Y10 p + bulkT Y10 q ≤ 1048576) :
    ∃ n, acall cfg intr intrI n 5 [.s (.val Y8 a), .s (.val Y10 p), .s (.val Y10 q)] (.one .bool) = some true := by
  have h1 := bulk_len7 a
  have h2 := bulk_len6 p
  have h3 := bulk_len6 q
  exact ⟨8388607 + 1, (f5_eq _ a p q).trans (patchPast _ rfl a p q (by omega) (by omega) (by omega))⟩
end Go.Proofs.Ytecangnmmbcbkaa.Ab
