/- AttrsOrder and AttrsSame, as the rows ask. -/
import Derived.Test.YtecangnmmbcbkaaP4
import Derived.Test.YtecangnmmbcbkaaP7
set_option linter.unusedVariables false
namespace Go.Proofs.Ytecangnmmbcbkaa.Ab
open Go
theorem AttrsOrder_ok (a : den LAttr) (k : den (.int .i64)) (_ : wfT LAttr a) (_ : wfT (.int .i64) k) (h : bulkT LAttr a + bulkT (.int .i64) k ≤ 1048576) :
    ∃ n, acall cfg intr intrI n 6 [.s (.val LAttr a), .s (.val (.int .i64) k)] (.one .bool) = some true := by
  have h1 := bulk_len7 a
  exact ⟨8388607 + 1, (law05_AttrsOrder_eq _ a k).trans (attrsOrder _ rfl a k (by omega))⟩
theorem AttrsSame_ok (a b : den LAttr) (x : den TAttr) (_ : wfT LAttr a) (_ : wfT LAttr b) (_ : wfT TAttr x) (h : bulkT LAttr a + bulkT LAttr b + bulkT TAttr x ≤ 1048576) :
    ∃ n, acall cfg intr intrI n 7 [.s (.val LAttr a), .s (.val LAttr b), .s (.val TAttr x)] (.one .bool) = some true := by
  have h1 := bulk_len7 a
  have h2 := bulk_len7 b
  exact ⟨8388607 + 1, (law05_AttrsSame_eq _ a b x).trans (attrsSame _ rfl a b x (by omega) (by omega))⟩
end Go.Proofs.Ytecangnmmbcbkaa.Ab
