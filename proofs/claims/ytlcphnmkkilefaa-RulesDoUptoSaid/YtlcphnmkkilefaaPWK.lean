/- RulesDo and RulesTyped, as their rows ask. -/
import Derived.Test.YtlcphnmkkilefaaPV
import Derived.Test.YtlcphnmkkilefaaPZ
set_option linter.unusedVariables false
namespace Go.Proofs.Ytlcphnmkkilefaa.Ab
open Go
theorem bulk_len7c (l : den LChange) : l.length ≤ bulkT LChange l := by
  have := sumL_len (f := bulkT TChange) (fun x => by simp only [bulkT]; omega) l
  simp only [bulkT] at *; omega
theorem RulesTyped_ok (keys : den LKey) (left right : den LAttr) (_ : wfT LKey keys) (_ : wfT LAttr left) (_ : wfT LAttr right) (h : bulkT LKey keys + bulkT LAttr left + bulkT LAttr right ≤ 1048576) :
    ∃ n, acall cfg intr intrI n 5 [.s (.val LKey keys), .s (.val LAttr left), .s (.val LAttr right)] (.one .bool) = some true := by
  have h1 := bulk_len7 left
  have h2 := bulk_len7 right
  exact ⟨8388607 + 1, (law14_RulesTyped_eq _ keys left right).trans (rulesTyped _ rfl keys left right (by omega) (by omega))⟩
theorem RulesDo_ok (keys : den LKey) (p : den LChange) (a b : den LAttr) (key by' : den (.int .i64)) (_ : wfT LKey keys) (_ : wfT LChange p) (_ : wfT LAttr a) (_ : wfT LAttr b) (_ : wfT (.int .i64) key) (_ : wfT (.int .i64) by')
    (h : bulkT LKey keys + bulkT LChange p + bulkT LAttr a + bulkT LAttr b + bulkT (.int .i64) key + bulkT (.int .i64) by' ≤ 1048576) :
    ∃ n, acall cfg intr intrI n 4 [.s (.val LKey keys), .s (.val LChange p), .s (.val LAttr a), .s (.val LAttr b), .s (.val (.int .i64) key), .s (.val (.int .i64) by')] (.one .bool) = some true := by
  have h1 := bulk_len7 a
  have h2 := bulk_len7 b
  have h3 := bulk_len7c p
  exact ⟨8388607 + 1, (law14_RulesDo_eq _ keys p a b key by').trans (rulesDo _ rfl keys p a b key by' (by omega) (by omega) (by omega))⟩
end Go.Proofs.Ytlcphnmkkilefaa.Ab
