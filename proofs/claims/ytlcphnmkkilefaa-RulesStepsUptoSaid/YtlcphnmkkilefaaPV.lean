/- The Rules laws, as the rows ask. -/
import Derived.Test.YtlcphnmkkilefaaPU
import Derived.Test.YtlcphnmkkilefaaOk
set_option linter.unusedVariables false
namespace Go.Proofs.Ytlcphnmkkilefaa.Ab
open Go
theorem sumL_len {β : Type} {f : β → Nat} (h : ∀ x, 1 ≤ f x) (l : List β) : l.length ≤ sumL f l := by
  induction l with
  | nil => simp [sumL]
  | cons x l ih => have := h x; simp only [sumL, List.length_cons] at *; omega
theorem bulk_len7 (l : den LAttr) : l.length ≤ bulkT LAttr l := by
  have := sumL_len (f := bulkT TAttr) (fun x => by simp only [bulkT]; omega) l
  simp only [bulkT] at *; omega
theorem RulesSteps_ok (keys : den LKey) (set : den LAttr) (key by' : den (.int .i64)) (_ : wfT LKey keys) (_ : wfT LAttr set) (_ : wfT (.int .i64) key) (_ : wfT (.int .i64) by') (h : bulkT LKey keys + bulkT LAttr set + bulkT (.int .i64) key + bulkT (.int .i64) by' ≤ 1048576) :
    ∃ n, acall cfg intr intrI n 3 [.s (.val LKey keys), .s (.val LAttr set), .s (.val (.int .i64) key), .s (.val (.int .i64) by')] (.one .bool) = some true := by
  have h1 := bulk_len7 set
  exact ⟨8388607 + 1, (law14_RulesSteps_eq _ keys set key by').trans (rulesSteps _ rfl keys set key by' (by omega))⟩
end Go.Proofs.Ytlcphnmkkilefaa.Ab
