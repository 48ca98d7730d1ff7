/- The two laws, as the row asks. -/
import Derived.Test.YtecangnmmbcbkaaOk
import Derived.Test.YtecangnmmbcbkaaP3
set_option linter.unusedVariables false
namespace Go.Proofs.Ytecangnmmbcbkaa.Ab
open Go
theorem sumL_len {β : Type} {f : β → Nat} (h : ∀ x, 1 ≤ f x) (l : List β) : l.length ≤ sumL f l := by
  induction l with
  | nil => simp
  | cons x l ih => have := h x; simp only [List.length_cons, sumL]; omega
theorem bulk_len7 (l : den LAttr) : l.length ≤ bulkT LAttr l := by
  have := sumL_len (f := bulkT TAttr) (fun x => by simp only [bulkT]; omega) l
  simp only [bulkT] at *; omega
theorem bulk_len6 (l : den LChange) : l.length ≤ bulkT LChange l := by
  have := sumL_len (f := bulkT TChange) (fun x => by simp only [bulkT]; omega) l
  simp only [bulkT] at *; omega
theorem PatchBack_ok (a b : den LAttr) (p : den LChange) (_ : wfT LAttr a) (_ : wfT LAttr b) (_ : wfT LChange p) (h : bulkT LAttr a + bulkT LAttr b + bulkT LChange p ≤ 1048576) :
    ∃ n, acall cfg intr intrI n 3 [.s (.val LAttr a), .s (.val LAttr b), .s (.val LChange p)] (.one .bool) = some true := by
  have h1 := bulk_len7 a
  have h2 := bulk_len7 b
  have h3 := bulk_len6 p
  exact ⟨8388607 + 1, (law06_PatchBack_eq _ a b p).trans (patchBack _ rfl a b p (by omega) (by omega) (by omega))⟩
theorem PatchAlgebra_ok (a : den LAttr) (p q r : den LChange) (_ : wfT LAttr a) (_ : wfT LChange p) (_ : wfT LChange q) (_ : wfT LChange r) (h : bulkT LAttr a + bulkT LChange p + bulkT LChange q + bulkT LChange r ≤ 1048576) :
    ∃ n, acall cfg intr intrI n 4 [.s (.val LAttr a), .s (.val LChange p), .s (.val LChange q), .s (.val LChange r)] (.one .bool) = some true := by
  have h1 := bulk_len7 a
  have h2 := bulk_len6 p
  have h3 := bulk_len6 q
  have h4 := bulk_len6 r
  exact ⟨8388607 + 1, (law06_PatchAlgebra_eq _ a p q r).trans (patchAlgebra _ rfl a p q r (by omega) (by omega) (by omega) (by omega))⟩
end Go.Proofs.Ytecangnmmbcbkaa.Ab
