/- The two laws, as the row asks. -/
import Derived.Test.YtecangnmmbcbkaaOk
import Derived.Test.YtecangnmmbcbkaaP3
set_option linter.unusedVariables false
namespace Go.Proofs.Ytecangnmmbcbkaa.Ab
open Go
theorem sumL_len {β : Type} {f : β → Nat} (h : ∀ x, 1 ≤ f x) (l : List β) : l.length ≤ sumL f l := by
  induction l with
  | nil => simp
  | cons x l ih => have := h x; simp only [List.length_cons, sumL]; omega
theorem bulk_len7 (l : den Y8) : l.length ≤ bulkT Y8 l := by
  have := sumL_len (f := bulkT Y7) (fun x => by simp only [bulkT]; omega) l
  simp only [bulkT] at *; omega
theorem bulk_len6 (l : den Y10) : l.length ≤ bulkT Y10 l := by
  have := sumL_len (f := bulkT Y6) (fun x => by simp only [bulkT]; omega) l
  simp only [bulkT] at *; omega
theorem PatchBack_ok (a b : den Y8) (p : den Y10) (_ : wfT Y8 a) (_ : wfT Y8 b) (_ : wfT Y10 p) (h : bulkT Y8 a + bulkT Y8 b + bulkT Y10 p ≤ 1048576) :
    ∃ n, acall cfg intr intrI n 3 [.s (.val Y8 a), .s (.val Y8 b), .s (.val Y10 p)] (.one .bool) = some true := by
  have h1 := bulk_len7 a
  have h2 := bulk_len7 b
  have h3 := bulk_len6 p
  exact ⟨8388607 + 1, (f3_eq _ a b p).trans (patchBack _ rfl a b p (by omega) (by omega) (by omega))⟩
theorem PatchAlgebra_ok (a : den Y8) (p q r : den Y10) (_ : wfT Y8 a) (_ : wfT Y10 p) (_ : wfT Y10 q) (_ : wfT Y10 r) (h : bulkT Y8 a + bulkT Y10 p + bulkT Y10 q + bulkT Y10 r ≤ 1048576) :
    ∃ n, acall cfg intr intrI n 4 [.s (.val Y8 a), .s (.val Y10 p), .s (.val Y10 q), .s (.val Y10 r)] (.one .bool) = some true := by
  have h1 := bulk_len7 a
  have h2 := bulk_len6 p
  have h3 := bulk_len6 q
  have h4 := bulk_len6 r
  exact ⟨8388607 + 1, (f4_eq _ a p q r).trans (patchAlgebra _ rfl a p q r (by omega) (by omega) (by omega) (by omega))⟩
end Go.Proofs.Ytecangnmmbcbkaa.Ab
