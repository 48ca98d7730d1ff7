/-
  No cell of these rows narrows 'for every input' (looked for: loops, veiled, ifaces, maps, wideKeys, modest, calm, conditions, laid).
  DERIVED. THE GIVEN ROWS OF THIS SEAT. 5 by the template 'for every input the law returns true; each argument reads behind the call as it read before'; 0 by the template 'total and deterministic' (their statements: YtecangnmmbcbkaaTotals.lean).
  GIVEN WITH THE SEED: the statements are not yours to turn. If you find one false, say at which input.
  Laid BY PROGRAM, IN A SANDBOX (cutbox-rows.mjs): the forced cells as the released guide's own fill.sh prints them over the translation a63762b53c18e6f1… (all of the seat's roots in one cut). By AI agents, Wed Nov 11 2026. No macro, syntax, notation, axiom, sorry.
-/
import Derived.Test.YtecangnmmbcbkaaChecked
import GoSem.Claim
import GoSem.ClaimJoined
import GoSem.ClaimMapViews
import Derived.JoinedTies
import Derived.KernelRfl
namespace Go.Proofs.Ytecangnmmbcbkaa
/- THE CELL 'sum', in the pinned program and in every row, IS THE sha256 OF THE DUMP (.gsa) THAT YtecangnmmbcbkaaProg.lean LOADS. Nothing in Lean hashes anything: it is a label: what it is worth is what the hold of that sum in a sandbox is worth. -/
noncomputable def Try.pinned : Pinned := { name := "ytecangnmmbcbkaa", sum := "a63762b53c18e6f1607e2e34914e358d81f7ef06b140026892a86192997542b8", checked := Try.checked }
namespace Rows
def none {H : Type} : Left H := { results := [], args := [] }

/-- 'rubriclaw06.PatchBack': WHATEVER THE INPUT: true; the input reads as it did. -/
def patchBackSpec : ChangeSpec := { name := "patchBack", fn := fun _ => fun
  | [d1, d2, d3] => { results := [.lit (.bool true)], args := [d1, d2, d3] }
  | _ => none }
def patchBackRow : OpenClaim := { program := "ytecangnmmbcbkaa", sum := "a63762b53c18e6f1607e2e34914e358d81f7ef06b140026892a86192997542b8", func := "rubric/rubriclaw06.PatchBack", spec := "patchBack", unfollowed := true, recurses := true, apart := false }
def PatchBackSaid : Prop := patchBackRow.holds Try.pinned (OpenSpec.ofChange patchBackSpec)

/-- ITS FALSE NEIGHBOUR: 'it returns false'. Refute it at one input. -/
def patchBackWrong : ChangeSpec := { name := "patchBack", fn := fun _ => fun
  | [d1, d2, d3] => { results := [.lit (.bool false)], args := [d1, d2, d3] }
  | _ => none }
def PatchBackWrongFalsely : Prop := patchBackRow.holds Try.pinned (OpenSpec.ofChange patchBackWrong)

/-- 'rubriclaw06.PatchAlgebra': WHATEVER THE INPUT: true; the input reads as it did. -/
def patchAlgebraSpec : ChangeSpec := { name := "patchAlgebra", fn := fun _ => fun
  | [d1, d2, d3, d4] => { results := [.lit (.bool true)], args := [d1, d2, d3, d4] }
  | _ => none }
def patchAlgebraRow : OpenClaim := { program := "ytecangnmmbcbkaa", sum := "a63762b53c18e6f1607e2e34914e358d81f7ef06b140026892a86192997542b8", func := "rubric/rubriclaw06.PatchAlgebra", spec := "patchAlgebra", unfollowed := true, recurses := true, apart := false }
def PatchAlgebraSaid : Prop := patchAlgebraRow.holds Try.pinned (OpenSpec.ofChange patchAlgebraSpec)

/-- ITS FALSE NEIGHBOUR: 'it returns false'. Refute it at one input. -/
def patchAlgebraWrong : ChangeSpec := { name := "patchAlgebra", fn := fun _ => fun
  | [d1, d2, d3, d4] => { results := [.lit (.bool false)], args := [d1, d2, d3, d4] }
  | _ => none }
def PatchAlgebraWrongFalsely : Prop := patchAlgebraRow.holds Try.pinned (OpenSpec.ofChange patchAlgebraWrong)

/-- 'rubriclaw06.PatchPast': WHATEVER THE INPUT: true; the input reads as it did. -/
def patchPastSpec : ChangeSpec := { name := "patchPast", fn := fun _ => fun
  | [d1, d2, d3] => { results := [.lit (.bool true)], args := [d1, d2, d3] }
  | _ => none }
def patchPastRow : OpenClaim := { program := "ytecangnmmbcbkaa", sum := "a63762b53c18e6f1607e2e34914e358d81f7ef06b140026892a86192997542b8", func := "rubric/rubriclaw06.PatchPast", spec := "patchPast", unfollowed := true, recurses := true, apart := false }
def PatchPastSaid : Prop := patchPastRow.holds Try.pinned (OpenSpec.ofChange patchPastSpec)

/-- ITS FALSE NEIGHBOUR: 'it returns false'. Refute it at one input. -/
def patchPastWrong : ChangeSpec := { name := "patchPast", fn := fun _ => fun
  | [d1, d2, d3] => { results := [.lit (.bool false)], args := [d1, d2, d3] }
  | _ => none }
def PatchPastWrongFalsely : Prop := patchPastRow.holds Try.pinned (OpenSpec.ofChange patchPastWrong)

/-- 'rubriclaw05.AttrsOrder': WHATEVER THE INPUT: true; the input reads as it did. -/
def attrsOrderSpec : ChangeSpec := { name := "attrsOrder", fn := fun _ => fun
  | [d1, d2] => { results := [.lit (.bool true)], args := [d1, d2] }
  | _ => none }
def attrsOrderRow : OpenClaim := { program := "ytecangnmmbcbkaa", sum := "a63762b53c18e6f1607e2e34914e358d81f7ef06b140026892a86192997542b8", func := "rubric/rubriclaw05.AttrsOrder", spec := "attrsOrder", inPlace := ["slices.overlaps[rubric/api.Attr]"], unfollowed := true, recurses := true, apart := false }
def AttrsOrderSaid : Prop := attrsOrderRow.holds Try.pinned (OpenSpec.ofChange attrsOrderSpec)

/-- ITS FALSE NEIGHBOUR: 'it returns false'. Refute it at one input. -/
def attrsOrderWrong : ChangeSpec := { name := "attrsOrder", fn := fun _ => fun
  | [d1, d2] => { results := [.lit (.bool false)], args := [d1, d2] }
  | _ => none }
def AttrsOrderWrongFalsely : Prop := attrsOrderRow.holds Try.pinned (OpenSpec.ofChange attrsOrderWrong)

/-- 'rubriclaw05.AttrsSame': WHATEVER THE INPUT: true; the input reads as it did. -/
def attrsSameSpec : ChangeSpec := { name := "attrsSame", fn := fun _ => fun
  | [d1, d2, d3] => { results := [.lit (.bool true)], args := [d1, d2, d3] }
  | _ => none }
def attrsSameRow : OpenClaim := { program := "ytecangnmmbcbkaa", sum := "a63762b53c18e6f1607e2e34914e358d81f7ef06b140026892a86192997542b8", func := "rubric/rubriclaw05.AttrsSame", spec := "attrsSame", inPlace := ["slices.overlaps[rubric/api.Attr]"], unfollowed := true, recurses := true, apart := false }
def AttrsSameSaid : Prop := attrsSameRow.holds Try.pinned (OpenSpec.ofChange attrsSameSpec)

/-- ITS FALSE NEIGHBOUR: 'it returns false'. Refute it at one input. -/
def attrsSameWrong : ChangeSpec := { name := "attrsSame", fn := fun _ => fun
  | [d1, d2, d3] => { results := [.lit (.bool false)], args := [d1, d2, d3] }
  | _ => none }
def AttrsSameWrongFalsely : Prop := attrsSameRow.holds Try.pinned (OpenSpec.ofChange attrsSameWrong)

/- THE SECOND FORM. 'bulk': how many values and letters a reading holds, each counted each time it is reached (what is shared counts as often as it is met; a slice's spare places count too). A statement '..UptoSaid' is the law's where the arguments, and the package variables that the reading takes, are together of bulk at most 1048576: NARROWER than '..Said'. Prove '..Said' where nothing that the law and all that it calls make is longer than what came in: it says more and counts as full. Else prove '..UptoSaid'. A law counts once. -/
mutual
def uptoBulk {H : Type} : DataW H → Nat
  | .lit (.string bytes) => bytes.length + 1
  | .lit _ => 1
  | .nil => 1
  | .ptr d => uptoBulk d + 1
  | .slice elems spare => uptoBulkAll elems + uptoBulkAll spare + 1
  | .agg parts => uptoBulkAll parts + 1
  | .iface _ d => uptoBulk d + 1
  | .map entries => uptoBulkEntries entries + 1
  | .held _ => 1
def uptoBulkAll {H : Type} : List (DataW H) → Nat
  | [] => 0
  | d :: r => uptoBulk d + uptoBulkAll r
def uptoBulkEntries {H : Type} : List (Lit × DataW H) → Nat
  | [] => 0
  | x :: r => uptoBulkEntry x + uptoBulkEntries r
def uptoBulkEntry {H : Type} : Lit × DataW H → Nat
  | (.string bytes, d) => bytes.length + uptoBulk d + 1
  | (_, d) => uptoBulk d + 1
 end
def uptoSmall : (H : Type) → List (DataW H) → Bool := fun _ ds => decide (uptoBulkAll ds ≤ 1048576)
def OpenSpec.upto (s : _root_.Go.ChangeSpec) : _root_.Go.OpenSpec := { _root_.Go.OpenSpec.ofChange s with cond := some uptoSmall }

/-- 'rubriclaw06.PatchBack', WHERE WHAT IT READS IS OF BULK AT MOST 1048576: true; the input reads as it did. -/
def patchBackUptoRow : OpenClaim := { program := "ytecangnmmbcbkaa", sum := "a63762b53c18e6f1607e2e34914e358d81f7ef06b140026892a86192997542b8", func := "rubric/rubriclaw06.PatchBack", spec := "patchBack", unfollowed := true, recurses := true, apart := false, narrowed := true }
def PatchBackUptoSaid : Prop := patchBackUptoRow.holds Try.pinned (OpenSpec.upto patchBackSpec)

/-- 'rubriclaw06.PatchAlgebra', WHERE WHAT IT READS IS OF BULK AT MOST 1048576: true; the input reads as it did. -/
def patchAlgebraUptoRow : OpenClaim := { program := "ytecangnmmbcbkaa", sum := "a63762b53c18e6f1607e2e34914e358d81f7ef06b140026892a86192997542b8", func := "rubric/rubriclaw06.PatchAlgebra", spec := "patchAlgebra", unfollowed := true, recurses := true, apart := false, narrowed := true }
def PatchAlgebraUptoSaid : Prop := patchAlgebraUptoRow.holds Try.pinned (OpenSpec.upto patchAlgebraSpec)

/-- 'rubriclaw06.PatchPast', WHERE WHAT IT READS IS OF BULK AT MOST 1048576: true; the input reads as it did. -/
def patchPastUptoRow : OpenClaim := { program := "ytecangnmmbcbkaa", sum := "a63762b53c18e6f1607e2e34914e358d81f7ef06b140026892a86192997542b8", func := "rubric/rubriclaw06.PatchPast", spec := "patchPast", unfollowed := true, recurses := true, apart := false, narrowed := true }
def PatchPastUptoSaid : Prop := patchPastUptoRow.holds Try.pinned (OpenSpec.upto patchPastSpec)

/-- 'rubriclaw05.AttrsOrder', WHERE WHAT IT READS IS OF BULK AT MOST 1048576: true; the input reads as it did. -/
def attrsOrderUptoRow : OpenClaim := { program := "ytecangnmmbcbkaa", sum := "a63762b53c18e6f1607e2e34914e358d81f7ef06b140026892a86192997542b8", func := "rubric/rubriclaw05.AttrsOrder", spec := "attrsOrder", inPlace := ["slices.overlaps[rubric/api.Attr]"], unfollowed := true, recurses := true, apart := false, narrowed := true }
def AttrsOrderUptoSaid : Prop := attrsOrderUptoRow.holds Try.pinned (OpenSpec.upto attrsOrderSpec)

/-- 'rubriclaw05.AttrsSame', WHERE WHAT IT READS IS OF BULK AT MOST 1048576: true; the input reads as it did. -/
def attrsSameUptoRow : OpenClaim := { program := "ytecangnmmbcbkaa", sum := "a63762b53c18e6f1607e2e34914e358d81f7ef06b140026892a86192997542b8", func := "rubric/rubriclaw05.AttrsSame", spec := "attrsSame", inPlace := ["slices.overlaps[rubric/api.Attr]"], unfollowed := true, recurses := true, apart := false, narrowed := true }
def AttrsSameUptoSaid : Prop := attrsSameUptoRow.holds Try.pinned (OpenSpec.upto attrsSameSpec)

end Rows
end Go.Proofs.Ytecangnmmbcbkaa
