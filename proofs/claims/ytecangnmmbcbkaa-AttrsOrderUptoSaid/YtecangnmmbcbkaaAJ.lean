/- What the library's functions over rows tell: Clone, Insert. (Definitions alone; that they do so is shown apart.) -/
import Derived.Test.YtecangnmmbcbkaaA0
namespace Go.Proofs.Ytecangnmmbcbkaa.Ab
open Go
def gClone (e0 : TypeId) (T0 : Ty) (by0 : Nat) : Nat → List Ent → List (Nat × Obj) → (S : Sig) → Option (denS S) := fun _ args ob S => match S, args, ob with
  | ⟨.row e T, []⟩, [.s (.val T' l)], [] => match castT (.slice T) T' l with
    | some l' => bif Nat.beq e e0 && decide (T = T0) && decide ((0 + l'.length) * by0 ≤ 140737488355328) then some (l', ()) else none
    | none => none
  | _, _, _ => none
def gInsert (e0 : TypeId) (T0 : Ty) (by0 : Nat) : Nat → List Ent → List (Nat × Obj) → (S : Sig) → Option (denS S) := fun _ args ob S => match S, args, ob with
  | ⟨.row e T, [.dead, .dead]⟩, [.s (.arr s), .s (.val (.int .i64) i), .s (.arr u)], [(s', .arr e2 T2 l), (u', .arr e3 T3 v)] => match castT (.slice T) (.slice T3) v, castT (.slice T) (.slice T2) l with
    | some v', some l' => bif Nat.beq e e0 && decide (T = T0) && Nat.beq s s' && Nat.beq u u' && !(Nat.beq s u) && Nat.beq e e2 && Nat.beq e e3 && decide (0 < v'.length) && (decide (0 ≤ (i : Int)) && decide ((i : Int) ≤ (l'.length : Int)) && decide ((l'.length + v'.length) * by0 ≤ 140737488355328)) then some (l'.take (Int.toNat i) ++ v' ++ l'.drop (Int.toNat i), ((), ((), ()))) else none
    | _, _ => none
  | _, _, _ => none
end Go.Proofs.Ytecangnmmbcbkaa.Ab
