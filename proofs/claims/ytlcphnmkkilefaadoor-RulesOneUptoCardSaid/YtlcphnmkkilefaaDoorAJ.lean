/- What the library's functions over rows tell: Clone, Insert. (Definitions alone; that they do so is shown apart.) -/
import Derived.Test.YtlcphnmkkilefaaDoorA0
namespace Go.Proofs.YtlcphnmkkilefaaDoor.Ab
open Go
def gClone (e0 : TypeId) (T0 : Ty) (by0 : Nat) : Nat → List Ent → List (Nat × Obj) → (S : Sig) → Option (denS S) := fun _ args ob S => match S, args, ob with
  | ⟨.row e T, []⟩, [.s (.val T' l)], [] => match castT (.slice T) T' l with
    | some l' => bif Nat.beq e e0 && decide (T = T0) && decide ((0 + l'.length) * by0 ≤ 140737488355328) then some (l', ()) else none
    | none => none
  | _, _, _ => none
def gInsert (e0 : TypeId) (T0 : Ty) (by0 : Nat) : Nat → List Ent → List (Nat × Obj) → (S : Sig) → Option (denS S) := fun _ args ob S => match S, args, ob with
  | ⟨.row e T, [.dead, .dead]⟩, [.s (.arr s), .s (.val (.int .i64) i), .s (.arr u)], [(s', .arr e2 T2 l), (u', .arr e3 T3 v)] => match castT (.slice T) (.slice T3) v, castT (.slice T) (.slice T2) l with
    | some v', some l' => bif Nat.beq e e0 && decide (T = T0) && Nat.beq s s' && Nat.beq u u' && !(Nat.beq s u) && Nat.beq e e2 && Nat.beq e e3 && decide (0 < v'.length) && (decide (0 ≤ (i : Int)) && decide ((i : Int) ≤ (l'.length : Int)) && decide ((l'.length + v'.length) * by0 ≤ 140737488355328)) then some (l'.take (Int.toNat i) ++ v' ++ l'.drop (Int.toNat i), ((), ((), ()))) else none
    | _, _ => none
  | _, _, _ => none

/-- Into a keyed list that rises. -/
def putK {β : Type} (x : Int × β) : List (Int × β) → List (Int × β)
  | [] => [x]
  | y :: l => if y.1 < x.1 then y :: putK x l else if y.1 = x.1 then x :: l else x :: y :: l
abbrev KeyT : Ty := .prod (.int .i64) (.prod .bool (.prod (.int .u8) (.prod .bool (.prod .bool (.prod (.int .i64) .unit)))))
abbrev SchemaT : Ty := .prod (.slice KeyT) (.prod (.map KeyT) .unit)
/-- May a key be by itself? -/
def mayKey (k : den KeyT) : Bool := decide ((1 : Int) ≤ k.1) && decide ((k.1 : Int) ≤ 1000) && decide ((1 : Int) ≤ k.2.2.1) && decide ((k.2.2.1 : Int) ≤ 4) &&
  (bif k.2.1 then !k.2.2.2.2.1 && decide ((0 : Int) ≤ k.2.2.2.2.2.1) && decide ((k.2.2.2.2.2.1 : Int) ≤ 8) else decide ((k.2.2.2.2.2.1 : Int) = 0))
def keysOk : List (den KeyT) → Bool
  | [] => true
  | k :: r => mayKey k && !(r.any fun j => decide ((j.1 : Int) = k.1)) && keysOk r
def sortK (l : List (den KeyT)) : List (den KeyT) := l.foldr putK []
def newS (l : List (den KeyT)) : den (.ptr SchemaT) × Int :=
  bif decide ((64 : Int) < (l.length : Int)) || !keysOk l then (none, 3) else (some (sortK l, (l.map fun k => (k.1, k), ())), 0)
def gNew : Nat → List Ent → (R : RTy) → Option (denR R) := fun _ args R => match args with
  | [.s (.val T l)] => match castT (.slice KeyT) T l with
    | some l' => if h : RTy.two (.ptr SchemaT) (.int .i64) = R then some (h ▸ (newS l' : denR (.two (.ptr SchemaT) (.int .i64)))) else none
    | none => none
  | _ => none
end Go.Proofs.YtlcphnmkkilefaaDoor.Ab
