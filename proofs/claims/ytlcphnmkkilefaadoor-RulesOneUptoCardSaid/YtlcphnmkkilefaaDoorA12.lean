/- The abstract interpreter, part 12: a program's tables, looked at by evaluation; more rounds tell the same. -/
import Derived.Test.YtlcphnmkkilefaaDoorA11
set_option linter.unusedVariables false
set_option linter.unusedSimpArgs false
namespace Go.Proofs.YtlcphnmkkilefaaDoor.Ab
open Go Go.RowKit

theorem lk_mem {α : Type} {n : Nat} {x : α} : ∀ {l : List (Nat × α)}, lk n l = some x → (n, x) ∈ l
  | [], h => by simp [lk] at h
  | p :: r, h => by
    simp only [lk] at h
    cases hb : Nat.beq p.1 n with
    | true =>
      rw [hb] at h
      simp only [cond_true, Option.some.injEq] at h
      have := Nat.eq_of_beq_eq_true hb
      subst this; subst h; simp
    | false => rw [hb] at h; exact List.mem_cons_of_mem _ (lk_mem h)

def cfgTy (P : Program) (l : List (TypeId × Ty)) : Bool := l.all fun p => (tOk P p.2).1 p.1 && Nat.ble p.2.ht P.depth
def cfgEl (P : Program) (l : List (TypeId × TypeId)) : Bool := l.all fun p => match P.underlying p.1 with
  | some (.slice e) => Nat.beq e p.2
  | _ => false
def cfgBy (P : Program) (l : List (TypeId × Nat)) : Bool := l.all fun p => match P.info? p.1 with
  | some i => Nat.beq i.bytes p.2 && Nat.blt 0 p.2
  | none => false
def cfgFn (l : List (FuncId × Func)) : Bool := l.all fun p => p.2.body.isSome && !(p.2.name == "runtime.NumGoroutine")
def cfgArr (P : Program) (l : List (TypeId × (Nat × TypeId))) : Bool := l.all fun p => match P.underlying p.1 with
  | some (.array n e) => Nat.beq n p.2.1 && Nat.beq e p.2.2
  | _ => false
theorem cfgOk_of {P : Program} {cfg : Cfg} (h1 : cfgTy P cfg.ty = true) (h2 : cfgEl P cfg.el = true) (h3 : cfgBy P cfg.bytes = true) (h4 : cfgFn cfg.fns = true) (h5 : P.follows .mixedOrders = true)
    (h6 : ∀ p ∈ cfg.fns, P.funcs[p.1]? = some p.2) (h7 : cfgArr P cfg.arr = true) (h8 : ∀ p ∈ cfg.ext, ExtOk P p.1 p.2) : CfgOk P cfg ∧ ∀ f F, lk f cfg.fns = some F → ∃ b, F.body = some b := by
  refine ⟨⟨fun t T h => ?_, fun t T h => ?_, fun t e h => ?_, fun e b h => ?_, fun f F h => ?_, h5, fun t n e h => ?_, fun f k h => h8 _ (lk_mem h)⟩, fun f F h => ?_⟩
  · have := List.all_eq_true.1 h1 _ (lk_mem h); simp only [Bool.and_eq_true] at this; exact this.1
  · have := List.all_eq_true.1 h1 _ (lk_mem h); simp only [Bool.and_eq_true] at this; exact Nat.le_of_ble_eq_true this.2
  · have := List.all_eq_true.1 h2 _ (lk_mem h)
    dsimp only at this
    split at this
    · rename_i u hu; rw [hu, Nat.eq_of_beq_eq_true this]
    · contradiction
  · have := List.all_eq_true.1 h3 _ (lk_mem h)
    dsimp only at this
    split at this
    · rename_i i hi
      simp only [Bool.and_eq_true] at this
      exact ⟨i, hi, Nat.eq_of_beq_eq_true this.1, by simpa using this.2⟩
    · contradiction
  · have := List.all_eq_true.1 h4 _ (lk_mem h)
    simp only [Bool.and_eq_true, Bool.not_eq_true'] at this
    exact ⟨h6 _ (lk_mem h), this.2⟩
  · have := List.all_eq_true.1 h7 _ (lk_mem h)
    dsimp only at this
    split at this
    · rename_i m u hu
      simp only [Bool.and_eq_true] at this
      rw [hu, Nat.eq_of_beq_eq_true this.1, Nat.eq_of_beq_eq_true this.2]
    · contradiction
  · have := List.all_eq_true.1 h4 _ (lk_mem h)
    simp only [Bool.and_eq_true] at this
    exact Option.isSome_iff_exists.1 this.1

def IntrOk (P : Program) (intr : Intr) : Prop := ∀ f g n args R (x : denR R), lk f intr = some g → g n args R = some x → CallOk P f args R x
def IntrIOk (P : Program) (cfg : Cfg) (intrI : IntrI) : Prop := ∀ f g F n args ob S (x : denS S), lk f intrI = some g → lk f cfg.fns = some F → g n args ob S = some x → ICallOk P F.ntmps f args ob S x
theorem intr_nil {P : Program} : IntrOk P [] := by
  intro f g n args R x h; simp [lk] at h
theorem intrI_nil {P : Program} {cfg : Cfg} : IntrIOk P cfg [] := by
  intro f g F n args ob S x h; simp [lk] at h
theorem intrI_cons {P : Program} {cfg : Cfg} {f : FuncId} {g : Nat → List Ent → List (Nat × Obj) → (S : Sig) → Option (denS S)} {r : IntrI} (h : ∀ F n args ob S (x : denS S), lk f cfg.fns = some F → g n args ob S = some x → ICallOk P F.ntmps f args ob S x)
    (hr : IntrIOk P cfg r) : IntrIOk P cfg ((f, g) :: r) := by
  intro f' g' F n args ob S x h1 h2 h3
  simp only [lk] at h1
  cases hb : Nat.beq f f' with
  | true =>
    have := Nat.eq_of_beq_eq_true hb
    subst this
    rw [hb] at h1
    simp only [cond_true, Option.some.injEq] at h1
    subst h1
    exact h F n args ob S x h2 h3
  | false => rw [hb] at h1; exact hr f' g' F n args ob S x h1 h2 h3

/-- What a law's run says of the machine. -/
theorem law_calls {P : Program} {cfg : Cfg} {intr : Intr} {intrI : IntrI} (hok : CfgOk P cfg ∧ ∀ f F, lk f cfg.fns = some F → ∃ b, F.body = some b)
    (hintr : IntrOk P intr) (hintrI : IntrIOk P cfg intrI) {n : Nat} {f : FuncId} {es : List Ent} {b : Bool} (h : acall cfg intr intrI n f es (.one .bool) = some b)
    {w : World} {args : Array Value} (hA : AmbOk (Cst (fun _ => False) w)) (hargs : RelEs (Cst (fun _ => False) w) es args.toList) : Calls P f args w fun e w' => e = .returned (.bool b) ∧ Below w.heap.size w w' := by
  refine ((acalls_sound hok.1 hok.2 hintr hintrI n).call f es (.one .bool) b h (fun _ => False) w args (fun g hg => hg.elim) hA hargs).mono ?_
  rintro e w' ⟨v, rfl, h1, h2⟩
  have : v = .bool b := RelV_bool (C := Cst (fun _ => False) w') h1
  rw [this]; exact ⟨rfl, h2⟩
theorem args_nil {C : Cells} : RelEs C [] [] := rfl
theorem args_cons {C : Cells} {T : Ty} {x : den T} {v : Value} {es : List Ent} {vs : List Value} (h : RelV C T x v) (hs : RelEs C es vs) : RelEs C (.s (.val T x) :: es) (v :: vs) := ⟨v, vs, rfl, h, hs⟩
end Go.Proofs.YtlcphnmkkilefaaDoor.Ab
