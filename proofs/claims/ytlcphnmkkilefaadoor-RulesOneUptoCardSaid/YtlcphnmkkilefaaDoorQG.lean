/- Plain laws of this seat's printed functions (picked). -/
import Derived.Test.YtlcphnmkkilefaaDoorPR
import Derived.Test.YtlcphnmkkilefaaDoorQD
set_option linter.unusedVariables false
set_option linter.unusedSimpArgs false
set_option maxRecDepth 10000
namespace Go.Proofs.YtlcphnmkkilefaaDoor.Ab
open Go Classical
/-! rising -/
def risF {β : Type} : Option Int → List (Int × β) → Bool
  | _, [] => true
  | none, c :: r => risF (some c.1) r
  | some k, c :: r => decide (k < c.1) && risF (some c.1) r
theorem risF_some {β : Type} : ∀ (k : Int) (l : List (Int × β)), risF (some k) l = true ↔ Abv k l ∧ Srt l
  | k, [] => by simp [risF, Abv, Srt]
  | k, c :: r => by
    simp only [risF, Bool.and_eq_true, decide_eq_true_eq, risF_some c.1 r, abv_cons, srt_cons]
    constructor
    · rintro ⟨h1, h2, h3⟩
      exact ⟨⟨h1, h2.mono (by omega)⟩, h2, h3⟩
    · rintro ⟨⟨h1, _⟩, h2, h3⟩
      exact ⟨h1, h2, h3⟩
theorem risF_none {β : Type} (l : List (Int × β)) : risF none l = true ↔ Srt l := by
  cases l with
  | nil => simp [risF, Srt]
  | cons c r => simp only [risF, risF_some, srt_cons]
noncomputable def chOk (c : den TChange) : Bool := bif c.2.1 then eqT TValue c.2.2.1 zv else mayV c.2.2.1
noncomputable def fitK (l : List (den KeyT)) (k : Int) (v : den TValue) : Bool := (findK l k).isSome && (decide ((((findK l k).getD (dflt KeyT)).2.2.1 : Int) = v.1) && mayV v)
noncomputable def chFit (l : List (den KeyT)) (c : den TChange) : Bool := (findK l c.1).isSome && (c.2.1 || fitK l c.1 c.2.2.1)
theorem Schema_Fits_spec (n : Nat) (l : List (den KeyT)) (k : Int) (v : den TValue) (hn : 102 ≤ n) : Schema_Fits n (schK l) k v = some (fitK l k v) := by
  obtain ⟨n, rfl⟩ : ∃ m, n = m + 1 := ⟨n - 1, by omega⟩
  rw [Schema_Fits, Schema_Fits_top, Schema_Find_spec n l k (by omega)]
  simp only [Option.bind_some, fitK]
  cases (findK l k).isSome with
  | false => rfl
  | true =>
    rw [value_May_spec n v (by omega)]
    simp only [cond_true, Bool.true_and]
    show (bif decide ((((findK l k).getD (dflt KeyT)).2.2.1 : Int) = v.1) then _ else _) = _
    cases decide ((((findK l k).getD (dflt KeyT)).2.2.1 : Int) = v.1) <;> rfl
noncomputable def prevC {β : Type} (d : Int × β) (p : List (Int × β)) (i : Nat) : Option Int := if i = 0 then none else some (p.getD (i - 1) d).1
theorem prevC_succ {β : Type} (d : Int × β) {p : List (Int × β)} {i : Nat} {x : Int × β} {r : List (Int × β)} (h : p.drop i = x :: r) : prevC d p (i + 1) = some x.1 := by
  have h2 : p.getD i d = x := by
    have := congrArg (fun l => l.getD 0 d) h
    simpa [List.getD_eq_getElem?_getD, List.getElem?_drop] using this
  unfold prevC
  rw [if_neg (by omega)]
  show some (p.getD i d).1 = some x.1
  rw [h2]
theorem drop_next {α : Type} {p : List α} {i : Nat} {x : α} {r : List α} (h : p.drop i = x :: r) : p.drop (i + 1) = r := by
  rw [← List.drop_drop, h]; rfl
theorem patch_May_g5_spec (n : Nat) (hn : 200 ≤ n) (l : List (den KeyT)) (p : den LChange) (hp : p.length ≤ 64) : ∀ (r : den LChange) (i : Nat) (e : Int), (p : List (den TChange)).drop i = r → i ≤ p.length →
    patch_May_g5 (Schema_Find n) (Schema_Fits n) (value_May n) r (schK l) p e (i : Int) = some (bif risF (prevC (dflt TChange) p i) r && r.all chOk then (bif r.all (chFit l) then e else 4) else 3)
  | [], i, e, _, _ => by simp [patch_May_g5, risF]
  | x :: r, i, e, h, hi => by
    have hlen : i + (r.length + 1) = p.length := by
      have := congrArg List.length h
      simp only [List.length_drop, List.length_cons] at this
      omega
    have IH := fun e => patch_May_g5_spec n hn l p hp r (i + 1) e (drop_next h) (by omega)
    rw [prevC_succ (dflt TChange) h] at IH
    have hi1 : ((i : Int) + 1) = ((i + 1 : Nat) : Int) := by omega
    rw [patch_May_g5, hi1]
    simp only [IH, Schema_Find_spec n l x.1 (by omega), Schema_Fits_spec n l x.1 x.2.2.1 (by omega), value_May_spec n x.2.2.1 (by omega), Option.bind_some, List.all_cons]
    have hc : chOk x = bif x.2.1 then eqT TValue x.2.2.1 zv else mayV x.2.2.1 := rfl
    have hf : chFit l x = ((findK l x.1).isSome && (x.2.1 || fitK l x.1 x.2.2.1)) := rfl
    rw [hc, hf]
    generalize (findK l x.1).isSome = F
    generalize fitK l x.1 x.2.2.1 = T
    generalize mayV x.2.2.1 = M
    show _ = some (bif (risF (prevC (dflt TChange) p i) (x :: r) && ((bif x.2.1 then eqT TValue x.2.2.1 zv else M) && List.all r chOk)) then _ else _)
    generalize List.all r chOk = AO
    generalize List.all r (chFit l) = AF
    have hE : eqT TValue x.2.2.1 ((0 : Int), ((0 : Int), ((0 : Int), ((⟨#[]⟩ : ByteArray), ())))) = eqT TValue x.2.2.1 zv := rfl
    rw [hE]
    generalize eqT TValue x.2.2.1 zv = E
    have hr : risF (prevC (dflt TChange) p i) (x :: r) = ((bif decide (0 < i) then decide ((p.getD (i - 1) (dflt TChange)).1 < x.1) else true) && risF (some x.1) r) := by
      unfold prevC
      by_cases h0 : i = 0
      · rw [if_pos h0, decide_eq_false (by omega)]; simp [risF]
      · rw [if_neg h0, decide_eq_true (by omega)]; simp [risF]
    rw [hr]
    generalize risF (some x.1) r = R
    by_cases h0 : 0 < i
    · have h0' : (0 : Int) < (i : Int) := by omega
      have hw : IntKind.wrap .i64 ((i : Int) - 1) = ((i - 1 : Nat) : Int) := by rw [w64 (by omega) (by omega)]; omega
      have g1 : (0 : Int) ≤ ((i - 1 : Nat) : Int) := by omega
      have g2 : ((i - 1 : Nat) : Int) < (p.length : Int) := by omega
      rw [hw]
      simp only [h0', g1, g2, decide_true, Bool.and_self, cond_true, Int.toNat_natCast, decide_eq_true h0]
      have hlt : decide ((p.getD (i - 1) (dflt TChange)).1 < x.1) = !decide (x.1 ≤ (p.getD (i - 1) (dflt TChange)).1) := by
        rw [Bool.eq_iff_iff]
        simp only [Bool.not_eq_true', decide_eq_true_eq, decide_eq_false_iff_not]
        exact Int.not_le.symm
      rw [hlt]
      generalize decide (x.1 ≤ (p.getD (i - 1) (dflt TChange)).1) = B
      generalize x.2.1 = G
      cases B <;> cases G <;> cases E <;> cases M <;> cases F <;> cases T <;> cases R <;> cases AO <;> cases AF <;> rfl
    · have h0' : ¬ (0 : Int) < (i : Int) := by omega
      simp only [h0', decide_false, cond_false, decide_eq_false h0]
      generalize x.2.1 = G
      cases G <;> cases E <;> cases M <;> cases F <;> cases T <;> cases R <;> cases AO <;> cases AF <;> rfl
noncomputable def mayP (l : List (den KeyT)) (p : den LChange) : Int := bif decide (64 < p.length) then 3 else bif risF none p && p.all chOk then (bif p.all (chFit l) then 0 else 4) else 3
theorem patch_May_spec (n : Nat) (hn : 300 ≤ n) (l : List (den KeyT)) (p : den LChange) : patch_May n (schK l) p = some (mayP l p) := by
  obtain ⟨n, rfl⟩ : ∃ m, n = m + 1 := ⟨n - 1, by omega⟩
  rw [patch_May, patch_May_top]
  unfold mayP
  by_cases h : 64 < p.length
  · have h' : (64 : Int) < (p.length : Int) := by omega
    rw [decide_eq_true h, decide_eq_true h']; rfl
  · have h' : ¬ (64 : Int) < (p.length : Int) := by omega
    rw [decide_eq_false h, decide_eq_false h', cond_false, cond_false]
    have hl := patch_May_l5_list (Schema_Find n) (Schema_Fits n) (value_May n) n n 0 (schK l) p 0 p (by omega) (by omega) (by omega)
    rw [show ((0 : Nat) : Int) = 0 from rfl, List.drop_zero] at hl
    rw [hl]
    exact patch_May_g5_spec n (by omega) l p (by omega) p 0 0 rfl (by omega)
theorem mayP_ok {l : List (den KeyT)} {p : den LChange} : mayP l p = 0 ↔ p.length ≤ 64 ∧ Srt p ∧ ∀ c ∈ p, chOk c = true ∧ chFit l c = true := by
  unfold mayP
  by_cases h : 64 < p.length
  · rw [decide_eq_true h, cond_true]
    constructor
    · intro h; exact absurd h (by decide)
    · rintro ⟨h2, _⟩; omega
  · rw [decide_eq_false h, cond_false, ← risF_none]
    cases hr : risF none p with
    | false => simp
    | true =>
      rw [Bool.true_and]
      cases ho : p.all chOk with
      | false =>
        rw [cond_false]
        constructor
        · intro h; exact absurd h (by decide)
        · rintro ⟨_, _, h3⟩
          rw [List.all_eq_true.2 fun c hc => (h3 c hc).1] at ho; cases ho
      | true =>
        rw [cond_true]
        cases hf : p.all (chFit l) with
        | false =>
          rw [cond_false]
          constructor
          · intro h; exact absurd h (by decide)
          · rintro ⟨_, _, h3⟩
            rw [List.all_eq_true.2 fun c hc => (h3 c hc).2] at hf; cases hf
        | true =>
          rw [cond_true]
          exact ⟨fun _ => ⟨by omega, rfl, fun c hc => ⟨List.all_eq_true.1 ho c hc, List.all_eq_true.1 hf c hc⟩⟩, fun _ => rfl⟩
/-! parts -/
def inB (l : List (den KeyT)) (k : Int) (b : Bool) : Bool := (findK l k).isSome && eqT .bool ((findK l k).getD (dflt KeyT)).2.1 b
def partS {β : Type} (l : List (den KeyT)) (p : List (Int × β)) (b : Bool) : List (Int × β) := p.filter fun x => inB l x.1 b
theorem slices_Clone_Change_spec (n : Nat) (l : den (.slice TChange)) (hl : l.length ≤ 4194304) (hn : 0 < n) : slices_Clone_Change n l = some (l, ()) := by
  obtain ⟨n, rfl⟩ : ∃ k, n = k + 1 := ⟨n - 1, by omega⟩
  rw [slices_Clone_Change, decide_eq_true (show (0 + l.length) * 56 ≤ 140737488355328 by omega)]; rfl


end Go.Proofs.YtlcphnmkkilefaaDoor.Ab
