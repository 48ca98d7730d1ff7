/- Plain helpers: no program in sight. Words that do not wrap, lists by place, keyed lists that rise. -/
import Derived.Test.YtlcphnmkkilefaaDoorA0
import Derived.Laws.Strings
set_option linter.unusedVariables false
set_option linter.unusedSimpArgs false
namespace Go.Proofs.YtlcphnmkkilefaaDoor.Ab
open Go

theorem w64 {n : Int} (h0 : -9223372036854775808 ≤ n) (h1 : n < 9223372036854775808) : IntKind.i64.wrap n = n := by
  simp only [IntKind.wrap, IntKind.bits, IntKind.signed, Bool.true_and]; by_cases g : n % 2 ^ 64 ≥ 2 ^ (64 - 1) <;> simp [g] <;> omega
theorem w64n {n : Nat} (h1 : n < 9223372036854775808) : IntKind.i64.wrap (n : Int) = n := w64 (by omega) (by omega)
theorem w64s {n : Nat} (h1 : n < 9000000000000000000) : IntKind.i64.wrap ((n : Int) + 1) = ((n + 1 : Nat) : Int) := w64 (by omega) (by omega)
theorem drop_getD {α : Type} {l : List α} {i : Nat} (h : i < l.length) (d : α) : l.drop i = l.getD i d :: l.drop (i + 1) := by
  rw [List.drop_eq_getElem_cons h]; simp [List.getD_eq_getElem?_getD, h]
theorem cond_if {α : Type} (b : Bool) (x y : α) : cond b x y = if b = true then x else y := by cases b <;> rfl

/-- A keyed list. -/
def find {β : Type} (k : Int) : List (Int × β) → Option β
  | [] => none
  | x :: l => if x.1 = k then some x.2 else find k l
/-- The keys rise. -/
def Srt {β : Type} (l : List (Int × β)) : Prop := l.Pairwise fun x y => x.1 < y.1
/-- All keys lie above. -/
def Abv {β : Type} (k : Int) (l : List (Int × β)) : Prop := ∀ x ∈ l, k < x.1

theorem srt_cons {β : Type} {x : Int × β} {l : List (Int × β)} : Srt (x :: l) ↔ Abv x.1 l ∧ Srt l := by simp [Srt, Abv]
theorem srt_nil {β : Type} : Srt ([] : List (Int × β)) := List.Pairwise.nil
theorem abv_nil {β : Type} {k : Int} : Abv k ([] : List (Int × β)) := by simp [Abv]
theorem abv_cons {β : Type} {k : Int} {x : Int × β} {l : List (Int × β)} : Abv k (x :: l) ↔ k < x.1 ∧ Abv k l := by simp [Abv]
theorem Abv.mono {β : Type} {k j : Int} {l : List (Int × β)} (h : Abv k l) (hj : j ≤ k) : Abv j l := fun x hx => Int.lt_of_le_of_lt hj (h x hx)
theorem Abv.find {β : Type} {k j : Int} {l : List (Int × β)} (h : Abv k l) (hj : j ≤ k) : find j l = none := by
  induction l with
  | nil => rfl
  | cons x l ih =>
    have := (abv_cons.1 h)
    simp only [Ab.find]
    rw [if_neg (by omega), ih this.2]
theorem srt_ext {β : Type} : ∀ {a b : List (Int × β)}, Srt a → Srt b → (∀ k, find k a = find k b) → a = b
  | [], [], _, _, _ => rfl
  | [], y :: b, _, _, h => by have := h y.1; simp [find] at this
  | x :: a, [], _, _, h => by have := h x.1; simp [find] at this
  | x :: a, y :: b, ha, hb, h => by
    obtain ⟨ha1, ha2⟩ := srt_cons.1 ha
    obtain ⟨hb1, hb2⟩ := srt_cons.1 hb
    have hx := h x.1
    have hy := h y.1
    simp only [find, if_true] at hx hy
    have e : x.1 = y.1 := by
      rcases Int.lt_trichotomy x.1 y.1 with g | g | g
      · rw [if_neg (by omega), hb1.find (by omega)] at hx; simp at hx
      · exact g
      · rw [if_neg (by omega), ha1.find (by omega)] at hy; simp at hy
    rw [if_pos e.symm] at hx
    have e2 : x = y := Prod.ext e (by simpa using hx)
    subst e2
    have : a = b := srt_ext ha2 hb2 fun k => by
      have hk := h k
      simp only [find] at hk
      by_cases g : x.1 = k
      · rw [ha1.find (by omega), hb1.find (by omega)]
      · simpa [g] using hk
    rw [this]

theorem ba_inj {a b : ByteArray} (h : a.toList = b.toList) : a = b := by
  rw [Go.ByteArray.toList_eq, Go.ByteArray.toList_eq] at h
  exact ByteArray.ext (Array.toList_inj.1 h)
theorem eqT_iff : ∀ (T : Ty) (a b : den T), cmpT T = true → (eqT T a b = true ↔ a = b)
  | .int _, a, b, _ => by simp [eqT]
  | .bool, a, b, _ => by simp [eqT]
  | .str, a, b, _ => by
    simp only [eqT, beq_iff_eq]
    exact ⟨ba_inj, fun h => by rw [h]⟩
  | .slice _, _, _, h => by simp [cmpT] at h
  | .unit, _, _, _ => by simp [eqT]
  | .prod A B, a, b, h => by
    simp only [cmpT, Bool.and_eq_true] at h
    simp only [eqT, Bool.and_eq_true, eqT_iff A _ _ h.1, eqT_iff B _ _ h.2]
    exact ⟨fun g => Prod.ext g.1 g.2, fun g => by rw [g]; exact ⟨rfl, rfl⟩⟩

theorem srt_getD {β : Type} {l : List (Int × β)} (h : Srt l) {a b : Nat} (d : Int × β) (hab : a < b) (hb : b < l.length) : (l.getD a d).1 < (l.getD b d).1 := by
  have := List.pairwise_iff_getElem.1 h a b (by omega) hb hab
  simp only [List.getD_eq_getElem?_getD, List.getElem?_eq_getElem hb, List.getElem?_eq_getElem (show a < l.length by omega), Option.getD_some]
  exact this
theorem find_at {β : Type} (d : Int × β) (t : Int) : ∀ (l : List (Int × β)) (pos : Nat), (∀ k, k < pos → (l.getD k d).1 ≠ t) → pos < l.length → (l.getD pos d).1 = t → find t l = some (l.getD pos d).2
  | [], _, _, h, _ => by simp at h
  | x :: l, 0, _, _, h => by simp only [List.getD_cons_zero] at h ⊢; simp [find, h]
  | x :: l, pos + 1, h1, h2, h3 => by
    have := h1 0 (by omega)
    simp only [List.getD_cons_zero] at this
    simp only [List.getD_cons_succ] at h3 ⊢
    simp only [find, this, if_false]
    exact find_at d t l pos (fun k hk => by have := h1 (k + 1) (by omega); simpa using this) (by simp at h2; omega) h3
theorem find_no {β : Type} (d : Int × β) (t : Int) : ∀ (l : List (Int × β)), (∀ k, k < l.length → (l.getD k d).1 ≠ t) → find t l = none
  | [], _ => rfl
  | x :: l, h => by
    have := h 0 (by simp)
    simp only [List.getD_cons_zero] at this
    simp only [find, this, if_false]
    exact find_no d t l fun k hk => by have := h (k + 1) (by simp; omega); simpa using this
theorem srt_of_getD {β : Type} {l : List (Int × β)} (d : Int × β) (h : ∀ i, i + 1 < l.length → (l.getD i d).1 < (l.getD (i + 1) d).1) : Srt l := by
  induction l with
  | nil => exact srt_nil
  | cons x l ih =>
    have hs : Srt l := ih fun i hi => by have := h (i + 1) (by simp; omega); simpa using this
    refine srt_cons.2 ⟨?_, hs⟩
    cases l with
    | nil => exact abv_nil
    | cons y l =>
      have := h 0 (by simp)
      simp only [List.getD_cons_zero, List.getD_cons_succ] at this
      exact abv_cons.2 ⟨this, (srt_cons.1 hs).1.mono (by omega)⟩
theorem wu64 {n : Int} (h0 : 0 ≤ n) (h1 : n < 18446744073709551616) : IntKind.u64.wrap n = n := by
  simp only [IntKind.wrap, IntKind.bits, IntKind.signed, Bool.false_and]; simp; omega
theorem mid_eq {i j : Nat} (h : i + j < 9000000000000000000) :
    IntKind.wrap .i64 (Int.fdiv (IntKind.wrap .u64 (IntKind.wrap .i64 ((i : Int) + (j : Int)))) (2 ^ (min (Int.toNat (1 : Int)) (IntKind.bits .u64)))) = (((i + j) / 2 : Nat) : Int) := by
  rw [w64 (n := (i : Int) + j) (by omega) (by omega), wu64 (by omega) (by omega)]
  have : (2 : Int) ^ (min (Int.toNat (1 : Int)) (IntKind.bits .u64)) = 2 := by decide
  rw [this, Int.fdiv_eq_ediv_of_nonneg _ (by omega)]
  rw [w64 (by omega) (by omega)]; omega
end Go.Proofs.YtlcphnmkkilefaaDoor.Ab
