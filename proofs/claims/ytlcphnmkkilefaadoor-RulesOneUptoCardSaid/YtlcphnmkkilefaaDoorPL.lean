/- Plain helpers for the library's functions over lists. -/
import Derived.Test.YtlcphnmkkilefaaDoorP0
set_option linter.unusedVariables false
set_option linter.unusedSimpArgs false
namespace Go.Proofs.YtlcphnmkkilefaaDoor.Ab
open Go
theorem find_filter_key {β : Type} (p : Int → Bool) (k : Int) (l : List (Int × β)) : find k (l.filter fun c => p c.1) = if p k = true then find k l else none := by
  induction l with
  | nil => simp [find]
  | cons x l ih =>
    by_cases hp : p x.1 = true
    · rw [List.filter_cons_of_pos (by simpa using hp)]
      simp only [find, ih]
      by_cases hk : x.1 = k
      · subst hk; simp [hp]
      · simp only [hk, if_false]
    · rw [List.filter_cons_of_neg (by simpa using hp), ih]
      simp only [find]
      by_cases hk : x.1 = k
      · subst hk; simp [hp]
      · simp only [hk, if_false]
theorem any_find {β : Type} (k : Int) (l : List (Int × β)) : (l.any fun c => decide (c.1 = k)) = (find k l).isSome := by
  induction l with
  | nil => rfl
  | cons x l ih =>
    simp only [List.any_cons, find, ih]
    by_cases hk : x.1 = k <;> simp [hk]
theorem take_succ_getD {α : Type} {l : List α} {i : Nat} (h : i < l.length) (d : α) : l.take (i + 1) = l.take i ++ [l.getD i d] := by
  rw [List.take_succ_eq_append_getElem h]; simp [List.getD_eq_getElem?_getD, h]
theorem drop_set_lt {α : Type} {l : List α} {i j : Nat} (x : α) (h : i < j) : (l.set i x).drop j = l.drop j := by
  apply List.ext_getElem?
  intro k
  rw [List.getElem?_drop, List.getElem?_drop, List.getElem?_set_ne (by omega)]
theorem take_set_le {α : Type} {l : List α} {i j : Nat} (x : α) (h : j ≤ i) : (l.set i x).take j = l.take j := by
  apply List.ext_getElem?
  intro k
  rw [List.getElem?_take, List.getElem?_take]
  split
  · rw [List.getElem?_set_ne (by omega)]
  · rfl
/-- The shift of DeleteFunc, as a plain law: what is kept, from place to place. -/
theorem shift_step {α : Type} (keep : α → Bool) (d : α) (s o : List α) (i j : Nat) (hij : i < j) (hj : j < s.length) (hl : o.length = s.length) (h1 : o.take i = (s.take j).filter keep) (h2 : o.drop j = s.drop j) :
    o.getD j d = s.getD j d ∧ (keep (s.getD j d) = true → (o.set i (o.getD j d)).take (i + 1) = (s.take (j + 1)).filter keep ∧ (o.set i (o.getD j d)).drop (j + 1) = s.drop (j + 1)) ∧
      (keep (s.getD j d) = false → o.take i = (s.take (j + 1)).filter keep ∧ o.drop (j + 1) = s.drop (j + 1)) := by
  have e : o.getD j d = s.getD j d := by
    have a1 := drop_getD (l := o) (i := j) (by omega) d
    have a2 := drop_getD (l := s) (i := j) hj d
    rw [h2, a2] at a1
    simp only [List.cons.injEq] at a1
    exact a1.1.symm
  have e2 : o.drop (j + 1) = s.drop (j + 1) := by rw [← List.drop_drop, h2, List.drop_drop]
  refine ⟨e, fun hk => ⟨?_, by rw [drop_set_lt _ (by omega), e2]⟩, fun hk => ⟨?_, e2⟩⟩
  · rw [take_succ_getD (by rw [List.length_set]; omega) d, take_set_le _ (Nat.le_refl _), h1, take_succ_getD hj d, List.filter_append]
    have : (o.set i (o.getD j d)).getD i d = o.getD j d := by
      rw [List.getD_eq_getElem?_getD, List.getElem?_set_self (by omega)]; rfl
    rw [this, e]
    congr 1
    simp only [List.filter_cons, hk, if_true, List.filter_nil]
  · rw [take_succ_getD hj d, List.filter_append, h1]
    simp only [List.filter_cons, hk, Bool.false_eq_true, if_false, List.filter_nil, List.append_nil]


theorem notAny {α : Type} {d : α → Bool} {l : List α} (h : ∀ x ∈ l, d x = false) : l.filter (fun x => !d x) = l := List.filter_eq_self.2 fun x hx => by rw [h x hx]; rfl

theorem filter_find {β : Type} (k : Int) (l : List (Int × β)) (h : find k l = none) : l.filter (fun x => !decide (x.1 = k)) = l := List.filter_eq_self.2 fun x hx => by
  induction l with
  | nil => simp at hx
  | cons y l ih =>
    simp only [find] at h
    split at h
    · contradiction
    · rename_i g
      rcases List.mem_cons.1 hx with rfl | hx
      · simp [g]
      · exact ih h hx
end Go.Proofs.YtlcphnmkkilefaaDoor.Ab
