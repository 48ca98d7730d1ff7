/- Schemas: what Find and Group give. -/
import Derived.Test.YtlcphnmkkilefaaPK
import Derived.Test.YtlcphnmkkilefaaAQ
set_option linter.unusedVariables false
set_option linter.unusedSimpArgs false
set_option maxRecDepth 10000
namespace Go.Proofs.Ytlcphnmkkilefaa.Ab
open Go Classical
def findK (l : List (den KeyT)) (i : Int) : Option (den KeyT) := l.find? fun k => decide ((k.1 : Int) = i)
abbrev mapK (l : List (den KeyT)) : den (.map KeyT) := l.map fun k => ((k.1 : Int), k)
abbrev grpK (k : den KeyT) : Int := k.2.2.2.2.2.1
abbrev schK (l : List (den KeyT)) : den (.ptr SchemaT) := some (sortK l, mapK l, ())
theorem findM_mapK (i : Int) : ∀ l : List (den KeyT), findM KeyT i (mapK l) = ((findK l i).getD (dflt KeyT), (findK l i).isSome)
  | [] => rfl
  | k :: l => by
    simp only [mapK, List.map_cons, findM, findK, List.find?_cons]
    by_cases h : i = k.1
    · subst h; simp
    · have h' : ¬ (k.1 : Int) = i := fun g => h g.symm
      rw [decide_eq_false h, decide_eq_false h']
      exact findM_mapK i l
theorem Schema_Find_spec (n : Nat) (l : List (den KeyT)) (i : Int) (hn : 1 ≤ n) : Schema_Find n (schK l) i = some ((findK l i).getD (dflt KeyT), (findK l i).isSome) := by
  obtain ⟨n, rfl⟩ : ∃ m, n = m + 1 := ⟨n - 1, by omega⟩
  show Schema_Find_top (schK l) i = _
  have h := findM_mapK i l
  simp only [Schema_Find_top, schK, Option.isNone_some, cond_false, Option.bind_some]
  rw [show findM TKey i (mapK l) = _ from h]
def groupK (l : List (den KeyT)) (i : Int) : List Int := match findK l i with
  | none => []
  | some k => if grpK k = 0 then [] else ((sortK l).filter fun o => decide (grpK o = grpK k) && !decide ((o.1 : Int) = i)).map fun o => (o.1 : Int)
theorem Schema_Group_g6_spec (C : den PSchema → Int → Option (den TKey × Bool)) (i : Int) (k : den KeyT) : ∀ (r : List (den KeyT)) (acc : List Int), acc.length + r.length ≤ 1000000 → Schema_Group_g6 C r i k acc = some (acc ++ (r.filter fun o => decide (grpK o = grpK k) && !decide ((o.1 : Int) = i)).map fun o => (o.1 : Int))
  | [], acc, _ => by simp [Schema_Group_g6]
  | o :: r, acc, h => by
    have h' : acc.length + (r.length + 1) ≤ 1000000 := h
    have ih := fun (acc : List Int) (h : acc.length + r.length ≤ 1000000) => Schema_Group_g6_spec C i k r acc h
    have hb : ((acc.length + ([o.1] : List Int).length) * 8 ≤ 140737488355328) := by simp; omega
    simp only [Schema_Group_g6, List.filter_cons]
    by_cases h1 : grpK o = grpK k
    · by_cases h2 : (o.1 : Int) = i
      · rw [decide_eq_true (show o.2.2.2.2.2.1 = k.2.2.2.2.2.1 from h1), decide_eq_true h2]
        simp only [cond_true, Bool.not_true, cond_false, Bool.and_false, Bool.false_eq_true, if_false]
        exact ih acc (by omega)
      · rw [decide_eq_true (show o.2.2.2.2.2.1 = k.2.2.2.2.2.1 from h1), decide_eq_false h2, decide_eq_true hb]
        simp only [cond_true, Bool.not_false, Bool.and_true, if_true]
        rw [ih (acc ++ [o.1]) (by simp; omega)]
        simp
    · rw [decide_eq_false (show ¬ o.2.2.2.2.2.1 = k.2.2.2.2.2.1 from h1)]
      simp only [cond_false, Bool.false_and, Bool.false_eq_true, if_false]
      exact ih acc (by omega)
theorem len_putK0 {x : den KeyT} : ∀ {l : List (den KeyT)}, (putK x l).length ≤ l.length + 1
  | [] => by simp [putK]
  | y :: l => by
    unfold putK
    split
    · have := len_putK0 (x := x) (l := l); simp; omega
    · split <;> simp
theorem len_sortK : ∀ l : List (den KeyT), (sortK l).length ≤ l.length
  | [] => Nat.le_refl _
  | x :: l => by
    have h1 := len_putK0 (x := x) (l := sortK l)
    have h2 := len_sortK l
    show (putK x (sortK l)).length ≤ l.length + 1
    omega
theorem Schema_Group_spec (n : Nat) (l : List (den KeyT)) (i : Int) (hl : l.length ≤ 1000) (hn : 1100 ≤ n) : Schema_Group n (schK l) i = some (groupK l i) := by
  obtain ⟨n, rfl⟩ : ∃ m, n = m + 1 := ⟨n - 1, by omega⟩
  show Schema_Group_top (Schema_Find n) (Schema_Group_l6 (Schema_Find n) n n) (schK l) i = _
  have hlen := len_sortK l
  unfold Schema_Group_top
  rw [Schema_Find_spec n l i (by omega)]
  simp only [Option.bind_some, groupK]
  cases hf : findK l i with
  | none => simp
  | some k =>
    simp only [Option.isSome_some, Bool.not_true, cond_false, Option.getD_some]
    by_cases hg : grpK k = 0
    · rw [decide_eq_true (show k.2.2.2.2.2.1 = (0 : Int) from hg), if_pos hg]; rfl
    · rw [decide_eq_false (show ¬ k.2.2.2.2.2.1 = (0 : Int) from hg), if_neg hg]
      simp only [cond_false]
      have h := Schema_Group_l6_list (Schema_Find n) n n 0 i (sortK l) k [] (by omega) (by omega) (by omega)
      rw [show ((0 : Nat) : Int) = 0 from rfl] at h
      rw [h, List.drop_zero, Schema_Group_g6_spec _ i k (sortK l) [] (by simp; omega)]
      rfl
#print axioms Schema_Group_spec
end Go.Proofs.Ytlcphnmkkilefaa.Ab
