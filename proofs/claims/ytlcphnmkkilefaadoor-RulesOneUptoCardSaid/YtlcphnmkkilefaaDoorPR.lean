/- Plain laws of this seat's printed functions (picked). -/
import Derived.Test.YtlcphnmkkilefaaDoorPK
import Derived.Test.YtlcphnmkkilefaaDoorAQ
set_option linter.unusedVariables false
set_option linter.unusedSimpArgs false
set_option maxRecDepth 10000
namespace Go.Proofs.YtlcphnmkkilefaaDoor.Ab
open Go Classical
def findK (l : List (den KeyT)) (i : Int) : Option (den KeyT) := l.find? fun k => decide ((k.1 : Int) = i)
abbrev mapK (l : List (den KeyT)) : den (.map KeyT) := l.map fun k => ((k.1 : Int), k)
abbrev grpK (k : den KeyT) : Int := k.2.2.2.2.2.1
abbrev schK (l : List (den KeyT)) : den (.ptr SchemaT) := some (sortK l, mapK l, ())
theorem findM_mapK (i : Int) : ∀ l : List (den KeyT), findM KeyT i (mapK l) = ((findK l i).getD (dflt KeyT), (findK l i).isSome)
  | [] => rfl
  | k :: l => by
    simp only [mapK, List.map_cons, findM, findK, List.find?_cons]
    by_cases h : i = k.1
    · subst h; simp
    · have h' : ¬ (k.1 : Int) = i := fun g => h g.symm
      rw [decide_eq_false h, decide_eq_false h']
      exact findM_mapK i l
theorem Schema_Find_spec (n : Nat) (l : List (den KeyT)) (i : Int) (hn : 1 ≤ n) : Schema_Find n (schK l) i = some ((findK l i).getD (dflt KeyT), (findK l i).isSome) := by
  obtain ⟨n, rfl⟩ : ∃ m, n = m + 1 := ⟨n - 1, by omega⟩
  show Schema_Find_top (schK l) i = _
  have h := findM_mapK i l
  simp only [Schema_Find_top, schK, Option.isNone_some, cond_false, Option.bind_some]
  rw [show findM TKey i (mapK l) = _ from h]
def groupK (l : List (den KeyT)) (i : Int) : List Int := match findK l i with
  | none => []
  | some k => if grpK k = 0 then [] else ((sortK l).filter fun o => decide (grpK o = grpK k) && !decide ((o.1 : Int) = i)).map fun o => (o.1 : Int)
theorem Schema_Group_g6_spec (C : den PSchema → Int → Option (den TKey × Bool)) (i : Int) (k : den KeyT) : ∀ (r : List (den KeyT)) (acc : List Int), acc.length + r.length ≤ 1000000 → Schema_Group_g6 C r i k acc = some (acc ++ (r.filter fun o => decide (grpK o = grpK k) && !decide ((o.1 : Int) = i)).map fun o => (o.1 : Int))
  | [], acc, _ => by simp [Schema_Group_g6]
  | o :: r, acc, h => by
    have h' : acc.length + (r.length + 1) ≤ 1000000 := h
    have ih := fun (acc : List Int) (h : acc.length + r.length ≤ 1000000) => Schema_Group_g6_spec C i k r acc h
    have hb : ((acc.length + ([o.1] : List Int).length) * 8 ≤ 140737488355328) := by simp; omega
    simp only [Schema_Group_g6, List.filter_cons]
    by_cases h1 : grpK o = grpK k
    · by_cases h2 : (o.1 : Int) = i
      · rw [decide_eq_true (show o.2.2.2.2.2.1 = k.2.2.2.2.2.1 from h1), decide_eq_true h2]
        simp only [cond_true, Bool.not_true, cond_false, Bool.and_false, Bool.false_eq_true, if_false]
        exact ih acc (by omega)
      · rw [decide_eq_true (show o.2.2.2.2.2.1 = k.2.2.2.2.2.1 from h1), decide_eq_false h2, decide_eq_true hb]
        simp only [cond_true, Bool.not_false, Bool.and_true, if_true]
        rw [ih (acc ++ [o.1]) (by simp; omega)]
        simp
    · rw [decide_eq_false (show ¬ o.2.2.2.2.2.1 = k.2.2.2.2.2.1 from h1)]
      simp only [cond_false, Bool.false_and, Bool.false_eq_true, if_false]
      exact ih acc (by omega)
theorem len_putK0 {x : den KeyT} : ∀ {l : List (den KeyT)}, (putK x l).length ≤ l.length + 1
  | [] => by simp [putK]
  | y :: l => by
    unfold putK
    split
    · have := len_putK0 (x := x) (l := l); simp; omega
    · split <;> simp
theorem len_sortK : ∀ l : List (den KeyT), (sortK l).length ≤ l.length
  | [] => Nat.le_refl _
  | x :: l => by
    have h1 := len_putK0 (x := x) (l := sortK l)
    have h2 := len_sortK l
    show (putK x (sortK l)).length ≤ l.length + 1
    omega
theorem Schema_Group_spec (n : Nat) (l : List (den KeyT)) (i : Int) (hl : l.length ≤ 1000) (hn : 1100 ≤ n) : Schema_Group n (schK l) i = some (groupK l i) := by
  obtain ⟨n, rfl⟩ : ∃ m, n = m + 1 := ⟨n - 1, by omega⟩
  show Schema_Group_top (Schema_Find n) (Schema_Group_l6 (Schema_Find n) n n) (schK l) i = _
  have hlen := len_sortK l
  unfold Schema_Group_top
  rw [Schema_Find_spec n l i (by omega)]
  simp only [Option.bind_some, groupK]
  cases hf : findK l i with
  | none => simp
  | some k =>
    simp only [Option.isSome_some, Bool.not_true, cond_false, Option.getD_some]
    by_cases hg : grpK k = 0
    · rw [decide_eq_true (show k.2.2.2.2.2.1 = (0 : Int) from hg), if_pos hg]; rfl
    · rw [decide_eq_false (show ¬ k.2.2.2.2.2.1 = (0 : Int) from hg), if_neg hg]
      simp only [cond_false]
      have h := Schema_Group_l6_list (Schema_Find n) n n 0 i (sortK l) k [] (by omega) (by omega) (by omega)
      rw [show ((0 : Nat) : Int) = 0 from rfl] at h
      rw [h, List.drop_zero, Schema_Group_g6_spec _ i k (sortK l) [] (by simp; omega)]
      rfl
theorem take_drop_getD {α : Type} {l : List α} {i j : Nat} (d : α) (h : j < i) (hi : i ≤ l.length) : (l.take i).drop j = l.getD j d :: (l.take i).drop (j + 1) := by
  rw [drop_getD (l := l.take i) (i := j) (by rw [List.length_take]; omega) d]
  congr 1
  rw [List.getD_eq_getElem?_getD, List.getElem?_take_of_lt h, ← List.getD_eq_getElem?_getD]
theorem mayKey_steps (k : den KeyT) (X : Option Bool) : (bif (decide (k.1 < (1 : Int))) then some false else (bif (decide ((1000 : Int) < k.1)) then some false else (bif (decide ((((k.2).2).1 : Int) < (1 : Int))) then some false else (bif (decide ((4 : Int) < ((k.2).2).1)) then some false else
    (bif (decide ((((((k.2).2).2).2).2).1 < (0 : Int))) then some false else (bif (decide ((8 : Int) < (((((k.2).2).2).2).2).1)) then some false else (bif (!(k.2).1) then (bif ((!decide ((((((k.2).2).2).2).2).1 = (0 : Int)))) then some false else (bif (k.2).1 then (bif ((((k.2).2).2).2).1 then some false else X) else X)) else
    (bif (k.2).1 then (bif ((((k.2).2).2).2).1 then some false else X) else X)))))))) = bif mayKey k then X else some false := by
  obtain ⟨a, b, c, d, e, f, u⟩ := k
  simp only [mayKey]
  by_cases h1 : (a : Int) < 1
  · rw [decide_eq_true h1, decide_eq_false (show ¬ (1 : Int) ≤ a from Int.not_le.2 h1)]; rfl
  rw [decide_eq_false h1, decide_eq_true (show (1 : Int) ≤ a from Int.not_lt.1 h1)]
  by_cases h2 : (1000 : Int) < a
  · rw [decide_eq_true h2, decide_eq_false (show ¬ (a : Int) ≤ 1000 from Int.not_le.2 h2)]; rfl
  rw [decide_eq_false h2, decide_eq_true (show (a : Int) ≤ 1000 from Int.not_lt.1 h2)]
  by_cases h3 : (c : Int) < 1
  · rw [decide_eq_true h3, decide_eq_false (show ¬ (1 : Int) ≤ c from Int.not_le.2 h3)]; rfl
  rw [decide_eq_false h3, decide_eq_true (show (1 : Int) ≤ c from Int.not_lt.1 h3)]
  by_cases h4 : (4 : Int) < c
  · rw [decide_eq_true h4, decide_eq_false (show ¬ (c : Int) ≤ 4 from Int.not_le.2 h4)]; rfl
  rw [decide_eq_false h4, decide_eq_true (show (c : Int) ≤ 4 from Int.not_lt.1 h4)]
  by_cases h5 : (f : Int) < 0
  · rw [decide_eq_true h5, decide_eq_false (show ¬ (0 : Int) ≤ f from Int.not_le.2 h5), decide_eq_false (show ¬ (f : Int) = 0 from fun h => by rw [h] at h5; exact absurd h5 (by decide))]
    cases b <;> cases e <;> rfl
  rw [decide_eq_false h5, decide_eq_true (show (0 : Int) ≤ f from Int.not_lt.1 h5)]
  by_cases h6 : (8 : Int) < f
  · rw [decide_eq_true h6, decide_eq_false (show ¬ (f : Int) ≤ 8 from Int.not_le.2 h6), decide_eq_false (show ¬ (f : Int) = 0 from fun h => by rw [h] at h6; exact absurd h6 (by decide))]
    cases b <;> cases e <;> rfl
  rw [decide_eq_false h6, decide_eq_true (show (f : Int) ≤ 8 from Int.not_lt.1 h6)]
  by_cases h7 : (f : Int) = 0
  · rw [decide_eq_true h7]
    cases b <;> cases e <;> rfl
  · rw [decide_eq_false h7]
    cases b <;> cases e <;> rfl
theorem find_findK (l : List (den KeyT)) (i : Int) : findK l i = (find i l).map fun v => (i, v) := by
  induction l with
  | nil => rfl
  | cons x l ih =>
    simp only [findK, List.find?_cons, find]
    by_cases c : (x.1 : Int) = i
    · rw [decide_eq_true c, if_pos c, ← c]; rfl
    · rw [decide_eq_false c, if_neg c]; exact ih
theorem srt_sortK : ∀ l : List (den KeyT), Srt (sortK l)
  | [] => srt_nil
  | x :: l => srt_putK (srt_sortK l)
theorem find_sortK (k : Int) : ∀ l : List (den KeyT), find k (sortK l) = find k l
  | [] => rfl
  | x :: l => by
    show find k (putK x (sortK l)) = _
    rw [find_putK k (srt_sortK l), find_sortK k l]; rfl
theorem find_range (l : List (den KeyT)) (k : Int) : ∀ (n s : Nat), find k ((List.range' s n).filterMap fun (j : Nat) => findK l (j : Int)) = if (s : Int) ≤ k ∧ k < (s : Int) + n then find k l else none
  | 0, s => by
    rw [if_neg (by omega)]; rfl
  | n + 1, s => by
    have ih := find_range l k n (s + 1)
    rw [List.range'_succ, List.filterMap_cons]
    by_cases e : (s : Int) = k
    · rw [if_pos (by omega)]
      cases hf : findK l (s : Int) with
      | none =>
        simp only [ih]
        rw [if_neg (by omega)]
        rw [find_findK, e] at hf
        cases h : find k l with
        | none => rfl
        | some v => rw [h] at hf; cases hf
      | some x =>
        simp only [find]
        rw [find_findK, e] at hf
        cases h : find k l with
        | none => rw [h] at hf; cases hf
        | some v =>
          rw [h] at hf
          simp only [Option.map_some, Option.some.injEq] at hf
          subst hf
          simp
    · have e2 : ((s : Int) ≤ k ∧ k < (s : Int) + (n + 1 : Nat)) ↔ (((s + 1 : Nat) : Int) ≤ k ∧ k < ((s + 1 : Nat) : Int) + n) := by omega
      simp only [e2]
      rw [← ih]
      cases hf : findK l (s : Int) with
      | none => rfl
      | some x =>
        simp only [find]
        rw [find_findK] at hf
        cases h : find (s : Int) l with
        | none => rw [h] at hf; cases hf
        | some v =>
          rw [h] at hf
          simp only [Option.map_some, Option.some.injEq] at hf
          subst hf
          rw [if_neg e]
theorem srt_range (l : List (den KeyT)) : ∀ (n s : Nat), Srt ((List.range' s n).filterMap fun (j : Nat) => findK l (j : Int)) ∧ Abv ((s : Int) - 1) ((List.range' s n).filterMap fun (j : Nat) => findK l (j : Int))
  | 0, s => ⟨srt_nil, abv_nil⟩
  | n + 1, s => by
    obtain ⟨h1, h2⟩ := srt_range l n (s + 1)
    rw [List.range'_succ, List.filterMap_cons]
    cases hf : findK l (s : Int) with
    | none => exact ⟨h1, h2.mono (by omega)⟩
    | some x =>
      rw [find_findK] at hf
      cases h : find (s : Int) l with
      | none => rw [h] at hf; cases hf
      | some v =>
        rw [h] at hf
        simp only [Option.map_some, Option.some.injEq] at hf
        subst hf
        exact ⟨srt_cons.2 ⟨h2.mono (by show (s : Int) ≤ _; omega), h1⟩, abv_cons.2 ⟨by show (s : Int) - 1 < s; omega, h2.mono (by omega)⟩⟩
theorem mayKey_range {k : den KeyT} (h : mayKey k = true) : 1 ≤ (k.1 : Int) ∧ (k.1 : Int) ≤ 1000 := by
  simp only [mayKey, Bool.and_eq_true, decide_eq_true_eq] at h
  exact ⟨h.1.1.1.1, h.1.1.1.2⟩
theorem find_none_of {β : Type} {k : Int} {l : List (Int × β)} (h : ∀ x ∈ l, x.1 ≠ k) : find k l = none := by
  induction l with
  | nil => rfl
  | cons x l ih =>
    simp only [find]
    rw [if_neg (h x (List.mem_cons_self ..))]
    exact ih fun y hy => h y (List.mem_cons_of_mem _ hy)
/-- A change as it is found. -/
theorem filter_ne_abv {β : Type} {k : Int} {l : List (Int × β)} (h : Abv k l) : l.filter (fun x => !decide (x.1 = k)) = l :=
  List.filter_eq_self.2 fun x hx => by have := h x hx; simp; omega
theorem putK_del {β : Type} {x : Int × β} {l : List (Int × β)} (h : Srt l) : putK x (delK x.1 l) = putK x l := by
  refine srt_ext (srt_putK (srt_delK h)) (srt_putK h) fun k => ?_
  rw [find_putK k (srt_delK h), find_putK k h, find_delK]
  by_cases e : x.1 = k
  · rw [if_pos e, if_pos e]
  · rw [if_neg e, if_neg e, if_neg fun g => e g.symm]
theorem applyS_cons {a : den LAttr} {c : den TChange} {p : den LChange} (ha : Srt a) (hp : Srt (c :: p)) : applyS (if c.2.1 = true then delK c.1 a else putK (c.1, (c.2.2.1, ())) a) p = applyS a (c :: p) := by
  obtain ⟨h1, h2⟩ := srt_cons.1 hp
  have hs : Srt (if c.2.1 = true then delK c.1 a else putK (c.1, (c.2.2.1, ())) a) := by
    split
    · exact srt_delK ha
    · exact srt_putK ha
  refine srt_ext (srt_apply _ _ hs h2) (srt_apply _ _ ha hp) fun k => ?_
  rw [find_apply k _ _ hs h2, find_apply k _ _ ha hp]
  simp only [find]
  by_cases e : c.1 = k
  · rw [if_pos e, h1.find (show k ≤ c.1 from e ▸ Int.le_refl _)]
    cases hg : c.2.1 with
    | true => simp [onto, hg, find_delK, e]
    | false => simp [onto, hg, find_putK k ha, e]
  · rw [if_neg e]
    have : find k (if c.2.1 = true then delK c.1 a else putK (c.1, (c.2.2.1, ())) a) = find k a := by
      split
      · rw [find_delK, if_neg fun g => e g.symm]
      · rw [find_putK k ha, if_neg e]
    rw [this]
theorem ref06_Same_spec (n : Nat) (a b : den LChange) (ha : a.length ≤ 4194304) (hn : 4194310 ≤ n) : ref06_Same n a b = some (decide (a = b)) := by
  obtain ⟨n, rfl⟩ : ∃ m, n = m + 1 := ⟨n - 1, by omega⟩
  have hg : ∀ (r : den LChange) (i : Nat), i + r.length = b.length → ref06_Same_g4 r b (i : Int) = some (decide (r = b.drop i)) := by
    intro r
    induction r with
    | nil =>
      intro i h
      have h' : i + 0 = b.length := h
      rw [List.drop_eq_nil_of_le (by omega)]
      exact congrArg some (decide_eq_true rfl).symm
    | cons x r ih =>
      intro i h
      have h' : i + (r.length + 1) = b.length := h
      have := ih (i + 1) (by omega)
      simp only [ref06_Same_g4]
      rw [decide_eq_true (Int.natCast_nonneg i), decide_eq_true (show (i : Int) < (b.length : Int) by omega), drop_getD (show i < b.length by omega) (dflt TChange)]
      simp only [Bool.and_self, cond_true, Int.toNat_natCast]
      rw [show ((i : Int) + 1) = ((i + 1 : Nat) : Int) by omega, this]
      by_cases e : x = b.getD i (dflt TChange)
      · rw [(eqT_iff TChange _ _ rfl).2 e]
        simp [e]
      · have : eqT TChange x (b.getD i (dflt TChange)) = false := by
          cases h : eqT TChange x (b.getD i (dflt TChange))
          · rfl
          · exact absurd ((eqT_iff TChange _ _ rfl).1 h) e
        rw [this]
        refine congrArg some (decide_eq_false fun h => e ?_).symm
        simp only [List.cons.injEq] at h
        exact h.1
  rw [ref06_Same, ref06_Same_top]
  by_cases e : a.length = b.length
  · rw [decide_eq_true (show (a.length : Int) = (b.length : Int) by omega), Bool.not_true, cond_false]
    have h := ref06_Same_l4_list n n 0 a b (by omega) (by omega) (by omega)
    refine Eq.trans h ?_
    rw [List.drop_zero, hg a 0 (by omega), List.drop_zero]
  · rw [decide_eq_false (show ¬ (a.length : Int) = (b.length : Int) by omega)]
    refine congrArg some (decide_eq_false fun h => e (by rw [h])).symm
end Go.Proofs.YtlcphnmkkilefaaDoor.Ab
