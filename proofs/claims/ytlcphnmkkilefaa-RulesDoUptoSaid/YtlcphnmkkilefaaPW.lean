/- What is split off and typed; the law RulesTyped. -/
import Derived.Test.YtlcphnmkkilefaaPU
set_option linter.unusedVariables false
set_option linter.unusedSimpArgs false
set_option maxRecDepth 10000
namespace Go.Proofs.Ytlcphnmkkilefaa.Ab
open Go Classical
noncomputable def byK (l : List (den KeyT)) (f : den KeyT → Bool) (i : Int) : Bool := match findK l i with
  | some k => f k
  | none => false
def isSplit (k : den KeyT) : Bool := k.2.1 && k.2.2.2.1
def isAfter (k : den KeyT) : Bool := !k.2.1 && k.2.2.2.1
def isBefore (k : den KeyT) : Bool := !k.2.1 && k.2.2.2.2.1

theorem rules_Split_1_spec (n : Nat) (k : den KeyT) (hn : 1 ≤ n) : rules_Split_1 n k = some (isSplit k) := by
  obtain ⟨n, rfl⟩ : ∃ m, n = m + 1 := ⟨n - 1, by omega⟩
  show rules_Split_1_top k = _
  unfold rules_Split_1_top
  cases h : k.2.1 <;> simp [isSplit, h]
theorem sift_Split_1_g3_spec (n : Nat) (hn : 1 ≤ n) (l : List (den KeyT)) : ∀ (r acc : den LAttr), acc.length + r.length ≤ 1000000 →
    rules_sift__rules_Split_1_g3 (Schema_Find n) (rules_Split_1 n) r (schK l) acc = some (acc ++ r.filter fun a => byK l isSplit a.1)
  | [], acc, _ => by simp [rules_sift__rules_Split_1_g3]
  | a :: r, acc, h => by
    have h' : acc.length + (r.length + 1) ≤ 1000000 := h
    have ih := fun (acc : den LAttr) (h : acc.length + r.length ≤ 1000000) => sift_Split_1_g3_spec n hn l r acc h
    simp only [rules_sift__rules_Split_1_g3, Schema_Find_spec n l _ hn, Option.bind_some, List.filter_cons]
    cases hf : findK l a.1 with
    | none =>
      have hb : byK l isSplit a.1 = false := by unfold byK; rw [hf]
      simp only [hb, Option.isSome_none, cond_false, Bool.false_eq_true, if_false]; exact ih acc (by omega)
    | some k =>
      have hb : byK l isSplit a.1 = isSplit k := by unfold byK; rw [hf]
      simp only [hb, Option.isSome_some, cond_true, Option.getD_some, rules_Split_1_spec n k hn, Option.bind_some]
      rcases Bool.eq_false_or_eq_true (isSplit k) with hp | hp
      · rw [hp, decide_eq_true (show (acc.length + ([a] : List (den TAttr)).length) * 48 ≤ 140737488355328 by simp only [List.length_cons, List.length_nil]; omega)]
        simp only [cond_true, if_true]
        rw [ih (acc ++ [a]) (by simp only [List.length_append, List.length_cons, List.length_nil]; omega)]
        simp
      · simp only [hp, cond_false, Bool.false_eq_true, if_false]; exact ih acc (by omega)
theorem sift_Split_1_spec (n : Nat) (hn : 2000 ≤ n) (l : List (den KeyT)) (a : den LAttr) (ha : a.length ≤ 1000) : rules_sift__rules_Split_1 n (schK l) a = some (a.filter fun a => byK l isSplit a.1) := by
  obtain ⟨n, rfl⟩ : ∃ m, n = m + 1 := ⟨n - 1, by omega⟩
  show rules_sift__rules_Split_1_top (Schema_Find n) (rules_Split_1 n) (rules_sift__rules_Split_1_l3 (Schema_Find n) (rules_Split_1 n) n n) (schK l) a = _
  unfold rules_sift__rules_Split_1_top
  have h := rules_sift__rules_Split_1_l3_list (Schema_Find n) (rules_Split_1 n) n n 0 (schK l) a [] (by omega) (by omega) (by omega)
  rw [show ((0 : Nat) : Int) = 0 from rfl, List.drop_zero] at h
  rw [h, sift_Split_1_g3_spec n (by omega) l a [] (by simp only [List.length_nil]; omega)]
  rfl

theorem rules_Typed_1_spec (n : Nat) (k : den KeyT) (hn : 1 ≤ n) : rules_Typed_1 n k = some (isAfter k) := by
  obtain ⟨n, rfl⟩ : ∃ m, n = m + 1 := ⟨n - 1, by omega⟩
  show rules_Typed_1_top k = _
  unfold rules_Typed_1_top
  cases h : k.2.1 <;> simp [isAfter, h]
theorem sift_Typed_1_g3_spec (n : Nat) (hn : 1 ≤ n) (l : List (den KeyT)) : ∀ (r acc : den LAttr), acc.length + r.length ≤ 1000000 →
    rules_sift__rules_Typed_1_g3 (Schema_Find n) (rules_Typed_1 n) r (schK l) acc = some (acc ++ r.filter fun a => byK l isAfter a.1)
  | [], acc, _ => by simp [rules_sift__rules_Typed_1_g3]
  | a :: r, acc, h => by
    have h' : acc.length + (r.length + 1) ≤ 1000000 := h
    have ih := fun (acc : den LAttr) (h : acc.length + r.length ≤ 1000000) => sift_Typed_1_g3_spec n hn l r acc h
    simp only [rules_sift__rules_Typed_1_g3, Schema_Find_spec n l _ hn, Option.bind_some, List.filter_cons]
    cases hf : findK l a.1 with
    | none =>
      have hb : byK l isAfter a.1 = false := by unfold byK; rw [hf]
      simp only [hb, Option.isSome_none, cond_false, Bool.false_eq_true, if_false]; exact ih acc (by omega)
    | some k =>
      have hb : byK l isAfter a.1 = isAfter k := by unfold byK; rw [hf]
      simp only [hb, Option.isSome_some, cond_true, Option.getD_some, rules_Typed_1_spec n k hn, Option.bind_some]
      rcases Bool.eq_false_or_eq_true (isAfter k) with hp | hp
      · rw [hp, decide_eq_true (show (acc.length + ([a] : List (den TAttr)).length) * 48 ≤ 140737488355328 by simp only [List.length_cons, List.length_nil]; omega)]
        simp only [cond_true, if_true]
        rw [ih (acc ++ [a]) (by simp only [List.length_append, List.length_cons, List.length_nil]; omega)]
        simp
      · simp only [hp, cond_false, Bool.false_eq_true, if_false]; exact ih acc (by omega)
theorem sift_Typed_1_spec (n : Nat) (hn : 2000 ≤ n) (l : List (den KeyT)) (a : den LAttr) (ha : a.length ≤ 1000) : rules_sift__rules_Typed_1 n (schK l) a = some (a.filter fun a => byK l isAfter a.1) := by
  obtain ⟨n, rfl⟩ : ∃ m, n = m + 1 := ⟨n - 1, by omega⟩
  show rules_sift__rules_Typed_1_top (Schema_Find n) (rules_Typed_1 n) (rules_sift__rules_Typed_1_l3 (Schema_Find n) (rules_Typed_1 n) n n) (schK l) a = _
  unfold rules_sift__rules_Typed_1_top
  have h := rules_sift__rules_Typed_1_l3_list (Schema_Find n) (rules_Typed_1 n) n n 0 (schK l) a [] (by omega) (by omega) (by omega)
  rw [show ((0 : Nat) : Int) = 0 from rfl, List.drop_zero] at h
  rw [h, sift_Typed_1_g3_spec n (by omega) l a [] (by simp only [List.length_nil]; omega)]
  rfl

theorem rules_Typed_2_spec (n : Nat) (k : den KeyT) (hn : 1 ≤ n) : rules_Typed_2 n k = some (isBefore k) := by
  obtain ⟨n, rfl⟩ : ∃ m, n = m + 1 := ⟨n - 1, by omega⟩
  show rules_Typed_2_top k = _
  unfold rules_Typed_2_top
  cases h : k.2.1 <;> simp [isBefore, h]
theorem sift_Typed_2_g3_spec (n : Nat) (hn : 1 ≤ n) (l : List (den KeyT)) : ∀ (r acc : den LAttr), acc.length + r.length ≤ 1000000 →
    rules_sift__rules_Typed_2_g3 (Schema_Find n) (rules_Typed_2 n) r (schK l) acc = some (acc ++ r.filter fun a => byK l isBefore a.1)
  | [], acc, _ => by simp [rules_sift__rules_Typed_2_g3]
  | a :: r, acc, h => by
    have h' : acc.length + (r.length + 1) ≤ 1000000 := h
    have ih := fun (acc : den LAttr) (h : acc.length + r.length ≤ 1000000) => sift_Typed_2_g3_spec n hn l r acc h
    simp only [rules_sift__rules_Typed_2_g3, Schema_Find_spec n l _ hn, Option.bind_some, List.filter_cons]
    cases hf : findK l a.1 with
    | none =>
      have hb : byK l isBefore a.1 = false := by unfold byK; rw [hf]
      simp only [hb, Option.isSome_none, cond_false, Bool.false_eq_true, if_false]; exact ih acc (by omega)
    | some k =>
      have hb : byK l isBefore a.1 = isBefore k := by unfold byK; rw [hf]
      simp only [hb, Option.isSome_some, cond_true, Option.getD_some, rules_Typed_2_spec n k hn, Option.bind_some]
      rcases Bool.eq_false_or_eq_true (isBefore k) with hp | hp
      · rw [hp, decide_eq_true (show (acc.length + ([a] : List (den TAttr)).length) * 48 ≤ 140737488355328 by simp only [List.length_cons, List.length_nil]; omega)]
        simp only [cond_true, if_true]
        rw [ih (acc ++ [a]) (by simp only [List.length_append, List.length_cons, List.length_nil]; omega)]
        simp
      · simp only [hp, cond_false, Bool.false_eq_true, if_false]; exact ih acc (by omega)
theorem sift_Typed_2_spec (n : Nat) (hn : 2000 ≤ n) (l : List (den KeyT)) (a : den LAttr) (ha : a.length ≤ 1000) : rules_sift__rules_Typed_2 n (schK l) a = some (a.filter fun a => byK l isBefore a.1) := by
  obtain ⟨n, rfl⟩ : ∃ m, n = m + 1 := ⟨n - 1, by omega⟩
  show rules_sift__rules_Typed_2_top (Schema_Find n) (rules_Typed_2 n) (rules_sift__rules_Typed_2_l3 (Schema_Find n) (rules_Typed_2 n) n n) (schK l) a = _
  unfold rules_sift__rules_Typed_2_top
  have h := rules_sift__rules_Typed_2_l3_list (Schema_Find n) (rules_Typed_2 n) n n 0 (schK l) a [] (by omega) (by omega) (by omega)
  rw [show ((0 : Nat) : Int) = 0 from rfl, List.drop_zero] at h
  rw [h, sift_Typed_2_g3_spec n (by omega) l a [] (by simp only [List.length_nil]; omega)]
  rfl

noncomputable def addS (acc : den LAttr) : den LAttr → den LAttr
  | [] => acc
  | x :: r => addS (if (find x.1 acc).isSome = true then acc else putK x acc) r
theorem addS_all : ∀ (r acc : den LAttr), Srt acc → Srt (addS acc r) ∧ (addS acc r).length ≤ acc.length + r.length ∧ ∀ k, find k (addS acc r) = (find k acc).or (find k r)
  | [], acc, h => ⟨h, by simp [addS], fun k => by simp [addS, find]⟩
  | x :: r, acc, h => by
    by_cases c : (find x.1 acc).isSome = true
    · obtain ⟨h1, h2, h3⟩ := addS_all r acc h
      simp only [addS, if_pos c]
      refine ⟨h1, by simp only [List.length_cons]; omega, fun k => ?_⟩
      rw [h3 k]
      simp only [find]
      by_cases e : x.1 = k
      · rw [if_pos e, ← e]
        obtain ⟨v, hv⟩ := Option.isSome_iff_exists.1 c
        rw [hv]; rfl
      · rw [if_neg e]
    · obtain ⟨h1, h2, h3⟩ := addS_all r (putK x acc) (srt_putK h)
      have hl := (len_putK (x := x) (l := acc)).2
      simp only [addS, if_neg c]
      refine ⟨h1, by simp only [List.length_cons]; omega, fun k => ?_⟩
      rw [h3 k, find_putK k h]
      simp only [find]
      by_cases e : x.1 = k
      · have hn : find x.1 acc = none := by simpa using c
        rw [if_pos e, if_pos e, ← e, hn]; rfl
      · rw [if_neg e, if_neg e]
noncomputable def typedS (l : List (den KeyT)) (left right : den LAttr) : den LAttr := addS (left.filter fun a => byK l isAfter a.1) (right.filter fun a => byK l isBefore a.1)
theorem typedS_all (l : List (den KeyT)) (left right : den LAttr) (h : Srt left) : Srt (typedS l left right) ∧ (typedS l left right).length ≤ left.length + right.length ∧
    ∀ k, find k (typedS l left right) = (if byK l isAfter k = true then find k left else none).or (if byK l isBefore k = true then find k right else none) := by
  obtain ⟨h1, h2, h3⟩ := addS_all (right.filter fun a => byK l isBefore a.1) (left.filter fun a => byK l isAfter a.1) (srt_filter h)
  refine ⟨h1, ?_, fun k => ?_⟩
  · have := List.length_filter_le (fun a : den TAttr => byK l isAfter a.1) left
    have := List.length_filter_le (fun a : den TAttr => byK l isBefore a.1) right
    exact Nat.le_trans h2 (by omega)
  · rw [typedS, h3 k, find_filter_key (byK l isAfter) k left, find_filter_key (byK l isBefore) k right]
theorem getS_has (a : den LAttr) (t : Int) : (getS a t).2 = (find t a).isSome := by
  unfold getS
  cases find t a <;> rfl
theorem Typed_g3_spec (n : Nat) (hn : 4194400 ≤ n) (C1 C2 : den PSchema → den LAttr → Option (den LAttr)) : ∀ (r acc : den LAttr), Srt acc → acc.length + r.length ≤ 4000000 → rules_Typed_g3 C1 C2 (attrs_Get n) (attrs_With n) r acc = some (addS acc r)
  | [], acc, _, _ => rfl
  | x :: r, acc, hs, h => by
    have h' : acc.length + (r.length + 1) ≤ 4000000 := h
    simp only [rules_Typed_g3, attrs_Get_spec n acc _ (by omega) hs (by omega), Option.bind_some, getS_has, addS]
    cases c : (find x.1 acc).isSome with
    | true =>
      simp only [Bool.not_true, cond_false, if_true]
      exact Typed_g3_spec n hn C1 C2 r acc hs (by omega)
    | false =>
      simp only [Bool.not_false, cond_true, Bool.false_eq_true, if_false]
      rw [attrs_With_spec n acc x (by omega) hs (by omega), Option.bind_some]
      have hl := (len_putK (x := x) (l := acc)).2
      exact Typed_g3_spec n hn C1 C2 r _ (srt_putK hs) (by omega)
theorem rules_Typed_spec (n : Nat) (hn : 4194500 ≤ n) (l : List (den KeyT)) (left right : den LAttr) (hl : left.length ≤ 1000) (hr : right.length ≤ 1000) (hs : Srt left) : rules_Typed n (schK l) left right = some (typedS l left right) := by
  obtain ⟨n, rfl⟩ : ∃ m, n = m + 1 := ⟨n - 1, by omega⟩
  have f1 := List.length_filter_le (fun a : den TAttr => byK l isAfter a.1) left
  have f2 := List.length_filter_le (fun a : den TAttr => byK l isBefore a.1) right
  rw [rules_Typed, rules_Typed_top, sift_Typed_1_spec n (by omega) l left hl, Option.bind_some, sift_Typed_2_spec n (by omega) l right hr, Option.bind_some]
  have h := rules_Typed_l3_list (rules_sift__rules_Typed_1 n) (rules_sift__rules_Typed_2 n) (attrs_Get n) (attrs_With n) n n 0 (left.filter fun a => byK l isAfter a.1) (right.filter fun a => byK l isBefore a.1) (by omega) (by omega) (by omega)
  rw [show ((0 : Nat) : Int) = 0 from rfl, List.drop_zero] at h
  refine Eq.trans h ?_
  exact Typed_g3_spec n (by omega) _ _ _ _ (srt_filter hs) (by omega)
theorem rules_Split_spec (n : Nat) (hn : 3000 ≤ n) (l : List (den KeyT)) (a : den LAttr) (ha : a.length ≤ 1000) : rules_Split n (schK l) a = some (a.filter fun a => byK l isSplit a.1) := by
  obtain ⟨n, rfl⟩ : ∃ m, n = m + 1 := ⟨n - 1, by omega⟩
  rw [rules_Split, rules_Split_top, sift_Split_1_spec n (by omega) l a ha]; rfl
/-- What a typed attribute comes of. -/
def Good (l : List (den KeyT)) (left right : den LAttr) (x : den TAttr) : Prop := ∃ k, findK l x.1 = some k ∧ k.2.1 = false ∧
  ((find x.1 left = some x.2 ∧ k.2.2.2.1 = true) ∨ (find x.1 right = some x.2 ∧ k.2.2.2.2.1 = true ∧ ((find x.1 left).isSome = false ∨ k.2.2.2.1 = false)))
theorem good_typedS (l : List (den KeyT)) (left right : den LAttr) (h : Srt left) : ∀ x ∈ typedS l left right, Good l left right x := by
  intro x hx
  obtain ⟨h1, _, h3⟩ := typedS_all l left right h
  have hf := mem_find h1 hx
  rw [h3] at hf
  cases ha : byK l isAfter x.1 with
  | true =>
    rw [ha, if_pos rfl] at hf
    cases hl : find x.1 left with
    | some v =>
      rw [hl] at hf
      simp only [Option.some_or, Option.some.injEq] at hf
      subst hf
      unfold byK at ha
      split at ha
      · rename_i k hk
        simp only [isAfter, Bool.and_eq_true, Bool.not_eq_true'] at ha
        exact ⟨k, hk, ha.1, .inl ⟨hl, ha.2⟩⟩
      · cases ha
    | none =>
      rw [hl, Option.none_or] at hf
      split at hf
      · rename_i hb
        unfold byK at hb
        split at hb
        · rename_i k hk
          simp only [isBefore, Bool.and_eq_true, Bool.not_eq_true'] at hb
          exact ⟨k, hk, hb.1, .inr ⟨hf, hb.2, .inl (by rw [hl]; rfl)⟩⟩
        · cases hb
      · cases hf
  | false =>
    rw [ha, if_neg (by simp), Option.none_or] at hf
    split at hf
    · rename_i hb
      unfold byK at hb ha
      split at hb
      · rename_i k hk
        simp only [hk, isAfter, Bool.and_eq_false_iff, Bool.not_eq_false'] at ha
        simp only [isBefore, Bool.and_eq_true, Bool.not_eq_true'] at hb
        refine ⟨k, hk, hb.1, .inr ⟨hf, hb.2, .inr ?_⟩⟩
        rcases ha with ha | ha
        · rw [hb.1] at ha; cases ha
        · exact ha
      · cases hb
    · cases hf
theorem law14_RulesTyped_g8_spec (N : Nat) (hN : 4194400 ≤ N) (l : List (den KeyT)) (left right : den LAttr) (hl : left.length ≤ 1000) (hr : right.length ≤ 1000) (C1 C2 C3 C4 C5 C6 C7)
    (LL19 : den (LAttr) → den (PSchema) → den (LAttr) → den (LAttr) → den (LAttr) → den (.int .i64) → den (.int .i64) → Option (denR (.one (.bool)))) (t9 : den LAttr) :
    ∀ r : den LAttr, (∀ x ∈ r, Good l left right x) → law14_RulesTyped_g8 C1 C2 C3 C4 C5 (Schema_Find N) (ref05_Get N) C6 C7 LL19 r left right (schK l) t9 = ((C5 (schK l) t9 right).bind fun r23 => ((C5 (schK l) left left).bind fun r24 => LL19 left (schK l) t9 r23 r24 (r24.length : Int) (0 : Int)))
  | [], _ => rfl
  | x :: r, h => by
    have ih := law14_RulesTyped_g8_spec N hN l left right hl hr C1 C2 C3 C4 C5 C6 C7 LL19 t9 r fun y hy => h y (List.mem_cons_of_mem _ hy)
    obtain ⟨k, h1, h2, h3⟩ := h x (List.mem_cons_self ..)
    have hE : eqT TValue x.2.1 x.2.1 = true := (eqv_iff _ _).2 rfl
    simp only [law14_RulesTyped_g8, Schema_Find_spec N l _ (show 1 ≤ N by omega), ref05_Get_spec N left _ (show left.length ≤ 4194304 by omega) (show 4194310 ≤ N by omega), ref05_Get_spec N right _ (show right.length ≤ 4194304 by omega) (show 4194310 ≤ N by omega), Option.bind_some, h1, Option.isSome_some, Bool.not_true, cond_false, Option.getD_some, h2]
    rcases h3 with ⟨h3, h4⟩ | ⟨h3, h4, h5⟩
    · have hg : getS left x.1 = (x.2.1, true) := by unfold getS; rw [h3]
      simp only [hg, h4, cond_true, hE]
      exact ih
    · have hg : getS right x.1 = (x.2.1, true) := by unfold getS; rw [h3]
      have hh := getS_has left x.1
      rcases h5 with h5 | h5
      · rw [h5] at hh
        simp only [hh, hg, h4, cond_true, cond_false, hE]
        exact ih
      · cases hb : (getS left x.1).2 <;> simp only [hg, h4, h5, cond_true, cond_false, hE, Bool.not_false, Bool.not_true] <;> exact ih
theorem law14_RulesTyped_g19_spec (N : Nat) (hN : 4194400 ≤ N) (left : den LAttr) (hl : left.length ≤ 1000) (C1 C2 C3 C4 C5 C8 C6 C7) (s : den PSchema) (t9 t17 : den LAttr) :
    ∀ r : den LAttr, (∀ x ∈ r, find x.1 left = some x.2) → law14_RulesTyped_g19 C1 C2 C3 C4 C5 C8 (ref05_Get N) C6 C7 r left s t9 t17 = law14_RulesTyped_g19 C1 C2 C3 C4 C5 C8 (ref05_Get N) C6 C7 [] left s t9 t17
  | [], _ => rfl
  | x :: r, h => by
    have ih := law14_RulesTyped_g19_spec N hN left hl C1 C2 C3 C4 C5 C8 C6 C7 s t9 t17 r fun y hy => h y (List.mem_cons_of_mem _ hy)
    have h1 := h x (List.mem_cons_self ..)
    have hE : eqT TValue x.2.1 x.2.1 = true := (eqv_iff _ _).2 rfl
    have hg : getS left x.1 = (x.2.1, true) := by unfold getS; rw [h1]
    refine Eq.trans ?_ ih
    simp only [law14_RulesTyped_g19, ref05_Get_spec N left _ (show left.length ≤ 4194304 by omega) (show 4194310 ≤ N by omega), Option.bind_some, hg, hE, Bool.not_true, cond_false]
theorem rulesTyped (N : Nat) (hN : N = 8388607) (keys : den LKey) (left right : den LAttr) (hb1 : left.length ≤ 1048576) (hb2 : right.length ≤ 1048576) : law14_RulesTyped (N + 1) keys left right = some true := by
  have hkn : law14_known N = some true := hN ▸ law14_known_at
  rw [law14_RulesTyped, law14_RulesTyped_top, law14_great_spec N keys [] [left, right] (by simp) (by omega), hkn]
  simp only [Option.bind_some]
  cases hb : (decide (64 < keys.length) || decide (100 < ([] : den LChange).length) || ([left, right] : den LLAttr).any fun s => decide (100 < s.length)) with
  | true => rfl
  | false =>
    simp only [Bool.or_eq_false_iff, decide_eq_false_iff_not, List.any_cons, List.any_nil] at hb
    have hk : keys.length ≤ 64 := by omega
    have hl : left.length ≤ 100 := by omega
    have hr : right.length ≤ 100 := by omega
    simp only [cond_false]
    rcases ref05_Rising_spec N left (by omega) (by omega) with e | ⟨e, hs⟩
    · rw [e]; rfl
    rw [e]
    simp only [Option.bind_some, Bool.not_true, cond_false]
    rcases ref05_Rising_spec N right (by omega) (by omega) with e | ⟨e, hsr⟩
    · rw [e]; rfl
    rw [e]
    simp only [Option.bind_some, Bool.not_true, cond_false]
    have hnew : schema_New N keys = some (newS keys) := by rw [hN]; rfl
    rw [hnew]
    simp only [Option.bind_some]
    cases hok : keysOk keys with
    | false => rw [newS_bad hok]; rfl
    | true =>
      rw [newS_good hok hk]
      simp only [decide_true, Bool.not_true, cond_false]
      rw [show (some (sortK keys, (keys.map fun k => ((k.1 : Int), k), ())) : den (.ptr SchemaT)) = schK keys from rfl]
      obtain ⟨x1, x2, x3⟩ := typedS_all keys left right hs
      obtain ⟨z1, z2, z3⟩ := typedS_all keys left left hs
      rw [rules_Typed_spec N (by omega) keys left right (by omega) (by omega) hs, Option.bind_some]
      obtain ⟨x, hx⟩ : ∃ x, x = typedS keys left right := ⟨_, rfl⟩
      rw [← hx] at x1 x2 x3 ⊢
      have h8 := law14_RulesTyped_l8_list (law14_great N) (some true) (ref05_Rising N) (schema_New N) (rules_Typed N) (Schema_Find N) (ref05_Get N) (ref05_Same N) (rules_Split N) N N 0 left right (schK keys) x (by omega) (by omega) (by omega)
      rw [show ((0 : Nat) : Int) = 0 from rfl, List.drop_zero] at h8
      refine Eq.trans h8 ?_
      rw [law14_RulesTyped_g8_spec N (by omega) keys left right (by omega) (by omega) _ _ _ _ _ _ _ _ x x (by rw [hx]; exact good_typedS keys left right hs)]
      rw [rules_Typed_spec N (by omega) keys x right (by omega) (by omega) x1, Option.bind_some, rules_Typed_spec N (by omega) keys left left (by omega) (by omega) hs, Option.bind_some]
      have hy : typedS keys x right = x := by
        obtain ⟨y1, y2, y3⟩ := typedS_all keys x right x1
        refine srt_ext y1 x1 fun k => ?_
        rw [y3 k, x3 k]
        cases byK keys isAfter k <;> cases byK keys isBefore k <;> cases find k left <;> cases find k right <;> rfl
      rw [hy]
      have h19 := law14_RulesTyped_l19_list (law14_great N) (some true) (ref05_Rising N) (schema_New N) (rules_Typed N) (Schema_Find N) (ref05_Get N) (ref05_Same N) (rules_Split N) N N 0 left (schK keys) x x (typedS keys left left) (by omega) (by omega) (by omega)
      rw [show ((0 : Nat) : Int) = 0 from rfl, List.drop_zero] at h19
      refine Eq.trans h19 ?_
      rw [law14_RulesTyped_g19_spec N (by omega) left (by omega) _ _ _ _ _ _ _ _ _ _ _ _ fun a ha => ?_]
      · rw [law14_RulesTyped_g19, ref05_Same_same N x (by omega) (by omega), Option.bind_some, cond_true, rules_Typed_spec N (by omega) keys [] [] (by simp) (by simp) srt_nil, Option.bind_some]
        have hf := List.length_filter_le (fun a : den TAttr => byK keys isSplit a.1) left
        rw [rules_Split_spec N (by omega) keys left (by omega), Option.bind_some, rules_Split_spec N (by omega) keys _ (by omega), Option.bind_some, List.filter_filter]
        simp only [Bool.and_self]
        rw [Option.bind_some, ref05_Same_same N _ (by omega) (by omega)]
        rfl
      · have hm := mem_find z1 ha
        rw [z3] at hm
        revert hm
        cases byK keys isAfter a.1 <;> cases byK keys isBefore a.1 <;> cases find a.1 left <;> simp
end Go.Proofs.Ytlcphnmkkilefaa.Ab
