/- What is told of sets and patches whose keys need not rise: that something is. -/
import Derived.Test.YtlcphnmkkilefaaPW
set_option linter.unusedVariables false
set_option linter.unusedSimpArgs false
set_option maxRecDepth 10000
namespace Go.Proofs.Ytlcphnmkkilefaa.Ab
open Go Classical
theorem slices_BinarySearchFunc_Attr_int__attrs_find_1_l3_total (C : den TAttr → Int → Option Int) (hC : ∀ x y, C x y = some (if x.1 < y then -1 else if y < x.1 then 1 else 0)) (n : Nat) (x : den LAttr) (t : Int) (hx : x.length ≤ 4194304) :
    ∀ (m i j : Nat), j - i < m → i ≤ j → j ≤ x.length → ∃ (q : Nat) (b : Bool), q ≤ x.length ∧ (b = true → q < x.length) ∧ slices_BinarySearchFunc_Attr_int__attrs_find_1_l3 C n m x t (x.length : Int) (i : Int) (j : Int) = some ((q : Int), b) := by
  intro m
  induction m with
  | zero => intro i j h; omega
  | succ m ih =>
    intro i j hm hij hj
    rw [slices_BinarySearchFunc_Attr_int__attrs_find_1_l3, slices_BinarySearchFunc_Attr_int__attrs_find_1_s3, mid_eq (by omega)]
    by_cases h : i < j
    · have h' : (i : Int) < (j : Int) := by omega
      have hl : (i + j) / 2 < x.length := by omega
      have hl' : (((i + j) / 2 : Nat) : Int) < (x.length : Int) := by omega
      have hge : (0 : Int) ≤ (((i + j) / 2 : Nat) : Int) := Int.natCast_nonneg _
      simp only [h', decide_true, cond_true, hge, hl', Bool.and_self, Int.toNat_natCast, hC, Option.bind_some]
      generalize decide ((if (x.getD ((i + j) / 2) (dflt TAttr)).1 < t then (-1 : Int) else if t < (x.getD ((i + j) / 2) (dflt TAttr)).1 then 1 else 0) < 0) = b
      cases b with
      | true =>
        rw [w64s (by omega), cond_true]
        exact ih ((i + j) / 2 + 1) j (by omega) (by omega) hj
      | false =>
        rw [cond_false]
        exact ih i ((i + j) / 2) (by omega) (by omega) (by omega)
    · have h' : ¬ (i : Int) < (j : Int) := by omega
      obtain rfl : i = j := by omega
      simp only [h', decide_false, cond_false]
      by_cases g : i < x.length
      · have g' : (i : Int) < (x.length : Int) := by omega
        simp only [g', decide_true, cond_true, Int.natCast_nonneg, Bool.and_self, Int.toNat_natCast, hC, Option.bind_some]
        exact ⟨i, _, hj, fun _ => g, rfl⟩
      · have g' : ¬ (i : Int) < (x.length : Int) := by omega
        simp only [g', decide_false, cond_false]
        exact ⟨i, false, hj, (fun h => nomatch h), rfl⟩
theorem attrs_find_total (n : Nat) (x : den LAttr) (t : Int) (hx : x.length ≤ 4194304) (hn : 4194310 ≤ n) : ∃ (q : Nat) (b : Bool), q ≤ x.length ∧ (b = true → q < x.length) ∧ attrs_find n x t = some ((q : Int), b) := by
  obtain ⟨n, rfl⟩ : ∃ k, n = k + 2 := ⟨n - 2, by omega⟩
  obtain ⟨q, b, h1, h2, h3⟩ := slices_BinarySearchFunc_Attr_int__attrs_find_1_l3_total (attrs_find_1 n) (fun x y => attrs_find_1_spec n x y (by omega)) n x t hx n 0 x.length (by omega) (by omega) (by omega)
  refine ⟨q, b, h1, h2, ?_⟩
  have e : slices_BinarySearchFunc_Attr_int__attrs_find_1 (n + 1) x t = some ((q : Int), b) := by
    rw [slices_BinarySearchFunc_Attr_int__attrs_find_1, slices_BinarySearchFunc_Attr_int__attrs_find_1_top]; exact h3
  rw [attrs_find, attrs_find_top, e]; rfl
theorem slices_BinarySearchFunc_Change_int__rules_at_1_l3_total (C : den TChange → Int → Option Int) (hC : ∀ x y, C x y = some (if x.1 < y then -1 else if y < x.1 then 1 else 0)) (n : Nat) (x : den LChange) (t : Int) (hx : x.length ≤ 4194304) :
    ∀ (m i j : Nat), j - i < m → i ≤ j → j ≤ x.length → ∃ (q : Nat) (b : Bool), q ≤ x.length ∧ (b = true → q < x.length) ∧ slices_BinarySearchFunc_Change_int__rules_at_1_l3 C n m x t (x.length : Int) (i : Int) (j : Int) = some ((q : Int), b) := by
  intro m
  induction m with
  | zero => intro i j h; omega
  | succ m ih =>
    intro i j hm hij hj
    rw [slices_BinarySearchFunc_Change_int__rules_at_1_l3, slices_BinarySearchFunc_Change_int__rules_at_1_s3, mid_eq (by omega)]
    by_cases h : i < j
    · have h' : (i : Int) < (j : Int) := by omega
      have hl : (i + j) / 2 < x.length := by omega
      have hl' : (((i + j) / 2 : Nat) : Int) < (x.length : Int) := by omega
      have hge : (0 : Int) ≤ (((i + j) / 2 : Nat) : Int) := Int.natCast_nonneg _
      simp only [h', decide_true, cond_true, hge, hl', Bool.and_self, Int.toNat_natCast, hC, Option.bind_some]
      generalize decide ((if (x.getD ((i + j) / 2) (dflt TChange)).1 < t then (-1 : Int) else if t < (x.getD ((i + j) / 2) (dflt TChange)).1 then 1 else 0) < 0) = b
      cases b with
      | true =>
        rw [w64s (by omega), cond_true]
        exact ih ((i + j) / 2 + 1) j (by omega) (by omega) hj
      | false =>
        rw [cond_false]
        exact ih i ((i + j) / 2) (by omega) (by omega) (by omega)
    · have h' : ¬ (i : Int) < (j : Int) := by omega
      obtain rfl : i = j := by omega
      simp only [h', decide_false, cond_false]
      by_cases g : i < x.length
      · have g' : (i : Int) < (x.length : Int) := by omega
        simp only [g', decide_true, cond_true, Int.natCast_nonneg, Bool.and_self, Int.toNat_natCast, hC, Option.bind_some]
        exact ⟨i, _, hj, fun _ => g, rfl⟩
      · have g' : ¬ (i : Int) < (x.length : Int) := by omega
        simp only [g', decide_false, cond_false]
        exact ⟨i, false, hj, (fun h => nomatch h), rfl⟩
theorem rules_at_total (n : Nat) (x : den LChange) (t : Int) (hx : x.length ≤ 4194304) (hn : 4194310 ≤ n) : ∃ (q : Nat) (b : Bool), q ≤ x.length ∧ (b = true → q < x.length) ∧ rules_at n x t = some ((q : Int), b) := by
  obtain ⟨n, rfl⟩ : ∃ k, n = k + 2 := ⟨n - 2, by omega⟩
  obtain ⟨q, b, h1, h2, h3⟩ := slices_BinarySearchFunc_Change_int__rules_at_1_l3_total (rules_at_1 n) (fun x y => rules_at_1_spec n x y (by omega)) n x t hx n 0 x.length (by omega) (by omega) (by omega)
  refine ⟨q, b, h1, h2, ?_⟩
  have e : slices_BinarySearchFunc_Change_int__rules_at_1 (n + 1) x t = some ((q : Int), b) := by
    rw [slices_BinarySearchFunc_Change_int__rules_at_1, slices_BinarySearchFunc_Change_int__rules_at_1_top]; exact h3
  rw [rules_at, rules_at_top, e]; rfl
theorem attrs_Get_total (n : Nat) (x : den LAttr) (t : Int) (hx : x.length ≤ 4194304) (hn : 4194311 ≤ n) : ∃ r, attrs_Get n x t = some r := by
  obtain ⟨n, rfl⟩ : ∃ k, n = k + 1 := ⟨n - 1, by omega⟩
  obtain ⟨q, b, h1, h2, h3⟩ := attrs_find_total n x t hx (by omega)
  rw [attrs_Get, attrs_Get_top, h3, Option.bind_some]
  cases b with
  | false => exact ⟨_, rfl⟩
  | true =>
    have := h2 rfl
    rw [decide_eq_true (Int.natCast_nonneg q), decide_eq_true (show (q : Int) < (x.length : Int) by omega)]
    exact ⟨_, rfl⟩
theorem attrs_With_total (n : Nat) (a : den LAttr) (x : den TAttr) (ha : a.length ≤ 4194303) (hn : 4194320 ≤ n) : ∃ r, attrs_With n a x = some r ∧ r.length ≤ a.length + 1 := by
  obtain ⟨n, rfl⟩ : ∃ k, n = k + 1 := ⟨n - 1, by omega⟩
  obtain ⟨q, b, h1, h2, h3⟩ := attrs_find_total n a x.1 (by omega) (by omega)
  rw [attrs_With, attrs_With_top, h3, Option.bind_some, slices_Clone_Attr_spec n a (by omega) (by omega), Option.bind_some]
  cases b with
  | true =>
    have := h2 rfl
    rw [decide_eq_true (Int.natCast_nonneg q), decide_eq_true (show (q : Int) < (a.length : Int) by omega)]
    exact ⟨_, rfl, by rw [List.length_set]; exact Nat.le_succ _⟩
  | false =>
    obtain ⟨n, rfl⟩ : ∃ m, n = m + 1 := ⟨n - 1, by omega⟩
    have hi : slices_Insert_Attr (n + 1) (q : Int) a [x] = some (a.take q ++ [x] ++ a.drop q, ((), ((), ()))) := by
      rw [slices_Insert_Attr, decide_eq_true (show (q : Int) ≤ (a.length : Int) by omega), decide_eq_true (Int.natCast_nonneg q), decide_eq_true (show (a.length + [x].length) * 48 ≤ 140737488355328 by simp only [List.length_cons, List.length_nil]; omega), decide_eq_true (show 0 < [x].length by simp)]
      rfl
    rw [cond_false, Option.bind_some]
    refine ⟨_, by rw [show slices_Insert_Attr (n + 1) ((q : Int), false).1 ((a, ()) : den LAttr × Unit).1 [x] = _ from hi]; rfl, ?_⟩
    simp only [List.length_append, List.length_take, List.length_drop, List.length_cons, List.length_nil]
    omega
theorem Typed_g3_total (n : Nat) (hn : 4194400 ≤ n) (C1 C2 : den PSchema → den LAttr → Option (den LAttr)) : ∀ (r acc : den LAttr), acc.length + r.length ≤ 4000000 → ∃ o, rules_Typed_g3 C1 C2 (attrs_Get n) (attrs_With n) r acc = some o
  | [], acc, _ => ⟨acc, rfl⟩
  | x :: r, acc, h => by
    have h' : acc.length + (r.length + 1) ≤ 4000000 := h
    obtain ⟨g, hg⟩ := attrs_Get_total n acc x.1 (by omega) (by omega)
    simp only [rules_Typed_g3, hg, Option.bind_some]
    cases g.2 with
    | true => exact Typed_g3_total n hn C1 C2 r acc (by omega)
    | false =>
      obtain ⟨w, hw, hl⟩ := attrs_With_total n acc x (by omega) (by omega)
      simp only [Bool.not_false, cond_true, hw, Option.bind_some]
      exact Typed_g3_total n hn C1 C2 r w (by omega)
theorem rules_Typed_total (n : Nat) (hn : 4194500 ≤ n) (l : List (den KeyT)) (left right : den LAttr) (hl : left.length ≤ 1000) (hr : right.length ≤ 1000) : ∃ o, rules_Typed n (schK l) left right = some o := by
  obtain ⟨n, rfl⟩ : ∃ m, n = m + 1 := ⟨n - 1, by omega⟩
  have f1 := List.length_filter_le (fun a : den TAttr => byK l isAfter a.1) left
  have f2 := List.length_filter_le (fun a : den TAttr => byK l isBefore a.1) right
  rw [rules_Typed, rules_Typed_top, sift_Typed_1_spec n (by omega) l left hl, Option.bind_some, sift_Typed_2_spec n (by omega) l right hr, Option.bind_some]
  have h := rules_Typed_l3_list (rules_sift__rules_Typed_1 n) (rules_sift__rules_Typed_2 n) (attrs_Get n) (attrs_With n) n n 0 (left.filter fun a => byK l isAfter a.1) (right.filter fun a => byK l isBefore a.1) (by omega) (by omega) (by omega)
  rw [show ((0 : Nat) : Int) = 0 from rfl, List.drop_zero] at h
  obtain ⟨o, ho⟩ := Typed_g3_total n (by omega) (rules_sift__rules_Typed_1 n) (rules_sift__rules_Typed_2 n) (right.filter fun a => byK l isBefore a.1) (left.filter fun a => byK l isAfter a.1) (by omega)
  exact ⟨o, h.trans ho⟩
theorem Complete_g7_total (N : Nat) (hN : 4194400 ≤ N) (C1 : den LChange → Option (denS (⟨.row 57 (TChange), []⟩ : Sig))) (C2 : den PSchema → Int → Option (den Li64))
    (LS3 : den (PSchema) → den (LChange) → den (.int .i64) → den (.int .i64) → den (LChange) → Option (denS (⟨.rowv 57 (TChange) (.int .i64), []⟩ : Sig))) (s : den PSchema) (p : den LChange) (t16 t17 : Int) :
    ∀ (r : List Int) (out : den LChange), (∀ out' : den LChange, out'.length ≤ out.length + r.length → ∃ z, LS3 s p t16 (IntKind.wrap .i64 (t17 + (1 : Int))) out' = some z) → out.length + r.length ≤ 4194000 → ∃ z, rules_Complete_g7 C1 C2 (rules_at N) (slices_Insert_Change N) LS3 r s p t16 t17 out = some z
  | [], out, hLS, _ => hLS out (Nat.le_refl _)
  | o :: r, out, hLS, hl => by
    have hl' : out.length + (r.length + 1) ≤ 4194000 := hl
    have hLS' : ∀ out' : den LChange, out'.length ≤ out.length + (r.length + 1) → ∃ z, LS3 s p t16 (IntKind.wrap .i64 (t17 + (1 : Int))) out' = some z := hLS
    obtain ⟨q, b, h1, h2, h3⟩ := rules_at_total N out o (by omega) (by omega)
    simp only [rules_Complete_g7, h3, Option.bind_some]
    cases b with
    | true =>
      have := h2 rfl
      rw [decide_eq_true (Int.natCast_nonneg q), decide_eq_true (show (q : Int) < (out.length : Int) by omega)]
      simp only [Bool.and_self, cond_true, Bool.not_true, cond_false]
      cases (out.getD (Int.toNat (q : Int)) (dflt TChange)).2.1 with
      | false => exact ⟨_, rfl⟩
      | true => exact Complete_g7_total N hN C1 C2 LS3 s p t16 t17 r out (fun o' h => hLS' o' (by omega)) (by omega)
    | false =>
      obtain ⟨N, rfl⟩ : ∃ m, N = m + 1 := ⟨N - 1, by omega⟩
      simp only [cond_false, Bool.not_false, cond_true, slices_Insert_Change]
      rw [decide_eq_true (show (q : Int) ≤ (out.length : Int) by omega), decide_eq_true (Int.natCast_nonneg q), decide_eq_true (show (out.length + [goneC o].length) * 56 ≤ 140737488355328 by simp only [List.length_cons, List.length_nil]; omega), decide_eq_true (show 0 < [goneC o].length by simp)]
      simp only [Bool.and_self, cond_true, Option.bind_some, Int.toNat_natCast]
      have hlen : (out.take q ++ [goneC o] ++ out.drop q).length = out.length + 1 := by
        simp only [List.length_append, List.length_take, List.length_drop, List.length_cons, List.length_nil]
        omega
      exact Complete_g7_total (N + 1) hN C1 C2 LS3 s p t16 t17 r _ (fun o' h => hLS' o' (by rw [hlen] at h; omega)) (by rw [hlen]; omega)
theorem Complete_l3_total (N : Nat) (hN : 4194400 ≤ N) (C1 : den LChange → Option (denS (⟨.row 57 (TChange), []⟩ : Sig))) (l : List (den KeyT)) (hk : l.length ≤ 64) (p : den LChange) (hp : p.length ≤ 60000) :
    ∀ (m i : Nat) (out : den LChange), p.length - i < m → i ≤ p.length → out.length + (p.length - i) * 64 ≤ 4194000 →
      ∃ z, rules_Complete_l3 C1 (Schema_Group N) (rules_at N) (slices_Insert_Change N) N m (schK l) p (p.length : Int) (i : Int) out = some z
  | 0, i, out, h, _, _ => by omega
  | m + 1, i, out, h, hi, hl => by
    show ∃ z, rules_Complete_s3 _ _ _ _ _ _ _ _ _ _ _ = some z
    unfold rules_Complete_s3
    rcases Nat.lt_or_ge i p.length with c | c
    · have bw : IntKind.i64.wrap ((i : Int) + (1 : Int)) = ((i + 1 : Nat) : Int) := w64s (by omega)
      have ih := fun out h1 => Complete_l3_total N hN C1 l hk p hp m (i + 1) out (by omega) (by omega) h1
      rw [decide_eq_true (show (i : Int) < (p.length : Int) by omega), decide_eq_true (Int.natCast_nonneg i)]
      simp only [Bool.and_self, cond_true, Int.toNat_natCast, bw]
      cases hg : (p.getD i (dflt TChange)).2.1 with
      | true =>
        simp only [cond_true]
        exact ih out (by omega)
      | false =>
        simp only [cond_false]
        rw [Schema_Group_spec N l _ (by omega) (by omega)]
        simp only [Option.bind_some]
        have hgl := len_groupK l (p.getD i (dflt TChange)).1
        have h7 := rules_Complete_l7_list C1 (Schema_Group N) (rules_at N) (slices_Insert_Change N) N (rules_Complete_l3 C1 (Schema_Group N) (rules_at N) (slices_Insert_Change N) N m) N 0 (schK l) p (p.length : Int) (i : Int) (groupK l (p.getD i (dflt TChange)).1) out (by omega) (by omega) (by omega)
        rw [show ((0 : Nat) : Int) = 0 from rfl, List.drop_zero] at h7
        obtain ⟨z, hz⟩ := Complete_g7_total N hN C1 (Schema_Group N) (rules_Complete_l3 C1 (Schema_Group N) (rules_at N) (slices_Insert_Change N) N m) (schK l) p (p.length : Int) (i : Int) (groupK l (p.getD i (dflt TChange)).1) out (fun out' h => by rw [bw]; exact ih out' (by omega)) (by omega)
        exact ⟨z, h7.trans hz⟩
    · rw [decide_eq_false (show ¬ (i : Int) < (p.length : Int) by omega)]
      exact ⟨_, rfl⟩
theorem rules_Complete_total (n : Nat) (hn : 4194500 ≤ n) (l : List (den KeyT)) (hk : l.length ≤ 64) (p : den LChange) (hp : p.length ≤ 60000) : ∃ z, rules_Complete n (schK l) p = some z := by
  obtain ⟨n, rfl⟩ : ∃ m, n = m + 1 := ⟨n - 1, by omega⟩
  rw [rules_Complete, rules_Complete_top, slices_Clone_Change_spec n p (by omega) (by omega), Option.bind_some]
  exact Complete_l3_total n (by omega) (slices_Clone_Change n) l hk p hp n 0 p (by omega) (by omega) (by omega)
theorem rules_Step_total (n : Nat) (hn : 4194600 ≤ n) (l : List (den KeyT)) (hk : l.length ≤ 64) (set : den LAttr) (hset : set.length ≤ 1048576) (key by' : Int) : ∃ z, rules_Step n (schK l) set key by' = some z := by
  obtain ⟨n, rfl⟩ : ∃ m, n = m + 1 := ⟨n - 1, by omega⟩
  rw [rules_Step, rules_Step_top, Schema_Find_spec n l key (by omega), Option.bind_some]
  generalize hr : ((findK l key).getD (dflt KeyT), (findK l key).isSome) = r1
  obtain ⟨r1, s1⟩ := r1
  cases s1 with
  | false => exact ⟨_, rfl⟩
  | true =>
    simp only [Bool.not_true, cond_false]
    cases decide (r1.2.2.1 = (2 : Int)) with
    | false => exact ⟨_, rfl⟩
    | true =>
      simp only [Bool.not_true, cond_false]
      cases r1.2.1 with
      | false => exact ⟨_, rfl⟩
      | true =>
        simp only [Bool.not_true, cond_false]
        obtain ⟨g, hg⟩ := attrs_Get_total n set key (by omega) (by omega)
        rw [hg, Option.bind_some]
        cases g.2 with
        | false => exact ⟨_, step_tail n (by omega) l hk set hset key by' 0⟩
        | true =>
          rw [cond_true]
          cases decide (g.1.1 = (2 : Int)) with
          | true => exact ⟨_, step_tail n (by omega) l hk set hset key by' _⟩
          | false => exact ⟨_, step_tail n (by omega) l hk set hset key by' 0⟩
end Go.Proofs.Ytlcphnmkkilefaa.Ab
