/- What the seat's functions compute, second part. -/
import Derived.Test.YtecangnmmbcbkaaP2
set_option linter.unusedVariables false
set_option linter.unusedSimpArgs false
set_option maxRecDepth 10000
namespace Go.Proofs.Ytecangnmmbcbkaa.Ab
open Go

theorem patch_Compose_l6_spec (n : Nat) (a p : den LChange) (j : Nat) (c : den TChange) (rest : den LChange) (ha : a.length ≤ 4194304) (hj : j ≤ 4194304)
    (LS4 : den (LChange) → den (.int .i64) → den (LChange) → den (.int .i64) → den (.int .i64) → den (LChange) → Option (denR (.one (LChange))))
    (hLS : ∀ (i' : Nat) (out' : den LChange), i' ≤ a.length → out'.length ≤ i' + (j + 1) → LS4 a (i' : Int) p (p.length : Int) ((j + 1 : Nat) : Int) out' = some (out' ++ compS (a.drop i') rest)) :
    ∀ (m i : Nat) (out : den LChange), a.length - i < m → i ≤ a.length → out.length ≤ i + j →
      patch_Compose_l6 n LS4 m a (i : Int) p (p.length : Int) (j : Int) out c = some (out ++ compS (a.drop i) (c :: rest)) := by
  intro m
  induction m with
  | zero => intro i out h; omega
  | succ m ih =>
    intro i out hm hi ho
    have b1 : ∀ y : den TChange, decide ((out.length + ([y] : List (den TChange)).length) * 56 ≤ 140737488355328) = true := fun y => decide_eq_true (by simp only [List.length_singleton]; omega)
    rw [patch_Compose_l6, patch_Compose_s6]
    by_cases h : i < a.length
    · have hi' : (i : Int) < (a.length : Int) := by omega
      rw [drop_getD h (dflt TChange)]
      simp only [hi', decide_true, cond_true, Int.natCast_nonneg, Bool.and_self, Int.toNat_natCast, b1]
      rw [w64s (n := i) (by omega), w64s (n := j) (by omega), compS]
      by_cases g : (a.getD i (dflt TChange)).1 ≤ c.1
      · rw [if_pos g, decide_eq_true g, cond_true]
        by_cases g2 : (a.getD i (dflt TChange)).1 < c.1
        · rw [if_pos g2, decide_eq_true g2, cond_true, ih (i + 1) _ (by omega) (by omega) (by simp; omega)]; simp
        · rw [if_neg g2, decide_eq_false g2, cond_false, ih (i + 1) _ (by omega) (by omega) (by omega)]
      · rw [if_neg g, decide_eq_false g, cond_false, ← drop_getD h (dflt TChange), hLS _ _ (by omega) (by simp; omega)]; simp
    · have hi' : ¬ (i : Int) < (a.length : Int) := by omega
      have e : a.drop i = [] := List.drop_eq_nil_of_le (by omega)
      simp only [hi', decide_false, cond_false, b1, cond_true]
      rw [w64s (n := j) (by omega)]
      have hL := fun out' h => hLS i out' hi h
      rw [e] at hL ⊢
      rw [compS, hL _ (by simp; omega)]; simp
theorem patch_Compose_l4_spec (n : Nat) (a p : den LChange) (ha : a.length ≤ 4194304) (hp : p.length ≤ 4194304) (hn : a.length < n) :
    ∀ (m i j : Nat) (out : den LChange), p.length - j < m → i ≤ a.length → j ≤ p.length → out.length ≤ i + j →
      patch_Compose_l4 n m a (i : Int) p (p.length : Int) (j : Int) out = some (out ++ compS (a.drop i) (p.drop j)) := by
  intro m
  induction m with
  | zero => intro i j out h; omega
  | succ m ih =>
    intro i j out hm hi hj ho
    rw [patch_Compose_l4, patch_Compose_s4]
    by_cases h : j < p.length
    · have hj' : (j : Int) < (p.length : Int) := by omega
      simp only [hj', decide_true, cond_true, Int.natCast_nonneg, Bool.and_self, Int.toNat_natCast]
      rw [drop_getD h (dflt TChange)]
      exact patch_Compose_l6_spec n a p j _ _ ha (by omega) _ (fun i' out' h1 h2 => ih i' (j + 1) out' (by omega) h1 (by omega) h2) n i out (by omega) hi ho
    · have hj' : ¬ (j : Int) < (p.length : Int) := by omega
      have hi' : (i : Int) ≤ (a.length : Int) := by omega
      have e : p.drop j = [] := List.drop_eq_nil_of_le (by omega)
      have b2 : decide ((out.length + (a.drop i).length) * 56 ≤ 140737488355328) = true := decide_eq_true (by rw [List.length_drop]; omega)
      simp only [hj', decide_false, cond_false, hi', decide_true, Int.natCast_nonneg, Bool.and_self, cond_true, Int.toNat_natCast, b2, Int.le_refl, e, compS]
theorem patch_Compose_spec (n : Nat) (a p : den LChange) (ha : a.length ≤ 4194304) (hp : p.length ≤ 4194304) (hn : 4194306 ≤ n) : patch_Compose n a p = some (compS a p) := by
  obtain ⟨n, rfl⟩ : ∃ k, n = k + 1 := ⟨n - 1, by omega⟩
  rw [patch_Compose, patch_Compose_top]
  have := patch_Compose_l4_spec n a p ha hp (by omega) n 0 0 [] (by omega) (by omega) (by omega) (by simp)
  simpa using this

theorem cmp_Compare_int_spec (n : Nat) (x y : Int) (hn : 2 ≤ n) : cmp_Compare_int n x y = some (if x < y then -1 else if y < x then 1 else 0) := by
  obtain ⟨n, rfl⟩ : ∃ k, n = k + 2 := ⟨n - 2, by omega⟩
  simp only [cmp_Compare_int, cmp_Compare_int_top, cmp_isNaN_int, cmp_isNaN_int_top, decide_true, Bool.not_true, Option.bind_some, cond_false]
  by_cases g : x < y
  · rw [if_pos g, decide_eq_true g]; rfl
  · rw [if_neg g, decide_eq_false g, cond_false]
    by_cases g2 : y < x
    · rw [if_pos g2, decide_eq_true g2]; rfl
    · rw [if_neg g2, decide_eq_false g2]; rfl
theorem attrs_find_1_spec (n : Nat) (x : den TAttr) (y : Int) (hn : 3 ≤ n) : attrs_find_1 n x y = some (if x.1 < y then -1 else if y < x.1 then 1 else 0) := by
  obtain ⟨n, rfl⟩ : ∃ k, n = k + 1 := ⟨n - 1, by omega⟩
  simp only [attrs_find_1, attrs_find_1_top, cmp_Compare_int_spec n _ _ (show 2 ≤ n by omega), Option.bind_some]
theorem slices_BinarySearchFunc_Attr_int__attrs_find_1_l3_spec (C : den TAttr → Int → Option Int) (hC : ∀ x y, C x y = some (if x.1 < y then -1 else if y < x.1 then 1 else 0)) (n : Nat) (x : den LAttr) (t : Int) (hx : x.length ≤ 4194304) (hs : Srt x) :
    ∀ (m i j : Nat), j - i < m → i ≤ j → j ≤ x.length → (∀ k, k < i → (x.getD k (dflt TAttr)).1 < t) → (∀ k, j ≤ k → k < x.length → t ≤ (x.getD k (dflt TAttr)).1) →
      ∃ q : Nat, q ≤ x.length ∧ (∀ k, k < q → (x.getD k (dflt TAttr)).1 < t) ∧ (∀ k, q ≤ k → k < x.length → t ≤ (x.getD k (dflt TAttr)).1) ∧
        slices_BinarySearchFunc_Attr_int__attrs_find_1_l3 C n m x t (x.length : Int) (i : Int) (j : Int) = some ((q : Int), decide (q < x.length ∧ (x.getD q (dflt TAttr)).1 = t)) := by
  intro m
  induction m with
  | zero => intro i j h; omega
  | succ m ih =>
    intro i j hm hij hj h1 h2
    rw [slices_BinarySearchFunc_Attr_int__attrs_find_1_l3, slices_BinarySearchFunc_Attr_int__attrs_find_1_s3, mid_eq (by omega)]
    by_cases h : i < j
    · have h' : (i : Int) < (j : Int) := by omega
      have hl : (i + j) / 2 < x.length := by omega
      have hl' : (((i + j) / 2 : Nat) : Int) < (x.length : Int) := by omega
      have hge : (0 : Int) ≤ (((i + j) / 2 : Nat) : Int) := Int.natCast_nonneg _
      simp only [h', decide_true, cond_true, hge, hl', Bool.and_self, Int.toNat_natCast, hC, Option.bind_some]
      by_cases g : (x.getD ((i + j) / 2) (dflt TAttr)).1 < t
      · rw [if_pos g, w64s (by omega)]
        simp only [show decide ((-1 : Int) < 0) = true from rfl, cond_true]
        refine ih ((i + j) / 2 + 1) j (by omega) (by omega) hj (fun k hk => ?_) h2
        by_cases e : k = (i + j) / 2
        · rw [e]; exact g
        · exact Int.lt_trans (srt_getD hs (dflt TAttr) (show k < (i + j) / 2 by omega) hl) g
      · have hd : decide ((if (x.getD ((i + j) / 2) (dflt TAttr)).1 < t then (-1 : Int) else if t < (x.getD ((i + j) / 2) (dflt TAttr)).1 then 1 else 0) < 0) = false := by
          rw [if_neg g]; split <;> rfl
        rw [hd, cond_false]
        have g0 : t ≤ (x.getD ((i + j) / 2) (dflt TAttr)).1 := Int.not_lt.1 g
        refine ih i ((i + j) / 2) (by omega) (by omega) (by omega) h1 (fun k hk hk2 => ?_)
        by_cases e : k = (i + j) / 2
        · rw [e]; exact g0
        · exact Int.le_of_lt (Int.lt_of_le_of_lt g0 (srt_getD hs (dflt TAttr) (show (i + j) / 2 < k by omega) hk2))
    · have h' : ¬ (i : Int) < (j : Int) := by omega
      obtain rfl : i = j := by omega
      simp only [h', decide_false, cond_false]
      refine ⟨i, hj, h1, h2, ?_⟩
      by_cases g : i < x.length
      · have g' : (i : Int) < (x.length : Int) := by omega
        simp only [g', decide_true, cond_true, Int.natCast_nonneg, Bool.and_self, Int.toNat_natCast, hC, Option.bind_some, g, true_and]
        have := h2 i (by omega) g
        by_cases e : (x.getD i (dflt TAttr)).1 = t
        · rw [if_neg (by rw [e]; exact Int.lt_irrefl _), if_neg (by rw [e]; exact Int.lt_irrefl _), decide_eq_true e]; rfl
        · have e1 : ¬ (x.getD i (dflt TAttr)).1 < t := Int.not_lt.2 this
          have e2 : t < (x.getD i (dflt TAttr)).1 := Int.not_le.1 fun h => e (Int.le_antisymm h this)
          rw [if_neg e1, if_pos e2, decide_eq_false e]; rfl
      · have g' : ¬ (i : Int) < (x.length : Int) := by omega
        simp only [g', decide_false, cond_false, g, false_and]
theorem attrs_find_spec (n : Nat) (x : den LAttr) (t : Int) (hx : x.length ≤ 4194304) (hs : Srt x) (hn : 4194310 ≤ n) :
      ∃ q : Nat, q ≤ x.length ∧ (∀ k, k < q → (x.getD k (dflt TAttr)).1 < t) ∧ (∀ k, q ≤ k → k < x.length → t ≤ (x.getD k (dflt TAttr)).1) ∧
        attrs_find n x t = some ((q : Int), decide (q < x.length ∧ (x.getD q (dflt TAttr)).1 = t)) := by
  obtain ⟨n, rfl⟩ : ∃ k, n = k + 2 := ⟨n - 2, by omega⟩
  obtain ⟨q, h1, h2, h3, h4⟩ := slices_BinarySearchFunc_Attr_int__attrs_find_1_l3_spec (attrs_find_1 n) (fun x y => attrs_find_1_spec n x y (by omega)) n x t hx hs n 0 x.length (by omega) (by omega) (by omega) (by omega) (by omega)
  refine ⟨q, h1, h2, h3, ?_⟩
  have e : slices_BinarySearchFunc_Attr_int__attrs_find_1 (n + 1) x t = some ((q : Int), decide (q < x.length ∧ (x.getD q (dflt TAttr)).1 = t)) := by
    rw [slices_BinarySearchFunc_Attr_int__attrs_find_1, slices_BinarySearchFunc_Attr_int__attrs_find_1_top]; exact h4
  rw [attrs_find, attrs_find_top, e]; rfl
noncomputable def getS (x : den LAttr) (t : Int) : den TValue × Bool := match find t x with
  | some v => (v.1, true)
  | none => (zv, false)
theorem attrs_Get_spec (n : Nat) (x : den LAttr) (t : Int) (hx : x.length ≤ 4194304) (hs : Srt x) (hn : 4194311 ≤ n) : attrs_Get n x t = some (getS x t) := by
  obtain ⟨n, rfl⟩ : ∃ k, n = k + 1 := ⟨n - 1, by omega⟩
  obtain ⟨q, h1, h2, h3, h4⟩ := attrs_find_spec n x t hx hs (by omega)
  rw [attrs_Get, attrs_Get_top, h4, Option.bind_some, getS]
  by_cases g : q < x.length ∧ (x.getD q (dflt TAttr)).1 = t
  · have g' : (q : Int) < (x.length : Int) := by omega
    rw [find_at (dflt TAttr) t x q (fun k hk => Int.ne_of_lt (h2 k hk)) g.1 g.2]
    simp only [decide_eq_true g, Bool.not_true, cond_false, Int.natCast_nonneg, g', decide_true, Bool.and_self, cond_true, Int.toNat_natCast]
  · rw [find_no (dflt TAttr) t x fun k hk => ?_]
    · simp only [decide_eq_false g, Bool.not_false, cond_true]
    · intro he
      rcases Nat.lt_trichotomy k q with e | e | e
      · exact Int.ne_of_lt (h2 k e) he
      · subst e; exact g ⟨hk, he⟩
      · have := srt_getD hs (dflt TAttr) e hk
        have h5 := h3 q (Nat.le_refl _) (by omega)
        rw [he] at this
        exact absurd this (Int.not_lt.2 h5)
theorem patch_Invert_l3_spec (C : den LAttr → Int → Option (den TValue × Bool)) (n : Nat) (a : den LAttr) (p : den LChange) (hC : ∀ t, C a t = some (getS a t)) (hp : p.length ≤ 4194304) :
    ∀ (m j : Nat) (out : den LChange), p.length - j < m → j ≤ p.length → out.length ≤ j →
      patch_Invert_l3 C n m a p (p.length : Int) (j : Int) out = some (out ++ invertS eqv zv a (p.drop j)) := by
  intro m
  induction m with
  | zero => intro j out h; omega
  | succ m ih =>
    intro j out hm hj ho
    have b1 : ∀ y : den TChange, decide ((out.length + ([y] : List (den TChange)).length) * 56 ≤ 140737488355328) = true := fun y => decide_eq_true (by simp only [List.length_singleton]; omega)
    rw [patch_Invert_l3, patch_Invert_s3]
    by_cases h : j < p.length
    · have h' : (j : Int) < (p.length : Int) := by omega
      rw [drop_getD h (dflt TChange)]
      have e : invertS eqv zv a (p.getD j (dflt TChange) :: p.drop (j + 1)) = inv1 eqv zv a (p.getD j (dflt TChange)) ++ invertS eqv zv a (p.drop (j + 1)) := by simp [invertS]
      simp only [h', decide_true, cond_true, Int.natCast_nonneg, Bool.and_self, Int.toNat_natCast, b1, hC, Option.bind_some, e]
      rw [w64s (n := j) (by omega), ih (j + 1) out (by omega) (by omega) (by omega)]
      have e1 : ∀ y : den TChange, patch_Invert_l3 C n m a p (p.length : Int) ((j + 1 : Nat) : Int) (out ++ [y]) = some ((out ++ [y]) ++ invertS eqv zv a (p.drop (j + 1))) := fun y => ih (j + 1) _ (by omega) (by omega) (by simp; omega)
      rw [e1, e1]
      unfold inv1
      rw [getS]
      cases hf : find (p.getD j (dflt TChange)).1 a with
      | none =>
        cases hg : (p.getD j (dflt TChange)).2.1 <;> simp [hg]
      | some v =>
        cases hg : (p.getD j (dflt TChange)).2.1
        · cases hv : eqT TValue v.1 (p.getD j (dflt TChange)).2.2.1
          · have hv' : eqv v.1 (p.getD j (dflt TChange)).2.2.1 = false := hv
            simp only [hg, hv, Bool.not_false, cond_true, cond_false, Bool.false_eq_true, false_or, hv', if_true, List.append_assoc]
          · have hv' : eqv v.1 (p.getD j (dflt TChange)).2.2.1 = true := hv
            simp only [hg, hv, Bool.not_false, Bool.not_true, cond_true, cond_false, Bool.false_eq_true, false_or, hv', Bool.true_eq_false, if_false, List.nil_append]
        · simp [hg]
    · have h' : ¬ (j : Int) < (p.length : Int) := by omega
      have e : p.drop j = [] := List.drop_eq_nil_of_le (by omega)
      simp only [h', decide_false, cond_false, e, invertS, List.flatMap_nil, List.append_nil]
theorem patch_Invert_spec (n : Nat) (a : den LAttr) (p : den LChange) (ha : a.length ≤ 4194304) (hp : p.length ≤ 4194304) (hs : Srt a) (hn : 4194312 ≤ n) : patch_Invert n a p = some (invertS eqv zv a p) := by
  obtain ⟨n, rfl⟩ : ∃ k, n = k + 1 := ⟨n - 1, by omega⟩
  rw [patch_Invert, patch_Invert_top]
  have := patch_Invert_l3_spec (attrs_Get n) n a p (fun t => attrs_Get_spec n a t ha hs (by omega)) hp n 0 [] (by omega) (by omega) (by simp)
  simpa using this
theorem ref05_Same_l4_spec (n : Nat) (a : den LAttr) (ha : a.length ≤ 4194304) : ∀ (m i : Nat), a.length - i < m → ref05_Same_l4 n m a a (i : Int) = some true := by
  intro m
  induction m with
  | zero => intro i h; omega
  | succ m ih =>
    intro i hm
    rw [ref05_Same_l4, ref05_Same_s4]
    by_cases h : i < a.length
    · have h' : (i : Int) < (a.length : Int) := by omega
      have e : eqT TAttr (a.getD i (dflt TAttr)) (a.getD i (dflt TAttr)) = true := (eqT_iff TAttr _ _ rfl).2 rfl
      simp only [h', decide_true, cond_true, Int.natCast_nonneg, Bool.and_self, Int.toNat_natCast, e, Bool.not_true, cond_false]
      rw [w64s (n := i) (by omega)]
      exact ih (i + 1) (by omega)
    · have h' : ¬ (i : Int) < (a.length : Int) := by omega
      simp only [h', decide_false, cond_false]
theorem ref05_Same_same (n : Nat) (a : den LAttr) (ha : a.length ≤ 4194304) (hn : 4194306 ≤ n) : ref05_Same n a a = some true := by
  obtain ⟨n, rfl⟩ : ∃ k, n = k + 1 := ⟨n - 1, by omega⟩
  rw [ref05_Same, ref05_Same_top]
  simp only [decide_true, Bool.not_true, cond_false]
  exact ref05_Same_l4_spec n a ha n 0 (by omega)
theorem slices_Equal_Change_l4_spec (n : Nat) (a : den LChange) (ha : a.length ≤ 4194304) : ∀ (m i : Nat), a.length - i < m → slices_Equal_Change_l4 n m a a (a.length : Int) (i : Int) = some true := by
  intro m
  induction m with
  | zero => intro i h; omega
  | succ m ih =>
    intro i hm
    rw [slices_Equal_Change_l4, slices_Equal_Change_s4]
    by_cases h : i < a.length
    · have h' : (i : Int) < (a.length : Int) := by omega
      have e : eqT TChange (a.getD i (dflt TChange)) (a.getD i (dflt TChange)) = true := (eqT_iff TChange _ _ rfl).2 rfl
      simp only [h', decide_true, cond_true, Int.natCast_nonneg, Bool.and_self, Int.toNat_natCast, e, Bool.not_true, cond_false]
      rw [w64s (n := i) (by omega)]
      exact ih (i + 1) (by omega)
    · have h' : ¬ (i : Int) < (a.length : Int) := by omega
      simp only [h', decide_false, cond_false]
theorem patch_Same_same (n : Nat) (a : den LChange) (ha : a.length ≤ 4194304) (hn : 4194307 ≤ n) : patch_Same n a a = some true := by
  obtain ⟨n, rfl⟩ : ∃ k, n = k + 2 := ⟨n - 2, by omega⟩
  have e : slices_Equal_Change (n + 1) a a = some true := by
    rw [slices_Equal_Change, slices_Equal_Change_top]
    simp only [decide_true, Bool.not_true, cond_false]
    exact slices_Equal_Change_l4_spec n a ha n 0 (by omega)
  rw [patch_Same, patch_Same_top, e]; rfl
theorem ref05_Rising_l2_spec (n : Nat) (a : den LAttr) (ha : a.length ≤ 4194304) : ∀ (m i : Nat), a.length - i < m → i ≤ a.length → (∀ k, k < i → k + 1 < a.length → (a.getD k (dflt TAttr)).1 < (a.getD (k + 1) (dflt TAttr)).1) →
    ref05_Rising_l2 n m a ((i + 1 : Nat) : Int) = some false ∨ ref05_Rising_l2 n m a ((i + 1 : Nat) : Int) = some true ∧ Srt a := by
  intro m
  induction m with
  | zero => intro i h; omega
  | succ m ih =>
    intro i hm hi hr
    rw [ref05_Rising_l2, ref05_Rising_s2]
    have hw : IntKind.wrap .i64 (((i + 1 : Nat) : Int) - 1) = (i : Int) := by
      have : ((i + 1 : Nat) : Int) - 1 = (i : Int) := by omega
      rw [this]; exact w64 (by omega) (by omega)
    rw [hw]
    by_cases h : i + 1 < a.length
    · have h' : ((i + 1 : Nat) : Int) < (a.length : Int) := by omega
      have h2 : (i : Int) < (a.length : Int) := by omega
      simp only [h', h2, decide_true, cond_true, Int.natCast_nonneg, Bool.and_self, Int.toNat_natCast]
      by_cases g : (a.getD (i + 1) (dflt TAttr)).1 ≤ (a.getD i (dflt TAttr)).1
      · exact .inl (by rw [decide_eq_true g, cond_true])
      · rw [decide_eq_false g, cond_false, w64s (n := i + 1) (by omega)]
        refine ih (i + 1) (by omega) (by omega) fun k hk hk2 => ?_
        by_cases e : k = i
        · subst e; exact Int.not_le.1 g
        · exact hr k (by omega) hk2
    · have h' : ¬ ((i + 1 : Nat) : Int) < (a.length : Int) := by omega
      simp only [h', decide_false, cond_false]
      exact .inr ⟨trivial, srt_of_getD (dflt TAttr) fun k hk => hr k (by omega) hk⟩
theorem ref05_Rising_spec (n : Nat) (a : den LAttr) (ha : a.length ≤ 4194304) (hn : 4194306 ≤ n) : ref05_Rising n a = some false ∨ ref05_Rising n a = some true ∧ Srt a := by
  obtain ⟨n, rfl⟩ : ∃ k, n = k + 1 := ⟨n - 1, by omega⟩
  rw [ref05_Rising, ref05_Rising_top]
  exact ref05_Rising_l2_spec n a ha n 0 (by omega) (by omega) (by omega)
theorem ref06_Rising_l2_spec (n : Nat) (a : den LChange) (ha : a.length ≤ 4194304) : ∀ (m i : Nat), a.length - i < m → i ≤ a.length → (∀ k, k < i → k + 1 < a.length → (a.getD k (dflt TChange)).1 < (a.getD (k + 1) (dflt TChange)).1) →
    ref06_Rising_l2 n m a ((i + 1 : Nat) : Int) = some false ∨ ref06_Rising_l2 n m a ((i + 1 : Nat) : Int) = some true ∧ Srt a := by
  intro m
  induction m with
  | zero => intro i h; omega
  | succ m ih =>
    intro i hm hi hr
    rw [ref06_Rising_l2, ref06_Rising_s2]
    have hw : IntKind.wrap .i64 (((i + 1 : Nat) : Int) - 1) = (i : Int) := by
      have : ((i + 1 : Nat) : Int) - 1 = (i : Int) := by omega
      rw [this]; exact w64 (by omega) (by omega)
    rw [hw]
    by_cases h : i + 1 < a.length
    · have h' : ((i + 1 : Nat) : Int) < (a.length : Int) := by omega
      have h2 : (i : Int) < (a.length : Int) := by omega
      simp only [h', h2, decide_true, cond_true, Int.natCast_nonneg, Bool.and_self, Int.toNat_natCast]
      by_cases g : (a.getD (i + 1) (dflt TChange)).1 ≤ (a.getD i (dflt TChange)).1
      · exact .inl (by rw [decide_eq_true g, cond_true])
      · rw [decide_eq_false g, cond_false, w64s (n := i + 1) (by omega)]
        refine ih (i + 1) (by omega) (by omega) fun k hk hk2 => ?_
        by_cases e : k = i
        · subst e; exact Int.not_le.1 g
        · exact hr k (by omega) hk2
    · have h' : ¬ ((i + 1 : Nat) : Int) < (a.length : Int) := by omega
      simp only [h', decide_false, cond_false]
      exact .inr ⟨trivial, srt_of_getD (dflt TChange) fun k hk => hr k (by omega) hk⟩
theorem ref06_Rising_spec (n : Nat) (a : den LChange) (ha : a.length ≤ 4194304) (hn : 4194306 ≤ n) : ref06_Rising n a = some false ∨ ref06_Rising n a = some true ∧ Srt a := by
  obtain ⟨n, rfl⟩ : ∃ k, n = k + 1 := ⟨n - 1, by omega⟩
  rw [ref06_Rising, ref06_Rising_top]
  exact ref06_Rising_l2_spec n a ha n 0 (by omega) (by omega) (by omega)

theorem law06_great_l12_some (n : Nat) (s : den LLAttr) (i : Nat) (LS8 : den (LLAttr) → den (.int .i64) → den (.int .i64) → den (.int .i64) → Option (denR (.one (.bool))))
    (hi : i < s.length) (hl : (s.getD i (dflt LAttr)).length ≤ 4194304) (t27 : Int) (t28 : Int) (hL : ∀ nt, ∃ b, LS8 s nt t27 (IntKind.wrap .i64 (t28 + 1)) = some b) :
    ∀ (m k : Nat) (nt : Int), (s.getD i (dflt LAttr)).length - k < m → ∃ b, law06_great_l12 n LS8 m s nt (i : Int) t27 t28 ((s.getD i (dflt LAttr)).length : Int) (k : Int) = some b := by
  intro m
  induction m with
  | zero => intro k nt h; omega
  | succ m ih =>
    intro k nt hm
    rw [law06_great_l12, law06_great_s12]
    have hi' : (i : Int) < (s.length : Int) := by omega
    by_cases h : k < (s.getD i (dflt LAttr)).length
    · have h' : (k : Int) < ((s.getD i (dflt LAttr)).length : Int) := by omega
      simp only [h', hi', decide_true, cond_true, Int.natCast_nonneg, Bool.and_self, Int.toNat_natCast]
      rw [w64s (n := k) (by omega)]
      exact ih _ _ (by omega)
    · have h' : ¬ (k : Int) < ((s.getD i (dflt LAttr)).length : Int) := by omega
      simp only [h', decide_false, cond_false]
      exact hL _
theorem law06_great_l8_some (n : Nat) (s : den LLAttr) (hs : s.length ≤ 4194304) (hl : ∀ x ∈ s, x.length ≤ 4194304) (hn : 4194305 ≤ n) :
    ∀ (m i : Nat) (nt : Int), s.length - i < m → ∃ b, law06_great_l8 n m s nt (s.length : Int) (i : Int) = some b := by
  intro m
  induction m with
  | zero => intro k nt h; omega
  | succ m ih =>
    intro i nt hm
    rw [law06_great_l8, law06_great_s8]
    by_cases h : i < s.length
    · have h' : (i : Int) < (s.length : Int) := by omega
      have hl' : (s.getD i (dflt LAttr)).length ≤ 4194304 := by
        refine hl _ ?_
        rw [List.getD_eq_getElem?_getD, List.getElem?_eq_getElem h]; exact List.getElem_mem h
      simp only [h', decide_true, cond_true, Int.natCast_nonneg, Bool.and_self, Int.toNat_natCast]
      exact law06_great_l12_some n s i _ h hl' _ _ (fun nt => by rw [w64s (n := i) (by omega)]; exact ih (i + 1) nt (by omega)) n 0 _ (by omega)
    · have h' : ¬ (i : Int) < (s.length : Int) := by omega
      simp only [h', decide_false, cond_false]
      exact ⟨_, rfl⟩
theorem law06_great_l3_some (n : Nat) (p : den LChange) (s : den LLAttr) (hp : p.length ≤ 4194304) (hs : s.length ≤ 4194304) (hl : ∀ x ∈ s, x.length ≤ 4194304) (hn : 4194305 ≤ n) :
    ∀ (m i : Nat) (nt : Int), p.length - i < m → ∃ b, law06_great_l3 n m p s nt (p.length : Int) (i : Int) = some b := by
  intro m
  induction m with
  | zero => intro k nt h; omega
  | succ m ih =>
    intro i nt hm
    rw [law06_great_l3, law06_great_s3]
    by_cases h : i < p.length
    · have h' : (i : Int) < (p.length : Int) := by omega
      simp only [h', decide_true, cond_true, Int.natCast_nonneg, Bool.and_self, Int.toNat_natCast]
      rw [w64s (n := i) (by omega)]
      exact ih (i + 1) _ (by omega)
    · have h' : ¬ (i : Int) < (p.length : Int) := by omega
      simp only [h', decide_false, cond_false]
      exact law06_great_l8_some n s hs hl hn n 0 nt (by omega)
theorem law06_great_some (n : Nat) (p : den LChange) (s : den LLAttr) (hp : p.length ≤ 4194304) (hs : s.length ≤ 4194304) (hl : ∀ x ∈ s, x.length ≤ 4194304) (hn : 4194306 ≤ n) : ∃ b, law06_great n p s = some b := by
  obtain ⟨n, rfl⟩ : ∃ k, n = k + 1 := ⟨n - 1, by omega⟩
  rw [law06_great, law06_great_top]
  exact law06_great_l3_some n p s hp hs hl (by omega) n 0 _ (by omega)

theorem known_at : law06_known 8388607 = some true := by kernel_rfl

theorem patchBack (N : Nat) (hN : N = 8388607) (a b : den LAttr) (p : den LChange) (ha : a.length ≤ 1048576) (hb : b.length ≤ 1048576) (hp : p.length ≤ 1048576) : law06_PatchBack (N + 1) a b p = some true := by
  have hk : law06_known N = some true := hN ▸ known_at
  obtain ⟨g, hg⟩ := law06_great_some N p [a, b] (by omega) (by simp) (by simp; omega) (by omega)
  rw [law06_PatchBack, law06_PatchBack_top, hg, hk]
  simp only [Option.bind_some]
  cases g
  case true => rfl
  rcases ref05_Rising_spec N a (by omega) (by omega) with e | ⟨e, sa⟩
  · rw [e]; rfl
  rcases ref05_Rising_spec N b (by omega) (by omega) with e2 | ⟨e2, sb⟩
  · rw [e, e2]; rfl
  rcases ref06_Rising_spec N p (by omega) (by omega) with e3 | ⟨e3, sp⟩
  · rw [e, e2, e3]; rfl
  have l1 := len_apply a p
  have l2 := len_invert (eqv := eqv) (z := zv) a p
  have l3 := len_diff (eqv := eqv) (z := zv) a b
  have l4 := len_diff (eqv := eqv) (z := zv) b a
  rw [e, e2, e3, patch_Apply_spec N a p (by omega) (by omega) (by omega), patch_Invert_spec N a p (by omega) (by omega) sa (by omega), patch_Diff_spec N a b (by omega) (by omega) (by omega), patch_Diff_spec N a a (by omega) (by omega) (by omega), patch_Diff_spec N b a (by omega) (by omega) (by omega)]
  simp only [Option.bind_some, cond_false, Bool.not_true]
  rw [patch_Apply_spec N _ _ (by omega) (by omega) (by omega), law_back eqv_iff sa sp, patch_Apply_spec N _ _ (by omega) (by omega) (by omega), law_diff eqv_iff sa sb, law_same eqv_iff sa, patch_Invert_spec N _ _ (by omega) (by omega) sa (by omega), law_inv eqv_iff sa sb]
  simp only [Option.bind_some, ref05_Same_same N a (by omega) (by omega), ref05_Same_same N b (by omega) (by omega), patch_Same_same N _ (show (diffS eqv zv b a).length ≤ 4194304 by omega) (show 4194307 ≤ N by omega), Bool.not_true, cond_false, cond_true, List.length_nil]
  rfl
theorem patchAlgebra (N : Nat) (hN : N = 8388607) (a : den LAttr) (p q r : den LChange) (ha : a.length ≤ 1048576) (hp : p.length ≤ 1048576) (hq : q.length ≤ 1048576) (hr : r.length ≤ 1048576) : law06_PatchAlgebra (N + 1) a p q r = some true := by
  have hk : law06_known N = some true := hN ▸ known_at
  obtain ⟨g, hg⟩ := law06_great_some N p [a] (by omega) (by simp) (by simp; omega) (by omega)
  obtain ⟨g2, hg2⟩ := law06_great_some N q [] (by omega) (by simp) (by simp) (by omega)
  obtain ⟨g3, hg3⟩ := law06_great_some N r [] (by omega) (by simp) (by simp) (by omega)
  rw [law06_PatchAlgebra, law06_PatchAlgebra_top, hg, hg2, hg3, hk]
  simp only [Option.bind_some]
  cases g
  case true => rfl
  cases g2
  case true => rfl
  cases g3
  case true => rfl
  rcases ref05_Rising_spec N a (by omega) (by omega) with e | ⟨e, sa⟩
  · rw [e]; rfl
  rcases ref06_Rising_spec N p (by omega) (by omega) with e2 | ⟨e2, sp⟩
  · rw [e, e2]; rfl
  rcases ref06_Rising_spec N q (by omega) (by omega) with e3 | ⟨e3, sq⟩
  · rw [e, e2, e3]; rfl
  rcases ref06_Rising_spec N r (by omega) (by omega) with e4 | ⟨e4, sr⟩
  · rw [e, e2, e3, e4]; rfl
  have l1 := len_apply a p
  have l2 := len_comp p q
  have l3 := len_comp q r
  have l4 := len_apply (applyS a p) q
  have l5 := len_comp (compS p q) r
  rw [e, e2, e3, e4, patch_Apply_spec N a p (by omega) (by omega) (by omega), patch_Compose_spec N p q (by omega) (by omega) (by omega), patch_Apply_spec N a [] (by omega) (by simp) (by omega), patch_Compose_spec N q r (by omega) (by omega) (by omega), patch_Compose_spec N p [] (by omega) (by simp) (by omega), patch_Compose_spec N [] p (by simp) (by omega) (by omega)]
  simp only [Option.bind_some, cond_false, Bool.not_true, law_apply_nil, law_nil_right, law_nil_left]
  rw [patch_Apply_spec N _ _ (by omega) (by omega) (by omega), patch_Apply_spec N _ _ (by omega) (by omega) (by omega), ← law_comp sa sp sq, patch_Compose_spec N _ _ (by omega) (by omega) (by omega), patch_Compose_spec N _ _ (by omega) (by omega) (by omega), ← law_assoc sp sq sr]
  simp only [Option.bind_some, ref05_Same_same N a (by omega) (by omega), ref05_Same_same N _ (show (applyS (applyS a p) q).length ≤ 4194304 by omega) (show 4194306 ≤ N by omega), patch_Same_same N p (by omega) (by omega), patch_Same_same N _ (show (compS (compS p q) r).length ≤ 4194304 by omega) (show 4194307 ≤ N by omega), Bool.not_true, cond_false, cond_true]
end Go.Proofs.Ytecangnmmbcbkaa.Ab
