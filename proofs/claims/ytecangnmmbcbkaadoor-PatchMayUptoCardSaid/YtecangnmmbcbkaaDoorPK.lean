/- Plain laws of this seat's printed functions (picked). -/
import Derived.Test.YtecangnmmbcbkaaDoorP1
import Derived.Test.YtecangnmmbcbkaaDoorPL
import Derived.Test.YtecangnmmbcbkaaDoorG
set_option linter.unusedVariables false
set_option linter.unusedSimpArgs false
set_option maxRecDepth 10000
namespace Go.Proofs.YtecangnmmbcbkaaDoor.Ab
open Go Classical
noncomputable abbrev zv : den TValue := (0, (0, (0, ((⟨#[]⟩ : ByteArray), ()))))
noncomputable abbrev eqv : den TValue → den TValue → Bool := eqT TValue
theorem eqv_iff (u v : den TValue) : eqv u v = true ↔ u = v := eqT_iff TValue u v rfl

theorem patch_Apply_l6_spec (n : Nat) (a : den LAttr) (p : den LChange) (j : Nat) (c : den TChange) (rest : den LChange) (ha : a.length ≤ 4194304) (hj : j ≤ 4194304)
    (LS4 : den (LAttr) → den (.int .i64) → den (LChange) → den (.int .i64) → den (.int .i64) → den (LAttr) → Option (denR (.one (LAttr))))
    (hLS : ∀ (i' : Nat) (out' : den LAttr), i' ≤ a.length → out'.length ≤ i' + (j + 1) → LS4 a (i' : Int) p (p.length : Int) ((j + 1 : Nat) : Int) out' = some (out' ++ applyS (a.drop i') rest)) :
    ∀ (m i : Nat) (out : den LAttr), a.length - i < m → i ≤ a.length → out.length ≤ i + j →
      patch_Apply_l6 n LS4 m a (i : Int) p (p.length : Int) (j : Int) out c = some (out ++ applyS (a.drop i) (c :: rest)) := by
  intro m
  induction m with
  | zero => intro i out h; omega
  | succ m ih =>
    intro i out hm hi ho
    have b1 : ∀ y : den TAttr, decide ((out.length + ([y] : List (den TAttr)).length) * 48 ≤ 140737488355328) = true := fun y => decide_eq_true (by simp only [List.length_singleton]; omega)
    rw [patch_Apply_l6, patch_Apply_s6]
    by_cases h : i < a.length
    · have hi' : (i : Int) < (a.length : Int) := by omega
      rw [drop_getD h (dflt TAttr)]
      simp only [hi', decide_true, cond_true, Int.natCast_nonneg, Bool.and_self, Int.toNat_natCast, b1]
      rw [w64s (n := i) (by omega), w64s (n := j) (by omega), applyS]
      by_cases g : (a.getD i (dflt TAttr)).1 < c.1
      · rw [if_pos g, decide_eq_true g, cond_true, ih (i + 1) (out ++ [a.getD i (dflt TAttr)]) (by omega) (by omega) (by simp; omega)]
        simp
      · rw [if_neg g, decide_eq_false g, cond_false]
        by_cases g2 : (a.getD i (dflt TAttr)).1 = c.1
        · rw [if_pos g2, decide_eq_true g2, cond_true]
          unfold put
          cases hb : c.2.1
          · simp only [Bool.not_false, cond_true]
            rw [hLS _ _ (by omega) (by simp; omega)]; simp
          · simp only [Bool.not_true, cond_false]
            rw [hLS _ _ (by omega) (by omega)]; simp
        · rw [if_neg g2, decide_eq_false g2, cond_false]
          rw [← drop_getD h (dflt TAttr)]
          unfold put
          cases hb : c.2.1
          · simp only [Bool.not_false, cond_true]
            rw [hLS _ _ (by omega) (by simp; omega)]; simp
          · simp only [Bool.not_true, cond_false]
            rw [hLS _ _ (by omega) (by omega)]; simp
    · have hi' : ¬ (i : Int) < (a.length : Int) := by omega
      have e : a.drop i = [] := List.drop_eq_nil_of_le (by omega)
      simp only [hi', decide_false, cond_false, b1, cond_true]
      rw [w64s (n := j) (by omega)]
      have hL := fun out' h => hLS i out' hi h
      rw [e] at hL ⊢
      rw [applyS]
      unfold put
      cases hb : c.2.1
      · simp only [Bool.not_false, cond_true]
        rw [hL _ (by simp; omega)]; simp
      · simp only [Bool.not_true, cond_false]
        rw [hL _ (by omega)]; simp
theorem patch_Apply_l4_spec (n : Nat) (a : den LAttr) (p : den LChange) (ha : a.length ≤ 4194304) (hp : p.length ≤ 4194304) (hn : a.length < n) :
    ∀ (m i j : Nat) (out : den LAttr), p.length - j < m → i ≤ a.length → j ≤ p.length → out.length ≤ i + j →
      patch_Apply_l4 n m a (i : Int) p (p.length : Int) (j : Int) out = some (out ++ applyS (a.drop i) (p.drop j)) := by
  intro m
  induction m with
  | zero => intro i j out h; omega
  | succ m ih =>
    intro i j out hm hi hj ho
    rw [patch_Apply_l4, patch_Apply_s4]
    by_cases h : j < p.length
    · have hj' : (j : Int) < (p.length : Int) := by omega
      simp only [hj', decide_true, cond_true, Int.natCast_nonneg, Bool.and_self, Int.toNat_natCast]
      rw [drop_getD h (dflt TChange)]
      exact patch_Apply_l6_spec n a p j _ _ ha (by omega) _ (fun i' out' h1 h2 => ih i' (j + 1) out' (by omega) h1 (by omega) h2) n i out (by omega) hi ho
    · have hj' : ¬ (j : Int) < (p.length : Int) := by omega
      have hi' : (i : Int) ≤ (a.length : Int) := by omega
      have e : p.drop j = [] := List.drop_eq_nil_of_le (by omega)
      have b2 : decide ((out.length + (a.drop i).length) * 48 ≤ 140737488355328) = true := decide_eq_true (by rw [List.length_drop]; omega)
      simp only [hj', decide_false, cond_false, hi', decide_true, Int.natCast_nonneg, Bool.and_self, cond_true, Int.toNat_natCast, b2, Int.le_refl, e, applyS]
theorem patch_Apply_spec (n : Nat) (a : den LAttr) (p : den LChange) (ha : a.length ≤ 4194304) (hp : p.length ≤ 4194304) (hn : 4194306 ≤ n) : patch_Apply n a p = some (applyS a p) := by
  obtain ⟨n, rfl⟩ : ∃ k, n = k + 1 := ⟨n - 1, by omega⟩
  rw [patch_Apply, patch_Apply_top]
  have := patch_Apply_l4_spec n a p ha hp (by omega) n 0 0 [] (by omega) (by omega) (by omega) (by simp)
  simpa using this

theorem patch_change_spec (n : Nat) (x : den TAttr) (hn : 0 < n) : patch_change n x = some (chg x) := by
  obtain ⟨n, rfl⟩ : ∃ k, n = k + 1 := ⟨n - 1, by omega⟩
  rfl
theorem patch_Diff_l6_spec (n : Nat) (C : den TAttr → Option (den TChange)) (hC : ∀ x, C x = some (chg x)) (a b : den LAttr) (j : Nat) (c : den TAttr) (rest : den LAttr) (ha : a.length ≤ 4194304) (hj : j ≤ 4194304)
    (LS4 : den (LAttr) → den (.int .i64) → den (LAttr) → den (.int .i64) → den (.int .i64) → den (LChange) → Option (denR (.one (LChange))))
    (hLS : ∀ (i' : Nat) (out' : den LChange), i' ≤ a.length → out'.length ≤ i' + (j + 1) → LS4 a (i' : Int) b (b.length : Int) ((j + 1 : Nat) : Int) out' = some (out' ++ diffS eqv zv (a.drop i') rest)) :
    ∀ (m i : Nat) (out : den LChange), a.length - i < m → i ≤ a.length → out.length ≤ i + j →
      patch_Diff_l6 C n LS4 m a (i : Int) b (b.length : Int) (j : Int) out c = some (out ++ diffS eqv zv (a.drop i) (c :: rest)) := by
  intro m
  induction m with
  | zero => intro i out h; omega
  | succ m ih =>
    intro i out hm hi ho
    have b1 : ∀ y : den TChange, decide ((out.length + ([y] : List (den TChange)).length) * 56 ≤ 140737488355328) = true := fun y => decide_eq_true (by simp only [List.length_singleton]; omega)
    rw [patch_Diff_l6, patch_Diff_s6]
    by_cases h : i < a.length
    · have hi' : (i : Int) < (a.length : Int) := by omega
      rw [drop_getD h (dflt TAttr)]
      simp only [hi', decide_true, cond_true, Int.natCast_nonneg, Bool.and_self, Int.toNat_natCast, b1, hC, Option.bind_some]
      rw [w64s (n := i) (by omega), w64s (n := j) (by omega), diffS]
      by_cases g : (a.getD i (dflt TAttr)).1 < c.1
      · rw [if_pos g, decide_eq_true g, cond_true, ih (i + 1) _ (by omega) (by omega) (by simp; omega)]
        simp [del]
      · rw [if_neg g, decide_eq_false g, cond_false]
        by_cases g2 : (a.getD i (dflt TAttr)).1 = c.1
        · rw [if_pos g2, decide_eq_true g2, cond_true]
          cases hb : eqT TValue (a.getD i (dflt TAttr)).2.1 c.2.1
          · simp only [Bool.not_false, cond_true]
            rw [hLS _ _ (by omega) (by simp; omega), if_neg (by show ¬ (eqT TValue _ _ = true); rw [hb]; simp)]; simp
          · simp only [Bool.not_true, cond_false]
            rw [hLS _ _ (by omega) (by omega), if_pos hb]
        · rw [if_neg g2, decide_eq_false g2, cond_false, ← drop_getD h (dflt TAttr), hLS _ _ (by omega) (by simp; omega)]; simp
    · have hi' : ¬ (i : Int) < (a.length : Int) := by omega
      have e : a.drop i = [] := List.drop_eq_nil_of_le (by omega)
      simp only [hi', decide_false, cond_false, b1, cond_true, hC, Option.bind_some]
      rw [w64s (n := j) (by omega)]
      have hL := fun out' h => hLS i out' hi h
      rw [e] at hL ⊢
      rw [diffS, hL _ (by simp; omega)]; simp
theorem patch_Diff_l16_spec (n : Nat) (C : den TAttr → Option (den TChange)) (a : den LAttr) (ha : a.length ≤ 4194304) (N : Nat) (hN : N ≤ 8388608) : ∀ (m i : Nat) (out : den LChange), a.length - i < m → i ≤ a.length → out.length ≤ i + N →
      patch_Diff_l16 C n m a (a.length : Int) (i : Int) out = some (out ++ (a.drop i).map (del zv)) := by
  intro m
  induction m with
  | zero => intro i out h; omega
  | succ m ih =>
    intro i out hm hi ho
    have b1 : ∀ y : den TChange, decide ((out.length + ([y] : List (den TChange)).length) * 56 ≤ 140737488355328) = true := fun y => decide_eq_true (by simp only [List.length_singleton]; omega)
    rw [patch_Diff_l16, patch_Diff_s16]
    by_cases h : i < a.length
    · have hi' : (i : Int) < (a.length : Int) := by omega
      rw [drop_getD h (dflt TAttr)]
      simp only [hi', decide_true, cond_true, Int.natCast_nonneg, Bool.and_self, Int.toNat_natCast, b1]
      rw [w64s (n := i) (by omega), ih (i + 1) _ (by omega) (by omega) (by simp; omega)]
      simp [del]
    · have hi' : ¬ (i : Int) < (a.length : Int) := by omega
      have e : a.drop i = [] := List.drop_eq_nil_of_le (by omega)
      simp only [hi', decide_false, cond_false, e, List.map_nil, List.append_nil]
theorem patch_Diff_l4_spec (n : Nat) (C : den TAttr → Option (den TChange)) (hC : ∀ x, C x = some (chg x)) (a b : den LAttr) (ha : a.length ≤ 4194304) (hb : b.length ≤ 4194304) (hn : a.length < n) :
    ∀ (m i j : Nat) (out : den LChange), b.length - j < m → i ≤ a.length → j ≤ b.length → out.length ≤ i + j →
      patch_Diff_l4 C n m a (i : Int) b (b.length : Int) (j : Int) out = some (out ++ diffS eqv zv (a.drop i) (b.drop j)) := by
  intro m
  induction m with
  | zero => intro i j out h; omega
  | succ m ih =>
    intro i j out hm hi hj ho
    rw [patch_Diff_l4, patch_Diff_s4]
    by_cases h : j < b.length
    · have hj' : (j : Int) < (b.length : Int) := by omega
      simp only [hj', decide_true, cond_true, Int.natCast_nonneg, Bool.and_self, Int.toNat_natCast]
      rw [drop_getD h (dflt TAttr)]
      exact patch_Diff_l6_spec n C hC a b j _ _ ha (by omega) _ (fun i' out' h1 h2 => ih i' (j + 1) out' (by omega) h1 (by omega) h2) n i out (by omega) hi ho
    · have hj' : ¬ (j : Int) < (b.length : Int) := by omega
      have hi' : (i : Int) ≤ (a.length : Int) := by omega
      have e : b.drop j = [] := List.drop_eq_nil_of_le (by omega)
      simp only [hj', decide_false, cond_false, hi', decide_true, Int.natCast_nonneg, Bool.and_self, cond_true, Int.toNat_natCast, Int.le_refl, e, diffS]
      have hl : (a.drop i).length ≤ a.length := by rw [List.length_drop]; omega
      exact patch_Diff_l16_spec n C (a.drop i) (by omega) (i + j) (by omega) n 0 out (by omega) (by omega) (by omega)
theorem patch_Diff_spec (n : Nat) (a b : den LAttr) (ha : a.length ≤ 4194304) (hb : b.length ≤ 4194304) (hn : 4194306 ≤ n) : patch_Diff n a b = some (diffS eqv zv a b) := by
  obtain ⟨n, rfl⟩ : ∃ k, n = k + 1 := ⟨n - 1, by omega⟩
  rw [patch_Diff, patch_Diff_top]
  have := patch_Diff_l4_spec n (patch_change n) (fun x => patch_change_spec n x (by omega)) a b ha hb (by omega) n 0 0 [] (by omega) (by omega) (by omega) (by simp)
  simpa using this
theorem patch_Compose_l6_spec (n : Nat) (a p : den LChange) (j : Nat) (c : den TChange) (rest : den LChange) (ha : a.length ≤ 4194304) (hj : j ≤ 4194304)
    (LS4 : den (LChange) → den (.int .i64) → den (LChange) → den (.int .i64) → den (.int .i64) → den (LChange) → Option (denR (.one (LChange))))
    (hLS : ∀ (i' : Nat) (out' : den LChange), i' ≤ a.length → out'.length ≤ i' + (j + 1) → LS4 a (i' : Int) p (p.length : Int) ((j + 1 : Nat) : Int) out' = some (out' ++ compS (a.drop i') rest)) :
    ∀ (m i : Nat) (out : den LChange), a.length - i < m → i ≤ a.length → out.length ≤ i + j →
      patch_Compose_l6 n LS4 m a (i : Int) p (p.length : Int) (j : Int) out c = some (out ++ compS (a.drop i) (c :: rest)) := by
  intro m
  induction m with
  | zero => intro i out h; omega
  | succ m ih =>
    intro i out hm hi ho
    have b1 : ∀ y : den TChange, decide ((out.length + ([y] : List (den TChange)).length) * 56 ≤ 140737488355328) = true := fun y => decide_eq_true (by simp only [List.length_singleton]; omega)
    rw [patch_Compose_l6, patch_Compose_s6]
    by_cases h : i < a.length
    · have hi' : (i : Int) < (a.length : Int) := by omega
      rw [drop_getD h (dflt TChange)]
      simp only [hi', decide_true, cond_true, Int.natCast_nonneg, Bool.and_self, Int.toNat_natCast, b1]
      rw [w64s (n := i) (by omega), w64s (n := j) (by omega), compS]
      by_cases g : (a.getD i (dflt TChange)).1 ≤ c.1
      · rw [if_pos g, decide_eq_true g, cond_true]
        by_cases g2 : (a.getD i (dflt TChange)).1 < c.1
        · rw [if_pos g2, decide_eq_true g2, cond_true, ih (i + 1) _ (by omega) (by omega) (by simp; omega)]; simp
        · rw [if_neg g2, decide_eq_false g2, cond_false, ih (i + 1) _ (by omega) (by omega) (by omega)]
      · rw [if_neg g, decide_eq_false g, cond_false, ← drop_getD h (dflt TChange), hLS _ _ (by omega) (by simp; omega)]; simp
    · have hi' : ¬ (i : Int) < (a.length : Int) := by omega
      have e : a.drop i = [] := List.drop_eq_nil_of_le (by omega)
      simp only [hi', decide_false, cond_false, b1, cond_true]
      rw [w64s (n := j) (by omega)]
      have hL := fun out' h => hLS i out' hi h
      rw [e] at hL ⊢
      rw [compS, hL _ (by simp; omega)]; simp
theorem patch_Compose_l4_spec (n : Nat) (a p : den LChange) (ha : a.length ≤ 4194304) (hp : p.length ≤ 4194304) (hn : a.length < n) :
    ∀ (m i j : Nat) (out : den LChange), p.length - j < m → i ≤ a.length → j ≤ p.length → out.length ≤ i + j →
      patch_Compose_l4 n m a (i : Int) p (p.length : Int) (j : Int) out = some (out ++ compS (a.drop i) (p.drop j)) := by
  intro m
  induction m with
  | zero => intro i j out h; omega
  | succ m ih =>
    intro i j out hm hi hj ho
    rw [patch_Compose_l4, patch_Compose_s4]
    by_cases h : j < p.length
    · have hj' : (j : Int) < (p.length : Int) := by omega
      simp only [hj', decide_true, cond_true, Int.natCast_nonneg, Bool.and_self, Int.toNat_natCast]
      rw [drop_getD h (dflt TChange)]
      exact patch_Compose_l6_spec n a p j _ _ ha (by omega) _ (fun i' out' h1 h2 => ih i' (j + 1) out' (by omega) h1 (by omega) h2) n i out (by omega) hi ho
    · have hj' : ¬ (j : Int) < (p.length : Int) := by omega
      have hi' : (i : Int) ≤ (a.length : Int) := by omega
      have e : p.drop j = [] := List.drop_eq_nil_of_le (by omega)
      have b2 : decide ((out.length + (a.drop i).length) * 56 ≤ 140737488355328) = true := decide_eq_true (by rw [List.length_drop]; omega)
      simp only [hj', decide_false, cond_false, hi', decide_true, Int.natCast_nonneg, Bool.and_self, cond_true, Int.toNat_natCast, b2, Int.le_refl, e, compS]
theorem patch_Compose_spec (n : Nat) (a p : den LChange) (ha : a.length ≤ 4194304) (hp : p.length ≤ 4194304) (hn : 4194306 ≤ n) : patch_Compose n a p = some (compS a p) := by
  obtain ⟨n, rfl⟩ : ∃ k, n = k + 1 := ⟨n - 1, by omega⟩
  rw [patch_Compose, patch_Compose_top]
  have := patch_Compose_l4_spec n a p ha hp (by omega) n 0 0 [] (by omega) (by omega) (by omega) (by simp)
  simpa using this

theorem cmp_Compare_int_spec (n : Nat) (x y : Int) (hn : 2 ≤ n) : cmp_Compare_int n x y = some (if x < y then -1 else if y < x then 1 else 0) := by
  obtain ⟨n, rfl⟩ : ∃ k, n = k + 2 := ⟨n - 2, by omega⟩
  simp only [cmp_Compare_int, cmp_Compare_int_top, cmp_isNaN_int, cmp_isNaN_int_top, decide_true, Bool.not_true, Option.bind_some, cond_false]
  by_cases g : x < y
  · rw [if_pos g, decide_eq_true g]; rfl
  · rw [if_neg g, decide_eq_false g, cond_false]
    by_cases g2 : y < x
    · rw [if_pos g2, decide_eq_true g2]; rfl
    · rw [if_neg g2, decide_eq_false g2]; rfl
theorem attrs_find_1_spec (n : Nat) (x : den TAttr) (y : Int) (hn : 3 ≤ n) : attrs_find_1 n x y = some (if x.1 < y then -1 else if y < x.1 then 1 else 0) := by
  obtain ⟨n, rfl⟩ : ∃ k, n = k + 1 := ⟨n - 1, by omega⟩
  simp only [attrs_find_1, attrs_find_1_top, cmp_Compare_int_spec n _ _ (show 2 ≤ n by omega), Option.bind_some]
theorem slices_BinarySearchFunc_Attr_int__attrs_find_1_l3_spec (C : den TAttr → Int → Option Int) (hC : ∀ x y, C x y = some (if x.1 < y then -1 else if y < x.1 then 1 else 0)) (n : Nat) (x : den LAttr) (t : Int) (hx : x.length ≤ 4194304) (hs : Srt x) :
    ∀ (m i j : Nat), j - i < m → i ≤ j → j ≤ x.length → (∀ k, k < i → (x.getD k (dflt TAttr)).1 < t) → (∀ k, j ≤ k → k < x.length → t ≤ (x.getD k (dflt TAttr)).1) →
      ∃ q : Nat, q ≤ x.length ∧ (∀ k, k < q → (x.getD k (dflt TAttr)).1 < t) ∧ (∀ k, q ≤ k → k < x.length → t ≤ (x.getD k (dflt TAttr)).1) ∧
        slices_BinarySearchFunc_Attr_int__attrs_find_1_l3 C n m x t (x.length : Int) (i : Int) (j : Int) = some ((q : Int), decide (q < x.length ∧ (x.getD q (dflt TAttr)).1 = t)) := by
  intro m
  induction m with
  | zero => intro i j h; omega
  | succ m ih =>
    intro i j hm hij hj h1 h2
    rw [slices_BinarySearchFunc_Attr_int__attrs_find_1_l3, slices_BinarySearchFunc_Attr_int__attrs_find_1_s3, mid_eq (by omega)]
    by_cases h : i < j
    · have h' : (i : Int) < (j : Int) := by omega
      have hl : (i + j) / 2 < x.length := by omega
      have hl' : (((i + j) / 2 : Nat) : Int) < (x.length : Int) := by omega
      have hge : (0 : Int) ≤ (((i + j) / 2 : Nat) : Int) := Int.natCast_nonneg _
      simp only [h', decide_true, cond_true, hge, hl', Bool.and_self, Int.toNat_natCast, hC, Option.bind_some]
      by_cases g : (x.getD ((i + j) / 2) (dflt TAttr)).1 < t
      · rw [if_pos g, w64s (by omega)]
        simp only [show decide ((-1 : Int) < 0) = true from rfl, cond_true]
        refine ih ((i + j) / 2 + 1) j (by omega) (by omega) hj (fun k hk => ?_) h2
        by_cases e : k = (i + j) / 2
        · rw [e]; exact g
        · exact Int.lt_trans (srt_getD hs (dflt TAttr) (show k < (i + j) / 2 by omega) hl) g
      · have hd : decide ((if (x.getD ((i + j) / 2) (dflt TAttr)).1 < t then (-1 : Int) else if t < (x.getD ((i + j) / 2) (dflt TAttr)).1 then 1 else 0) < 0) = false := by
          rw [if_neg g]; split <;> rfl
        rw [hd, cond_false]
        have g0 : t ≤ (x.getD ((i + j) / 2) (dflt TAttr)).1 := Int.not_lt.1 g
        refine ih i ((i + j) / 2) (by omega) (by omega) (by omega) h1 (fun k hk hk2 => ?_)
        by_cases e : k = (i + j) / 2
        · rw [e]; exact g0
        · exact Int.le_of_lt (Int.lt_of_le_of_lt g0 (srt_getD hs (dflt TAttr) (show (i + j) / 2 < k by omega) hk2))
    · have h' : ¬ (i : Int) < (j : Int) := by omega
      obtain rfl : i = j := by omega
      simp only [h', decide_false, cond_false]
      refine ⟨i, hj, h1, h2, ?_⟩
      by_cases g : i < x.length
      · have g' : (i : Int) < (x.length : Int) := by omega
        simp only [g', decide_true, cond_true, Int.natCast_nonneg, Bool.and_self, Int.toNat_natCast, hC, Option.bind_some, g, true_and]
        have := h2 i (by omega) g
        by_cases e : (x.getD i (dflt TAttr)).1 = t
        · rw [if_neg (by rw [e]; exact Int.lt_irrefl _), if_neg (by rw [e]; exact Int.lt_irrefl _), decide_eq_true e]; rfl
        · have e1 : ¬ (x.getD i (dflt TAttr)).1 < t := Int.not_lt.2 this
          have e2 : t < (x.getD i (dflt TAttr)).1 := Int.not_le.1 fun h => e (Int.le_antisymm h this)
          rw [if_neg e1, if_pos e2, decide_eq_false e]; rfl
      · have g' : ¬ (i : Int) < (x.length : Int) := by omega
        simp only [g', decide_false, cond_false, g, false_and]
theorem attrs_find_spec (n : Nat) (x : den LAttr) (t : Int) (hx : x.length ≤ 4194304) (hs : Srt x) (hn : 4194310 ≤ n) :
      ∃ q : Nat, q ≤ x.length ∧ (∀ k, k < q → (x.getD k (dflt TAttr)).1 < t) ∧ (∀ k, q ≤ k → k < x.length → t ≤ (x.getD k (dflt TAttr)).1) ∧
        attrs_find n x t = some ((q : Int), decide (q < x.length ∧ (x.getD q (dflt TAttr)).1 = t)) := by
  obtain ⟨n, rfl⟩ : ∃ k, n = k + 2 := ⟨n - 2, by omega⟩
  obtain ⟨q, h1, h2, h3, h4⟩ := slices_BinarySearchFunc_Attr_int__attrs_find_1_l3_spec (attrs_find_1 n) (fun x y => attrs_find_1_spec n x y (by omega)) n x t hx hs n 0 x.length (by omega) (by omega) (by omega) (by omega) (by omega)
  refine ⟨q, h1, h2, h3, ?_⟩
  have e : slices_BinarySearchFunc_Attr_int__attrs_find_1 (n + 1) x t = some ((q : Int), decide (q < x.length ∧ (x.getD q (dflt TAttr)).1 = t)) := by
    rw [slices_BinarySearchFunc_Attr_int__attrs_find_1, slices_BinarySearchFunc_Attr_int__attrs_find_1_top]; exact h4
  rw [attrs_find, attrs_find_top, e]; rfl
noncomputable def getS (x : den LAttr) (t : Int) : den TValue × Bool := match find t x with
  | some v => (v.1, true)
  | none => (zv, false)
theorem attrs_Get_spec (n : Nat) (x : den LAttr) (t : Int) (hx : x.length ≤ 4194304) (hs : Srt x) (hn : 4194311 ≤ n) : attrs_Get n x t = some (getS x t) := by
  obtain ⟨n, rfl⟩ : ∃ k, n = k + 1 := ⟨n - 1, by omega⟩
  obtain ⟨q, h1, h2, h3, h4⟩ := attrs_find_spec n x t hx hs (by omega)
  rw [attrs_Get, attrs_Get_top, h4, Option.bind_some, getS]
  by_cases g : q < x.length ∧ (x.getD q (dflt TAttr)).1 = t
  · have g' : (q : Int) < (x.length : Int) := by omega
    rw [find_at (dflt TAttr) t x q (fun k hk => Int.ne_of_lt (h2 k hk)) g.1 g.2]
    simp only [decide_eq_true g, Bool.not_true, cond_false, Int.natCast_nonneg, g', decide_true, Bool.and_self, cond_true, Int.toNat_natCast]
  · rw [find_no (dflt TAttr) t x fun k hk => ?_]
    · simp only [decide_eq_false g, Bool.not_false, cond_true]
    · intro he
      rcases Nat.lt_trichotomy k q with e | e | e
      · exact Int.ne_of_lt (h2 k e) he
      · subst e; exact g ⟨hk, he⟩
      · have := srt_getD hs (dflt TAttr) e hk
        have h5 := h3 q (Nat.le_refl _) (by omega)
        rw [he] at this
        exact absurd this (Int.not_lt.2 h5)
theorem patch_Invert_l3_spec (C : den LAttr → Int → Option (den TValue × Bool)) (n : Nat) (a : den LAttr) (p : den LChange) (hC : ∀ t, C a t = some (getS a t)) (hp : p.length ≤ 4194304) :
    ∀ (m j : Nat) (out : den LChange), p.length - j < m → j ≤ p.length → out.length ≤ j →
      patch_Invert_l3 C n m a p (p.length : Int) (j : Int) out = some (out ++ invertS eqv zv a (p.drop j)) := by
  intro m
  induction m with
  | zero => intro j out h; omega
  | succ m ih =>
    intro j out hm hj ho
    have b1 : ∀ y : den TChange, decide ((out.length + ([y] : List (den TChange)).length) * 56 ≤ 140737488355328) = true := fun y => decide_eq_true (by simp only [List.length_singleton]; omega)
    rw [patch_Invert_l3, patch_Invert_s3]
    by_cases h : j < p.length
    · have h' : (j : Int) < (p.length : Int) := by omega
      rw [drop_getD h (dflt TChange)]
      have e : invertS eqv zv a (p.getD j (dflt TChange) :: p.drop (j + 1)) = inv1 eqv zv a (p.getD j (dflt TChange)) ++ invertS eqv zv a (p.drop (j + 1)) := by simp [invertS]
      simp only [h', decide_true, cond_true, Int.natCast_nonneg, Bool.and_self, Int.toNat_natCast, b1, hC, Option.bind_some, e]
      rw [w64s (n := j) (by omega), ih (j + 1) out (by omega) (by omega) (by omega)]
      have e1 : ∀ y : den TChange, patch_Invert_l3 C n m a p (p.length : Int) ((j + 1 : Nat) : Int) (out ++ [y]) = some ((out ++ [y]) ++ invertS eqv zv a (p.drop (j + 1))) := fun y => ih (j + 1) _ (by omega) (by omega) (by simp; omega)
      rw [e1, e1]
      unfold inv1
      rw [getS]
      cases hf : find (p.getD j (dflt TChange)).1 a with
      | none =>
        cases hg : (p.getD j (dflt TChange)).2.1 <;> simp [hg]
      | some v =>
        cases hg : (p.getD j (dflt TChange)).2.1
        · cases hv : eqT TValue v.1 (p.getD j (dflt TChange)).2.2.1
          · have hv' : eqv v.1 (p.getD j (dflt TChange)).2.2.1 = false := hv
            simp only [hg, hv, Bool.not_false, cond_true, cond_false, Bool.false_eq_true, false_or, hv', if_true, List.append_assoc]
          · have hv' : eqv v.1 (p.getD j (dflt TChange)).2.2.1 = true := hv
            simp only [hg, hv, Bool.not_false, Bool.not_true, cond_true, cond_false, Bool.false_eq_true, false_or, hv', Bool.true_eq_false, if_false, List.nil_append]
        · simp [hg]
    · have h' : ¬ (j : Int) < (p.length : Int) := by omega
      have e : p.drop j = [] := List.drop_eq_nil_of_le (by omega)
      simp only [h', decide_false, cond_false, e, invertS, List.flatMap_nil, List.append_nil]
theorem patch_Invert_spec (n : Nat) (a : den LAttr) (p : den LChange) (ha : a.length ≤ 4194304) (hp : p.length ≤ 4194304) (hs : Srt a) (hn : 4194312 ≤ n) : patch_Invert n a p = some (invertS eqv zv a p) := by
  obtain ⟨n, rfl⟩ : ∃ k, n = k + 1 := ⟨n - 1, by omega⟩
  rw [patch_Invert, patch_Invert_top]
  have := patch_Invert_l3_spec (attrs_Get n) n a p (fun t => attrs_Get_spec n a t ha hs (by omega)) hp n 0 [] (by omega) (by omega) (by simp)
  simpa using this
theorem ref05_Same_l4_spec (n : Nat) (a : den LAttr) (ha : a.length ≤ 4194304) : ∀ (m i : Nat), a.length - i < m → ref05_Same_l4 n m a a (i : Int) = some true := by
  intro m
  induction m with
  | zero => intro i h; omega
  | succ m ih =>
    intro i hm
    rw [ref05_Same_l4, ref05_Same_s4]
    by_cases h : i < a.length
    · have h' : (i : Int) < (a.length : Int) := by omega
      have e : eqT TAttr (a.getD i (dflt TAttr)) (a.getD i (dflt TAttr)) = true := (eqT_iff TAttr _ _ rfl).2 rfl
      simp only [h', decide_true, cond_true, Int.natCast_nonneg, Bool.and_self, Int.toNat_natCast, e, Bool.not_true, cond_false]
      rw [w64s (n := i) (by omega)]
      exact ih (i + 1) (by omega)
    · have h' : ¬ (i : Int) < (a.length : Int) := by omega
      simp only [h', decide_false, cond_false]
theorem ref05_Same_same (n : Nat) (a : den LAttr) (ha : a.length ≤ 4194304) (hn : 4194306 ≤ n) : ref05_Same n a a = some true := by
  obtain ⟨n, rfl⟩ : ∃ k, n = k + 1 := ⟨n - 1, by omega⟩
  rw [ref05_Same, ref05_Same_top]
  simp only [decide_true, Bool.not_true, cond_false]
  exact ref05_Same_l4_spec n a ha n 0 (by omega)
theorem slices_Equal_Change_l4_spec (n : Nat) (a : den LChange) (ha : a.length ≤ 4194304) : ∀ (m i : Nat), a.length - i < m → slices_Equal_Change_l4 n m a a (a.length : Int) (i : Int) = some true := by
  intro m
  induction m with
  | zero => intro i h; omega
  | succ m ih =>
    intro i hm
    rw [slices_Equal_Change_l4, slices_Equal_Change_s4]
    by_cases h : i < a.length
    · have h' : (i : Int) < (a.length : Int) := by omega
      have e : eqT TChange (a.getD i (dflt TChange)) (a.getD i (dflt TChange)) = true := (eqT_iff TChange _ _ rfl).2 rfl
      simp only [h', decide_true, cond_true, Int.natCast_nonneg, Bool.and_self, Int.toNat_natCast, e, Bool.not_true, cond_false]
      rw [w64s (n := i) (by omega)]
      exact ih (i + 1) (by omega)
    · have h' : ¬ (i : Int) < (a.length : Int) := by omega
      simp only [h', decide_false, cond_false]
theorem patch_Same_same (n : Nat) (a : den LChange) (ha : a.length ≤ 4194304) (hn : 4194307 ≤ n) : patch_Same n a a = some true := by
  obtain ⟨n, rfl⟩ : ∃ k, n = k + 2 := ⟨n - 2, by omega⟩
  have e : slices_Equal_Change (n + 1) a a = some true := by
    rw [slices_Equal_Change, slices_Equal_Change_top]
    simp only [decide_true, Bool.not_true, cond_false]
    exact slices_Equal_Change_l4_spec n a ha n 0 (by omega)
  rw [patch_Same, patch_Same_top, e]; rfl
theorem ref05_Rising_l2_spec (n : Nat) (a : den LAttr) (ha : a.length ≤ 4194304) : ∀ (m i : Nat), a.length - i < m → i ≤ a.length → (∀ k, k < i → k + 1 < a.length → (a.getD k (dflt TAttr)).1 < (a.getD (k + 1) (dflt TAttr)).1) →
    ref05_Rising_l2 n m a ((i + 1 : Nat) : Int) = some false ∨ ref05_Rising_l2 n m a ((i + 1 : Nat) : Int) = some true ∧ Srt a := by
  intro m
  induction m with
  | zero => intro i h; omega
  | succ m ih =>
    intro i hm hi hr
    rw [ref05_Rising_l2, ref05_Rising_s2]
    have hw : IntKind.wrap .i64 (((i + 1 : Nat) : Int) - 1) = (i : Int) := by
      have : ((i + 1 : Nat) : Int) - 1 = (i : Int) := by omega
      rw [this]; exact w64 (by omega) (by omega)
    rw [hw]
    by_cases h : i + 1 < a.length
    · have h' : ((i + 1 : Nat) : Int) < (a.length : Int) := by omega
      have h2 : (i : Int) < (a.length : Int) := by omega
      simp only [h', h2, decide_true, cond_true, Int.natCast_nonneg, Bool.and_self, Int.toNat_natCast]
      by_cases g : (a.getD (i + 1) (dflt TAttr)).1 ≤ (a.getD i (dflt TAttr)).1
      · exact .inl (by rw [decide_eq_true g, cond_true])
      · rw [decide_eq_false g, cond_false, w64s (n := i + 1) (by omega)]
        refine ih (i + 1) (by omega) (by omega) fun k hk hk2 => ?_
        by_cases e : k = i
        · subst e; exact Int.not_le.1 g
        · exact hr k (by omega) hk2
    · have h' : ¬ ((i + 1 : Nat) : Int) < (a.length : Int) := by omega
      simp only [h', decide_false, cond_false]
      exact .inr ⟨trivial, srt_of_getD (dflt TAttr) fun k hk => hr k (by omega) hk⟩
theorem ref05_Rising_spec (n : Nat) (a : den LAttr) (ha : a.length ≤ 4194304) (hn : 4194306 ≤ n) : ref05_Rising n a = some false ∨ ref05_Rising n a = some true ∧ Srt a := by
  obtain ⟨n, rfl⟩ : ∃ k, n = k + 1 := ⟨n - 1, by omega⟩
  rw [ref05_Rising, ref05_Rising_top]
  exact ref05_Rising_l2_spec n a ha n 0 (by omega) (by omega) (by omega)
theorem ref06_Rising_l2_spec (n : Nat) (a : den LChange) (ha : a.length ≤ 4194304) : ∀ (m i : Nat), a.length - i < m → i ≤ a.length → (∀ k, k < i → k + 1 < a.length → (a.getD k (dflt TChange)).1 < (a.getD (k + 1) (dflt TChange)).1) →
    ref06_Rising_l2 n m a ((i + 1 : Nat) : Int) = some false ∨ ref06_Rising_l2 n m a ((i + 1 : Nat) : Int) = some true ∧ Srt a := by
  intro m
  induction m with
  | zero => intro i h; omega
  | succ m ih =>
    intro i hm hi hr
    rw [ref06_Rising_l2, ref06_Rising_s2]
    have hw : IntKind.wrap .i64 (((i + 1 : Nat) : Int) - 1) = (i : Int) := by
      have : ((i + 1 : Nat) : Int) - 1 = (i : Int) := by omega
      rw [this]; exact w64 (by omega) (by omega)
    rw [hw]
    by_cases h : i + 1 < a.length
    · have h' : ((i + 1 : Nat) : Int) < (a.length : Int) := by omega
      have h2 : (i : Int) < (a.length : Int) := by omega
      simp only [h', h2, decide_true, cond_true, Int.natCast_nonneg, Bool.and_self, Int.toNat_natCast]
      by_cases g : (a.getD (i + 1) (dflt TChange)).1 ≤ (a.getD i (dflt TChange)).1
      · exact .inl (by rw [decide_eq_true g, cond_true])
      · rw [decide_eq_false g, cond_false, w64s (n := i + 1) (by omega)]
        refine ih (i + 1) (by omega) (by omega) fun k hk hk2 => ?_
        by_cases e : k = i
        · subst e; exact Int.not_le.1 g
        · exact hr k (by omega) hk2
    · have h' : ¬ ((i + 1 : Nat) : Int) < (a.length : Int) := by omega
      simp only [h', decide_false, cond_false]
      exact .inr ⟨trivial, srt_of_getD (dflt TChange) fun k hk => hr k (by omega) hk⟩
theorem ref06_Rising_spec (n : Nat) (a : den LChange) (ha : a.length ≤ 4194304) (hn : 4194306 ≤ n) : ref06_Rising n a = some false ∨ ref06_Rising n a = some true ∧ Srt a := by
  obtain ⟨n, rfl⟩ : ∃ k, n = k + 1 := ⟨n - 1, by omega⟩
  rw [ref06_Rising, ref06_Rising_top]
  exact ref06_Rising_l2_spec n a ha n 0 (by omega) (by omega) (by omega)

theorem law06_great_l12_some (n : Nat) (s : den LLAttr) (i : Nat) (LS8 : den (LLAttr) → den (.int .i64) → den (.int .i64) → den (.int .i64) → Option (denR (.one (.bool))))
    (hi : i < s.length) (hl : (s.getD i (dflt LAttr)).length ≤ 4194304) (t27 : Int) (t28 : Int) (hL : ∀ nt, ∃ b, LS8 s nt t27 (IntKind.wrap .i64 (t28 + 1)) = some b) :
    ∀ (m k : Nat) (nt : Int), (s.getD i (dflt LAttr)).length - k < m → ∃ b, law06_great_l12 n LS8 m s nt (i : Int) t27 t28 ((s.getD i (dflt LAttr)).length : Int) (k : Int) = some b := by
  intro m
  induction m with
  | zero => intro k nt h; omega
  | succ m ih =>
    intro k nt hm
    rw [law06_great_l12, law06_great_s12]
    have hi' : (i : Int) < (s.length : Int) := by omega
    by_cases h : k < (s.getD i (dflt LAttr)).length
    · have h' : (k : Int) < ((s.getD i (dflt LAttr)).length : Int) := by omega
      simp only [h', hi', decide_true, cond_true, Int.natCast_nonneg, Bool.and_self, Int.toNat_natCast]
      rw [w64s (n := k) (by omega)]
      exact ih _ _ (by omega)
    · have h' : ¬ (k : Int) < ((s.getD i (dflt LAttr)).length : Int) := by omega
      simp only [h', decide_false, cond_false]
      exact hL _
theorem law06_great_l8_some (n : Nat) (s : den LLAttr) (hs : s.length ≤ 4194304) (hl : ∀ x ∈ s, x.length ≤ 4194304) (hn : 4194305 ≤ n) :
    ∀ (m i : Nat) (nt : Int), s.length - i < m → ∃ b, law06_great_l8 n m s nt (s.length : Int) (i : Int) = some b := by
  intro m
  induction m with
  | zero => intro k nt h; omega
  | succ m ih =>
    intro i nt hm
    rw [law06_great_l8, law06_great_s8]
    by_cases h : i < s.length
    · have h' : (i : Int) < (s.length : Int) := by omega
      have hl' : (s.getD i (dflt LAttr)).length ≤ 4194304 := by
        refine hl _ ?_
        rw [List.getD_eq_getElem?_getD, List.getElem?_eq_getElem h]; exact List.getElem_mem h
      simp only [h', decide_true, cond_true, Int.natCast_nonneg, Bool.and_self, Int.toNat_natCast]
      exact law06_great_l12_some n s i _ h hl' _ _ (fun nt => by rw [w64s (n := i) (by omega)]; exact ih (i + 1) nt (by omega)) n 0 _ (by omega)
    · have h' : ¬ (i : Int) < (s.length : Int) := by omega
      simp only [h', decide_false, cond_false]
      exact ⟨_, rfl⟩
theorem law06_great_l3_some (n : Nat) (p : den LChange) (s : den LLAttr) (hp : p.length ≤ 4194304) (hs : s.length ≤ 4194304) (hl : ∀ x ∈ s, x.length ≤ 4194304) (hn : 4194305 ≤ n) :
    ∀ (m i : Nat) (nt : Int), p.length - i < m → ∃ b, law06_great_l3 n m p s nt (p.length : Int) (i : Int) = some b := by
  intro m
  induction m with
  | zero => intro k nt h; omega
  | succ m ih =>
    intro i nt hm
    rw [law06_great_l3, law06_great_s3]
    by_cases h : i < p.length
    · have h' : (i : Int) < (p.length : Int) := by omega
      simp only [h', decide_true, cond_true, Int.natCast_nonneg, Bool.and_self, Int.toNat_natCast]
      rw [w64s (n := i) (by omega)]
      exact ih (i + 1) _ (by omega)
    · have h' : ¬ (i : Int) < (p.length : Int) := by omega
      simp only [h', decide_false, cond_false]
      exact law06_great_l8_some n s hs hl hn n 0 nt (by omega)
theorem law06_great_some (n : Nat) (p : den LChange) (s : den LLAttr) (hp : p.length ≤ 4194304) (hs : s.length ≤ 4194304) (hl : ∀ x ∈ s, x.length ≤ 4194304) (hn : 4194306 ≤ n) : ∃ b, law06_great n p s = some b := by
  obtain ⟨n, rfl⟩ : ∃ k, n = k + 1 := ⟨n - 1, by omega⟩
  rw [law06_great, law06_great_top]
  exact law06_great_l3_some n p s hp hs hl (by omega) n 0 _ (by omega)

theorem known_at : law06_known 8388607 = some true := by kernel_rfl

section
variable {β : Type}
theorem abv_putK {k : Int} {x : Int × β} {l : List (Int × β)} (hx : k < x.1) (h : Abv k l) : Abv k (putK x l) := by
  induction l with
  | nil => exact abv_cons.2 ⟨hx, abv_nil⟩
  | cons y l ih =>
    obtain ⟨h1, h2⟩ := abv_cons.1 h
    unfold putK
    split
    · exact abv_cons.2 ⟨h1, ih h2⟩
    · split
      · exact abv_cons.2 ⟨hx, h2⟩
      · exact abv_cons.2 ⟨hx, h⟩
theorem srt_putK {x : Int × β} {l : List (Int × β)} (h : Srt l) : Srt (putK x l) := by
  induction l with
  | nil => exact srt_cons.2 ⟨abv_nil, srt_nil⟩
  | cons y l ih =>
    obtain ⟨h1, h2⟩ := srt_cons.1 h
    unfold putK
    split
    · rename_i g; exact srt_cons.2 ⟨abv_putK g h1, ih h2⟩
    · split
      · rename_i g; exact srt_cons.2 ⟨h1.mono (by omega), h2⟩
      · exact srt_cons.2 ⟨abv_cons.2 ⟨by omega, h1.mono (by omega)⟩, h⟩
theorem find_putK (k : Int) {x : Int × β} {l : List (Int × β)} (h : Srt l) : find k (putK x l) = if x.1 = k then some x.2 else find k l := by
  induction l with
  | nil => simp [putK, find]
  | cons y l ih =>
    obtain ⟨h1, h2⟩ := srt_cons.1 h
    unfold putK
    split
    · rename_i g
      simp only [find, ih h2]
      by_cases e : y.1 = k
      · rw [if_pos e, if_pos e, if_neg (by omega)]
      · rw [if_neg e, if_neg e]
    · split
      · rename_i g
        simp only [find]
        by_cases e : x.1 = k
        · rw [if_pos e, if_pos e]
        · rw [if_neg e, if_neg e, if_neg (by omega)]
      · simp only [find]
theorem len_putK {x : Int × β} {l : List (Int × β)} : l.length ≤ (putK x l).length ∧ (putK x l).length ≤ l.length + 1 := by
  induction l with
  | nil => simp [putK]
  | cons y l ih =>
    unfold putK
    split
    · simp only [List.length_cons]; omega
    · split <;> simp
theorem putK_at {x d : Int × β} : ∀ {l : List (Int × β)} {q : Nat}, q ≤ l.length → (∀ k, k < q → (l.getD k d).1 < x.1) → (∀ k, q ≤ k → k < l.length → x.1 ≤ (l.getD k d).1) →
    putK x l = if q < l.length ∧ (l.getD q d).1 = x.1 then l.set q x else l.take q ++ [x] ++ l.drop q
  | [], q, hq, _, _ => by
    obtain rfl : q = 0 := by simpa using hq
    simp [putK]
  | y :: l, 0, _, _, h2 => by
    have := h2 0 (by omega) (by simp)
    simp only [List.getD_cons_zero] at this ⊢
    unfold putK
    rw [if_neg (by omega)]
    by_cases e : y.1 = x.1
    · rw [if_pos e, if_pos ⟨by simp, e⟩]; rfl
    · rw [if_neg e, if_neg (fun h => e h.2)]; rfl
  | y :: l, q + 1, hq, h1, h2 => by
    have := h1 0 (by omega)
    simp only [List.getD_cons_zero] at this
    have ih := putK_at (x := x) (d := d) (l := l) (q := q) (by simpa using hq) (fun k hk => by have := h1 (k + 1) (by omega); simpa using this) (fun k hk hk2 => by have := h2 (k + 1) (by omega) (by simp; omega); simpa using this)
    unfold putK
    rw [if_pos this, ih]
    simp only [List.getD_cons_succ, List.length_cons, Nat.add_lt_add_iff_right]
    split <;> simp
/-- What is taken out. -/
def delK (t : Int) (l : List (Int × β)) : List (Int × β) := l.filter fun x => !decide (x.1 = t)
theorem find_delK (k t : Int) (l : List (Int × β)) : find k (delK t l) = if k = t then none else find k l := by
  have := find_filter_key (fun c => !decide (c = t)) k l
  unfold delK
  rw [this]
  by_cases e : k = t <;> simp [e]
theorem srt_filter {p : Int × β → Bool} {l : List (Int × β)} (h : Srt l) : Srt (l.filter p) := h.filter p
theorem srt_delK {t : Int} {l : List (Int × β)} (h : Srt l) : Srt (delK t l) := srt_filter h
theorem len_delK (t : Int) {l : List (Int × β)} (h : Srt l) : (delK t l).length + (if (find t l).isSome then 1 else 0) = l.length := by
  induction l with
  | nil => simp [delK, find]
  | cons y l ih =>
    obtain ⟨h1, h2⟩ := srt_cons.1 h
    by_cases e : y.1 = t
    · have hn : find t l = none := h1.find (by omega)
      have : delK t (y :: l) = l := by
        unfold delK
        rw [List.filter_cons, if_neg (by simp [e])]
        exact filter_find t l hn
      rw [this]; simp [find, e]
    · have := ih h2
      simp only [delK, List.filter_cons, find, if_neg e] at this ⊢
      rw [if_pos (by simp [e])]
      simp only [List.length_cons]
      omega
theorem find_mem {k : Int} {v : β} {l : List (Int × β)} (h : find k l = some v) : (k, v) ∈ l := by
  induction l with
  | nil => simp [find] at h
  | cons y l ih =>
    simp only [find] at h
    split at h
    · rename_i g; simp only [Option.some.injEq] at h; subst g; subst h; simp
    · exact List.mem_cons_of_mem _ (ih h)
theorem mem_find {x : Int × β} {l : List (Int × β)} (hs : Srt l) (h : x ∈ l) : find x.1 l = some x.2 := by
  induction l with
  | nil => simp at h
  | cons y l ih =>
    obtain ⟨h1, h2⟩ := srt_cons.1 hs
    rcases List.mem_cons.1 h with rfl | h
    · simp [find]
    · have := h1 x h
      simp only [find]; rw [if_neg (by omega)]; exact ih h2 h
end


theorem slices_Clone_Attr_spec (n : Nat) (l : den (.slice TAttr)) (hl : l.length ≤ 4194304) (hn : 0 < n) : slices_Clone_Attr n l = some (l, ()) := by
  obtain ⟨n, rfl⟩ : ∃ k, n = k + 1 := ⟨n - 1, by omega⟩
  rw [slices_Clone_Attr, decide_eq_true (show (0 + l.length) * 48 ≤ 140737488355328 by omega)]; rfl

theorem attrs_With_spec (n : Nat) (a : den LAttr) (x : den TAttr) (ha : a.length ≤ 4194303) (hs : Srt a) (hn : 4194320 ≤ n) : attrs_With n a x = some (putK x a) := by
  obtain ⟨n, rfl⟩ : ∃ k, n = k + 2 := ⟨n - 2, by omega⟩
  obtain ⟨q, h1, h2, h3, h4⟩ := attrs_find_spec (n + 1) a x.1 (by omega) hs (by omega)
  rw [attrs_With, attrs_With_top, h4, Option.bind_some, putK_at (d := dflt TAttr) h1 h2 h3]
  by_cases g : q < a.length ∧ (a.getD q (dflt TAttr)).1 = x.1
  · have g' : (q : Int) < (a.length : Int) := by omega
    simp only [decide_eq_true g, cond_true, slices_Clone_Attr_spec (n + 1) a (by omega) (by omega), Option.bind_some, g', Int.natCast_nonneg, decide_true, Bool.and_self, Int.toNat_natCast]
    rw [if_pos g]
  · have g' : (q : Int) ≤ (a.length : Int) := by omega
    simp only [decide_eq_false g, cond_false, slices_Clone_Attr_spec (n + 1) a (by omega) (by omega), Option.bind_some]
    rw [slices_Insert_Attr, decide_eq_true g', decide_eq_true (Int.natCast_nonneg q), decide_eq_true (show (a.length + [x].length) * 48 ≤ 140737488355328 by simp only [List.length_cons, List.length_nil]; omega), decide_eq_true (show 0 < [x].length by simp)]
    rw [if_neg g]
    rfl
theorem attrs_Without_1_spec (n : Nat) (x : den TAttr) (t : Int) (hn : 1 ≤ n) : attrs_Without_1 n x t = some (decide (x.1 = t)) := by
  obtain ⟨n, rfl⟩ : ∃ k, n = k + 1 := ⟨n - 1, by omega⟩
  rfl

theorem slices_IndexFunc_Attr__attrs_Without_1_l2_spec (C : den TAttr  → den (.int .i64) → Option Bool) (n : Nat) (s : den (.slice TAttr)) (t : den (.int .i64)) (d : den TAttr → Bool) (hC : ∀ x, C x t = some (d x)) (hs : s.length ≤ 4194304) :
    ∀ (m i : Nat), s.length - i < m → i ≤ s.length → (∀ x ∈ s.take i, d x = false) →
      (slices_IndexFunc_Attr__attrs_Without_1_l2 C n m s t (s.length : Int) (i : Int) = some (-1) ∧ ∀ x ∈ s, d x = false) ∨ ∃ k : Nat, slices_IndexFunc_Attr__attrs_Without_1_l2 C n m s t (s.length : Int) (i : Int) = some (k : Int) ∧ k < s.length ∧ (∀ x ∈ s.take k, d x = false) ∧ d (s.getD k (dflt TAttr)) = true := by
  intro m
  induction m with
  | zero => intro i h; omega
  | succ m ih =>
    intro i hm hi hp
    rw [slices_IndexFunc_Attr__attrs_Without_1_l2, slices_IndexFunc_Attr__attrs_Without_1_s2]
    by_cases h : i < s.length
    · have h' : (i : Int) < (s.length : Int) := by omega
      simp only [h', decide_true, cond_true, Int.natCast_nonneg, Bool.and_self, Int.toNat_natCast, hC, Option.bind_some]
      rw [w64s (n := i) (by omega)]
      cases g : d (s.getD i (dflt TAttr)) with
      | true => exact .inr ⟨i, rfl, h, hp, g⟩
      | false =>
        rw [cond_false]
        refine ih (i + 1) (by omega) (by omega) fun x hx => ?_
        rw [take_succ_getD h (dflt TAttr)] at hx
        rcases List.mem_append.1 hx with hx | hx
        · exact hp x hx
        · simp only [List.mem_singleton] at hx; rw [hx]; exact g
    · have h' : ¬ (i : Int) < (s.length : Int) := by omega
      simp only [h', decide_false, cond_false]
      refine .inl ⟨trivial, fun x hx => hp x ?_⟩
      rw [List.take_of_length_le (by omega)]; exact hx
theorem slices_IndexFunc_Attr__attrs_Without_1_spec (n : Nat) (s : den (.slice TAttr)) (t : den (.int .i64)) (d : den TAttr → Bool) (B : Nat) (hC : ∀ n, B ≤ n → ∀ x, attrs_Without_1 n x t = some (d x)) (hs : s.length ≤ 4194304) (hn : 4194310 + B ≤ n) :
    (slices_IndexFunc_Attr__attrs_Without_1 n s t = some (-1) ∧ ∀ x ∈ s, d x = false) ∨ ∃ k : Nat, slices_IndexFunc_Attr__attrs_Without_1 n s t = some (k : Int) ∧ k < s.length ∧ (∀ x ∈ s.take k, d x = false) ∧ d (s.getD k (dflt TAttr)) = true := by
  obtain ⟨n, rfl⟩ : ∃ k, n = k + 1 := ⟨n - 1, by omega⟩
  rw [slices_IndexFunc_Attr__attrs_Without_1, slices_IndexFunc_Attr__attrs_Without_1_top]
  exact slices_IndexFunc_Attr__attrs_Without_1_l2_spec (attrs_Without_1 n) n s t d (hC n (by omega)) hs n 0 (by omega) (by omega) (by simp)

theorem slices_DeleteFunc_Attr__attrs_Without_1_l5_spec (Cx : den (.slice TAttr)  → den (.int .i64) → Option Int) (C : den TAttr  → den (.int .i64) → Option Bool) (n : Nat) (s : den (.slice TAttr)) (t : den (.int .i64)) (d : den TAttr → Bool) (hC : ∀ x, C x t = some (d x)) (hs : s.length ≤ 4194304) :
    ∀ (m i j : Nat) (o : den (.slice TAttr)), s.length - j < m → i < j → j ≤ s.length → o.length = s.length → o.take i = (s.take j).filter (fun x => !d x) → o.drop j = s.drop j →
      slices_DeleteFunc_Attr__attrs_Without_1_l5 Cx C n m t (i : Int) (j : Int) o = some (s.filter (fun x => !d x), ((), ())) := by
  intro m
  induction m with
  | zero => intro i j o h; omega
  | succ m ih =>
    intro i j o hm hij hj hl h1 h2
    rw [slices_DeleteFunc_Attr__attrs_Without_1_l5, slices_DeleteFunc_Attr__attrs_Without_1_s5]
    by_cases h : j < s.length
    · have h' : (j : Int) < (o.length : Int) := by omega
      have hi' : (i : Int) < (o.length : Int) := by omega
      obtain ⟨e, hy, hno⟩ := shift_step (fun x => !d x) (dflt TAttr) s o i j hij h hl h1 h2
      simp only [h', hi', decide_true, cond_true, Int.natCast_nonneg, Bool.and_self, Int.toNat_natCast, hC, Option.bind_some]
      rw [w64s (n := i) (by omega), w64s (n := j) (by omega), e]
      cases g : d (s.getD j (dflt TAttr)) with
      | true =>
        obtain ⟨q1, q2⟩ := hno (by rw [g]; rfl)
        simp only [Bool.not_true, cond_false]
        exact ih i (j + 1) o (by omega) (by omega) (by omega) hl q1 q2
      | false =>
        obtain ⟨q1, q2⟩ := hy (by rw [g]; rfl)
        rw [e] at q1 q2
        simp only [Bool.not_false, cond_true]
        exact ih (i + 1) (j + 1) _ (by omega) (by omega) (by omega) (by rw [List.length_set]; exact hl) q1 q2
    · have h' : ¬ (j : Int) < (o.length : Int) := by omega
      have hi' : (i : Int) ≤ (o.length : Int) := by omega
      have hli : (o.take i).length = i := by rw [List.length_take]; omega
      have h3 : (i : Int) ≤ ((o.take i ++ List.replicate (o.length - i) (dflt TAttr)).length : Int) := by rw [List.length_append, hli]; omega
      simp only [h', decide_false, cond_false, hi', h3, decide_true, Int.natCast_nonneg, Bool.and_self, cond_true, Int.toNat_natCast]
      have e1 : (o.take i ++ List.replicate (o.length - i) (dflt TAttr)).take i = o.take i := by
        rw [List.take_append_of_le_length (by omega), List.take_of_length_le (by omega)]
      rw [e1, h1, List.take_of_length_le (by omega)]
theorem slices_DeleteFunc_Attr__attrs_Without_1_spec (n : Nat) (t : den (.int .i64)) (s : den (.slice TAttr)) (d : den TAttr → Bool) (B : Nat) (hC : ∀ n, B ≤ n → ∀ x, attrs_Without_1 n x t = some (d x)) (hs : s.length ≤ 4194304) (hn : 4194320 + B ≤ n) : slices_DeleteFunc_Attr__attrs_Without_1 n t s = some (s.filter (fun x => !d x), ((), ())) := by
  obtain ⟨n, rfl⟩ : ∃ k, n = k + 1 := ⟨n - 1, by omega⟩
  rw [slices_DeleteFunc_Attr__attrs_Without_1, slices_DeleteFunc_Attr__attrs_Without_1_top]
  rcases slices_IndexFunc_Attr__attrs_Without_1_spec n s t d B hC hs (by omega) with ⟨h1, h2⟩ | ⟨k, h1, h2, h3, h4⟩
  · rw [h1, Option.bind_some, notAny h2]; rfl
  · rw [h1, Option.bind_some]
    have hne : ¬ (k : Int) = -1 := by omega
    rw [decide_eq_false hne, cond_false, w64s (n := k) (by omega)]
    refine slices_DeleteFunc_Attr__attrs_Without_1_l5_spec _ (attrs_Without_1 n) n s t d (hC n (by omega)) hs n k (k + 1) s (by omega) (by omega) (by omega) rfl ?_ rfl
    rw [take_succ_getD h2 (dflt TAttr), List.filter_append, notAny h3]
    simp only [List.filter_cons, h4, Bool.not_true, Bool.false_eq_true, if_false, List.filter_nil, List.append_nil]

theorem attrs_Without_spec (n : Nat) (a : den LAttr) (t : Int) (ha : a.length ≤ 4194304) (hn : 4194330 ≤ n) : attrs_Without n a t = some (delK t a) := by
  obtain ⟨n, rfl⟩ : ∃ k, n = k + 1 := ⟨n - 1, by omega⟩
  rw [attrs_Without, attrs_Without_top, slices_Clone_Attr_spec n a ha (by omega), Option.bind_some, slices_DeleteFunc_Attr__attrs_Without_1_spec n t a (fun x => decide (x.1 = t)) 1 (fun n hn x => attrs_Without_1_spec n x t hn) ha (by omega)]; rfl

theorem slices_Equal_Attr_l4_spec (n : Nat) : ∀ (m i : Nat) (a b : den (.slice TAttr)), a.length = b.length → a.length ≤ 4194304 → a.length - i < m → slices_Equal_Attr_l4 n m a b (a.length : Int) (i : Int) = some (decide (a.drop i = b.drop i)) := by
  intro m
  induction m with
  | zero => intro i a b h0 h1 h; omega
  | succ m ih =>
    intro i a b hl ha hm
    rw [slices_Equal_Attr_l4, slices_Equal_Attr_s4]
    by_cases h : i < a.length
    · have h' : (i : Int) < (a.length : Int) := by omega
      have h2 : (i : Int) < (b.length : Int) := by omega
      simp only [h', h2, decide_true, cond_true, Int.natCast_nonneg, Bool.and_self, Int.toNat_natCast]
      rw [w64s (n := i) (by omega), ih (i + 1) a b hl ha (by omega)]
      rw [drop_getD h (dflt TAttr), drop_getD (show i < b.length by omega) (dflt TAttr)]
      cases g : eqT TAttr (a.getD i (dflt TAttr)) (b.getD i (dflt TAttr)) with
      | true => rw [(eqT_iff TAttr _ _ rfl).1 g]; simp
      | false =>
        have : ¬ a.getD i (dflt TAttr) = b.getD i (dflt TAttr) := fun e => by rw [(eqT_iff TAttr _ _ rfl).2 e] at g; cases g
        rw [Bool.not_false, cond_true]
        simp only [List.cons.injEq, this, false_and, decide_false]
    · have h' : ¬ (i : Int) < (a.length : Int) := by omega
      rw [List.drop_eq_nil_of_le (by omega), List.drop_eq_nil_of_le (show b.length ≤ i by omega)]
      simp only [h', decide_false, cond_false, decide_true]
theorem slices_Equal_Attr_spec (n : Nat) (a b : den (.slice TAttr)) (ha : a.length ≤ 4194304) (hn : 4194307 ≤ n) : slices_Equal_Attr n a b = some (decide (a = b)) := by
  obtain ⟨n, rfl⟩ : ∃ k, n = k + 1 := ⟨n - 1, by omega⟩
  rw [slices_Equal_Attr, slices_Equal_Attr_top]
  by_cases h : a.length = b.length
  · rw [show decide ((a.length : Int) = (b.length : Int)) = true from decide_eq_true (by omega)]
    have := slices_Equal_Attr_l4_spec n n 0 a b h ha (by omega)
    simp only [Bool.not_true, cond_false]
    simpa using this
  · rw [show decide ((a.length : Int) = (b.length : Int)) = false from decide_eq_false (by omega), decide_eq_false (fun e => h (by rw [e]))]; rfl

theorem attrs_Same_spec (n : Nat) (a b : den LAttr) (ha : a.length ≤ 4194304) (hn : 4194310 ≤ n) : attrs_Same n a b = some (decide (a = b)) := by
  obtain ⟨n, rfl⟩ : ∃ k, n = k + 1 := ⟨n - 1, by omega⟩
  rw [attrs_Same, attrs_Same_top, slices_Equal_Attr_spec n a b ha (by omega)]; rfl
theorem attrs_Copy_spec (n : Nat) (a : den LAttr) (ha : a.length ≤ 4194304) (hn : 2 ≤ n) : attrs_Copy n a = some a := by
  obtain ⟨n, rfl⟩ : ∃ k, n = k + 1 := ⟨n - 1, by omega⟩
  rw [attrs_Copy, attrs_Copy_top, slices_Clone_Attr_spec n a ha (by omega)]; rfl
end Go.Proofs.YtecangnmmbcbkaaDoor.Ab
