/- What the seat's functions compute: Apply, Diff, Compose, Invert, Get, Same, Rising, great, as plain laws. -/
import Derived.Test.YtecangnmmbcbkaaG
import Derived.Test.YtecangnmmbcbkaaP1
set_option linter.unusedVariables false
set_option linter.unusedSimpArgs false
set_option maxRecDepth 10000
namespace Go.Proofs.Ytecangnmmbcbkaa.Ab
open Go
noncomputable abbrev zv : den TValue := (0, (0, (0, ((⟨#[]⟩ : ByteArray), ()))))
noncomputable abbrev eqv : den TValue → den TValue → Bool := eqT TValue
theorem eqv_iff (u v : den TValue) : eqv u v = true ↔ u = v := eqT_iff TValue u v rfl

theorem patch_Apply_l6_spec (n : Nat) (a : den LAttr) (p : den LChange) (j : Nat) (c : den TChange) (rest : den LChange) (ha : a.length ≤ 4194304) (hj : j ≤ 4194304)
    (LS4 : den (LAttr) → den (.int .i64) → den (LChange) → den (.int .i64) → den (.int .i64) → den (LAttr) → Option (denR (.one (LAttr))))
    (hLS : ∀ (i' : Nat) (out' : den LAttr), i' ≤ a.length → out'.length ≤ i' + (j + 1) → LS4 a (i' : Int) p (p.length : Int) ((j + 1 : Nat) : Int) out' = some (out' ++ applyS (a.drop i') rest)) :
    ∀ (m i : Nat) (out : den LAttr), a.length - i < m → i ≤ a.length → out.length ≤ i + j →
      patch_Apply_l6 n LS4 m a (i : Int) p (p.length : Int) (j : Int) out c = some (out ++ applyS (a.drop i) (c :: rest)) := by
  intro m
  induction m with
  | zero => intro i out h; omega
  | succ m ih =>
    intro i out hm hi ho
    have b1 : ∀ y : den TAttr, decide ((out.length + ([y] : List (den TAttr)).length) * 48 ≤ 140737488355328) = true := fun y => decide_eq_true (by simp only [List.length_singleton]; omega)
    rw [patch_Apply_l6, patch_Apply_s6]
    by_cases h : i < a.length
    · have hi' : (i : Int) < (a.length : Int) := by omega
      rw [drop_getD h (dflt TAttr)]
      simp only [hi', decide_true, cond_true, Int.natCast_nonneg, Bool.and_self, Int.toNat_natCast, b1]
      rw [w64s (n := i) (by omega), w64s (n := j) (by omega), applyS]
      by_cases g : (a.getD i (dflt TAttr)).1 < c.1
      · rw [if_pos g, decide_eq_true g, cond_true, ih (i + 1) (out ++ [a.getD i (dflt TAttr)]) (by omega) (by omega) (by simp; omega)]
        simp
      · rw [if_neg g, decide_eq_false g, cond_false]
        by_cases g2 : (a.getD i (dflt TAttr)).1 = c.1
        · rw [if_pos g2, decide_eq_true g2, cond_true]
          unfold put
          cases hb : c.2.1
          · simp only [Bool.not_false, cond_true]
            rw [hLS _ _ (by omega) (by simp; omega)]; simp
          · simp only [Bool.not_true, cond_false]
            rw [hLS _ _ (by omega) (by omega)]; simp
        · rw [if_neg g2, decide_eq_false g2, cond_false]
          rw [← drop_getD h (dflt TAttr)]
          unfold put
          cases hb : c.2.1
          · simp only [Bool.not_false, cond_true]
            rw [hLS _ _ (by omega) (by simp; omega)]; simp
          · simp only [Bool.not_true, cond_false]
            rw [hLS _ _ (by omega) (by omega)]; simp
    · have hi' : ¬ (i : Int) < (a.length : Int) := by omega
      have e : a.drop i = [] := List.drop_eq_nil_of_le (by omega)
      simp only [hi', decide_false, cond_false, b1, cond_true]
      rw [w64s (n := j) (by omega)]
      have hL := fun out' h => hLS i out' hi h
      rw [e] at hL ⊢
      rw [applyS]
      unfold put
      cases hb : c.2.1
      · simp only [Bool.not_false, cond_true]
        rw [hL _ (by simp; omega)]; simp
      · simp only [Bool.not_true, cond_false]
        rw [hL _ (by omega)]; simp
theorem patch_Apply_l4_spec (n : Nat) (a : den LAttr) (p : den LChange) (ha : a.length ≤ 4194304) (hp : p.length ≤ 4194304) (hn : a.length < n) :
    ∀ (m i j : Nat) (out : den LAttr), p.length - j < m → i ≤ a.length → j ≤ p.length → out.length ≤ i + j →
      patch_Apply_l4 n m a (i : Int) p (p.length : Int) (j : Int) out = some (out ++ applyS (a.drop i) (p.drop j)) := by
  intro m
  induction m with
  | zero => intro i j out h; omega
  | succ m ih =>
    intro i j out hm hi hj ho
    rw [patch_Apply_l4, patch_Apply_s4]
    by_cases h : j < p.length
    · have hj' : (j : Int) < (p.length : Int) := by omega
      simp only [hj', decide_true, cond_true, Int.natCast_nonneg, Bool.and_self, Int.toNat_natCast]
      rw [drop_getD h (dflt TChange)]
      exact patch_Apply_l6_spec n a p j _ _ ha (by omega) _ (fun i' out' h1 h2 => ih i' (j + 1) out' (by omega) h1 (by omega) h2) n i out (by omega) hi ho
    · have hj' : ¬ (j : Int) < (p.length : Int) := by omega
      have hi' : (i : Int) ≤ (a.length : Int) := by omega
      have e : p.drop j = [] := List.drop_eq_nil_of_le (by omega)
      have b2 : decide ((out.length + (a.drop i).length) * 48 ≤ 140737488355328) = true := decide_eq_true (by rw [List.length_drop]; omega)
      simp only [hj', decide_false, cond_false, hi', decide_true, Int.natCast_nonneg, Bool.and_self, cond_true, Int.toNat_natCast, b2, Int.le_refl, e, applyS]
theorem patch_Apply_spec (n : Nat) (a : den LAttr) (p : den LChange) (ha : a.length ≤ 4194304) (hp : p.length ≤ 4194304) (hn : 4194306 ≤ n) : patch_Apply n a p = some (applyS a p) := by
  obtain ⟨n, rfl⟩ : ∃ k, n = k + 1 := ⟨n - 1, by omega⟩
  rw [patch_Apply, patch_Apply_top]
  have := patch_Apply_l4_spec n a p ha hp (by omega) n 0 0 [] (by omega) (by omega) (by omega) (by simp)
  simpa using this

theorem patch_change_spec (n : Nat) (x : den TAttr) (hn : 0 < n) : patch_change n x = some (chg x) := by
  obtain ⟨n, rfl⟩ : ∃ k, n = k + 1 := ⟨n - 1, by omega⟩
  rfl
theorem patch_Diff_l6_spec (n : Nat) (C : den TAttr → Option (den TChange)) (hC : ∀ x, C x = some (chg x)) (a b : den LAttr) (j : Nat) (c : den TAttr) (rest : den LAttr) (ha : a.length ≤ 4194304) (hj : j ≤ 4194304)
    (LS4 : den (LAttr) → den (.int .i64) → den (LAttr) → den (.int .i64) → den (.int .i64) → den (LChange) → Option (denR (.one (LChange))))
    (hLS : ∀ (i' : Nat) (out' : den LChange), i' ≤ a.length → out'.length ≤ i' + (j + 1) → LS4 a (i' : Int) b (b.length : Int) ((j + 1 : Nat) : Int) out' = some (out' ++ diffS eqv zv (a.drop i') rest)) :
    ∀ (m i : Nat) (out : den LChange), a.length - i < m → i ≤ a.length → out.length ≤ i + j →
      patch_Diff_l6 C n LS4 m a (i : Int) b (b.length : Int) (j : Int) out c = some (out ++ diffS eqv zv (a.drop i) (c :: rest)) := by
  intro m
  induction m with
  | zero => intro i out h; omega
  | succ m ih =>
    intro i out hm hi ho
    have b1 : ∀ y : den TChange, decide ((out.length + ([y] : List (den TChange)).length) * 56 ≤ 140737488355328) = true := fun y => decide_eq_true (by simp only [List.length_singleton]; omega)
    rw [patch_Diff_l6, patch_Diff_s6]
    by_cases h : i < a.length
    · have hi' : (i : Int) < (a.length : Int) := by omega
      rw [drop_getD h (dflt TAttr)]
      simp only [hi', decide_true, cond_true, Int.natCast_nonneg, Bool.and_self, Int.toNat_natCast, b1, hC, Option.bind_some]
      rw [w64s (n := i) (by omega), w64s (n := j) (by omega), diffS]
      by_cases g : (a.getD i (dflt TAttr)).1 < c.1
      · rw [if_pos g, decide_eq_true g, cond_true, ih (i + 1) _ (by omega) (by omega) (by simp; omega)]
        simp [del]
      · rw [if_neg g, decide_eq_false g, cond_false]
        by_cases g2 : (a.getD i (dflt TAttr)).1 = c.1
        · rw [if_pos g2, decide_eq_true g2, cond_true]
          cases hb : eqT TValue (a.getD i (dflt TAttr)).2.1 c.2.1
          · simp only [Bool.not_false, cond_true]
            rw [hLS _ _ (by omega) (by simp; omega), if_neg (by show ¬ (eqT TValue _ _ = true); rw [hb]; simp)]; simp
          · simp only [Bool.not_true, cond_false]
            rw [hLS _ _ (by omega) (by omega), if_pos hb]
        · rw [if_neg g2, decide_eq_false g2, cond_false, ← drop_getD h (dflt TAttr), hLS _ _ (by omega) (by simp; omega)]; simp
    · have hi' : ¬ (i : Int) < (a.length : Int) := by omega
      have e : a.drop i = [] := List.drop_eq_nil_of_le (by omega)
      simp only [hi', decide_false, cond_false, b1, cond_true, hC, Option.bind_some]
      rw [w64s (n := j) (by omega)]
      have hL := fun out' h => hLS i out' hi h
      rw [e] at hL ⊢
      rw [diffS, hL _ (by simp; omega)]; simp
theorem patch_Diff_l16_spec (n : Nat) (C : den TAttr → Option (den TChange)) (a : den LAttr) (ha : a.length ≤ 4194304) (N : Nat) (hN : N ≤ 8388608) : ∀ (m i : Nat) (out : den LChange), a.length - i < m → i ≤ a.length → out.length ≤ i + N →
      patch_Diff_l16 C n m a (a.length : Int) (i : Int) out = some (out ++ (a.drop i).map (del zv)) := by
  intro m
  induction m with
  | zero => intro i out h; omega
  | succ m ih =>
    intro i out hm hi ho
    have b1 : ∀ y : den TChange, decide ((out.length + ([y] : List (den TChange)).length) * 56 ≤ 140737488355328) = true := fun y => decide_eq_true (by simp only [List.length_singleton]; omega)
    rw [patch_Diff_l16, patch_Diff_s16]
    by_cases h : i < a.length
    · have hi' : (i : Int) < (a.length : Int) := by omega
      rw [drop_getD h (dflt TAttr)]
      simp only [hi', decide_true, cond_true, Int.natCast_nonneg, Bool.and_self, Int.toNat_natCast, b1]
      rw [w64s (n := i) (by omega), ih (i + 1) _ (by omega) (by omega) (by simp; omega)]
      simp [del]
    · have hi' : ¬ (i : Int) < (a.length : Int) := by omega
      have e : a.drop i = [] := List.drop_eq_nil_of_le (by omega)
      simp only [hi', decide_false, cond_false, e, List.map_nil, List.append_nil]
theorem patch_Diff_l4_spec (n : Nat) (C : den TAttr → Option (den TChange)) (hC : ∀ x, C x = some (chg x)) (a b : den LAttr) (ha : a.length ≤ 4194304) (hb : b.length ≤ 4194304) (hn : a.length < n) :
    ∀ (m i j : Nat) (out : den LChange), b.length - j < m → i ≤ a.length → j ≤ b.length → out.length ≤ i + j →
      patch_Diff_l4 C n m a (i : Int) b (b.length : Int) (j : Int) out = some (out ++ diffS eqv zv (a.drop i) (b.drop j)) := by
  intro m
  induction m with
  | zero => intro i j out h; omega
  | succ m ih =>
    intro i j out hm hi hj ho
    rw [patch_Diff_l4, patch_Diff_s4]
    by_cases h : j < b.length
    · have hj' : (j : Int) < (b.length : Int) := by omega
      simp only [hj', decide_true, cond_true, Int.natCast_nonneg, Bool.and_self, Int.toNat_natCast]
      rw [drop_getD h (dflt TAttr)]
      exact patch_Diff_l6_spec n C hC a b j _ _ ha (by omega) _ (fun i' out' h1 h2 => ih i' (j + 1) out' (by omega) h1 (by omega) h2) n i out (by omega) hi ho
    · have hj' : ¬ (j : Int) < (b.length : Int) := by omega
      have hi' : (i : Int) ≤ (a.length : Int) := by omega
      have e : b.drop j = [] := List.drop_eq_nil_of_le (by omega)
      simp only [hj', decide_false, cond_false, hi', decide_true, Int.natCast_nonneg, Bool.and_self, cond_true, Int.toNat_natCast, Int.le_refl, e, diffS]
      have hl : (a.drop i).length ≤ a.length := by rw [List.length_drop]; omega
      exact patch_Diff_l16_spec n C (a.drop i) (by omega) (i + j) (by omega) n 0 out (by omega) (by omega) (by omega)
theorem patch_Diff_spec (n : Nat) (a b : den LAttr) (ha : a.length ≤ 4194304) (hb : b.length ≤ 4194304) (hn : 4194306 ≤ n) : patch_Diff n a b = some (diffS eqv zv a b) := by
  obtain ⟨n, rfl⟩ : ∃ k, n = k + 1 := ⟨n - 1, by omega⟩
  rw [patch_Diff, patch_Diff_top]
  have := patch_Diff_l4_spec n (patch_change n) (fun x => patch_change_spec n x (by omega)) a b ha hb (by omega) n 0 0 [] (by omega) (by omega) (by omega) (by simp)
  simpa using this
end Go.Proofs.Ytecangnmmbcbkaa.Ab
