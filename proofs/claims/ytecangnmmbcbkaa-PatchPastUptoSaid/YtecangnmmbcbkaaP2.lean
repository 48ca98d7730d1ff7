/- What the seat's functions compute: Apply, Diff, Compose, Invert, Get, Same, Rising, great, as plain laws. -/
import Derived.Test.YtecangnmmbcbkaaG0
import Derived.Test.YtecangnmmbcbkaaP1
set_option linter.unusedVariables false
set_option linter.unusedSimpArgs false
set_option maxRecDepth 10000
namespace Go.Proofs.Ytecangnmmbcbkaa.Ab
open Go
noncomputable abbrev zv : den Y3 := (0, (0, (0, ((⟨#[]⟩ : ByteArray), ()))))
noncomputable abbrev eqv : den Y3 → den Y3 → Bool := eqT Y3
theorem eqv_iff (u v : den Y3) : eqv u v = true ↔ u = v := eqT_iff Y3 u v rfl

theorem f13_l6_spec (n : Nat) (a : den Y8) (p : den Y10) (j : Nat) (c : den Y6) (rest : den Y10) (ha : a.length ≤ 4194304) (hj : j ≤ 4194304)
    (LS4 : den (Y8) → den (.int .i64) → den (Y10) → den (.int .i64) → den (.int .i64) → den (Y8) → Option (denR (.one (Y8))))
    (hLS : ∀ (i' : Nat) (out' : den Y8), i' ≤ a.length → out'.length ≤ i' + (j + 1) → LS4 a (i' : Int) p (p.length : Int) ((j + 1 : Nat) : Int) out' = some (out' ++ applyS (a.drop i') rest)) :
    ∀ (m i : Nat) (out : den Y8), a.length - i < m → i ≤ a.length → out.length ≤ i + j →
      f13_l6 n LS4 m a (i : Int) p (p.length : Int) (j : Int) out c = some (out ++ applyS (a.drop i) (c :: rest)) := by
  intro m
  induction m with
  | zero => intro i out h; omega
  | succ m ih =>
    intro i out hm hi ho
    have b1 : ∀ y : den Y7, decide ((out.length + ([y] : List (den Y7)).length) * 48 ≤ 140737488355328) = true := fun y => decide_eq_true (by simp only [List.length_singleton]; omega)
    rw [f13_l6, f13_s6]
    by_cases h : i < a.length
    · have hi' : (i : Int) < (a.length : Int) := by omega
      rw [drop_getD h (dflt Y7)]
      simp only [hi', decide_true, cond_true, Int.natCast_nonneg, Bool.and_self, Int.toNat_natCast, b1]
      rw [w64s (n := i) (by omega), w64s (n := j) (by omega), applyS]
      by_cases g : (a.getD i (dflt Y7)).1 < c.1
      · rw [if_pos g, decide_eq_true g, cond_true, ih (i + 1) (out ++ [a.getD i (dflt Y7)]) (by omega) (by omega) (by simp; omega)]
        simp
      · rw [if_neg g, decide_eq_false g, cond_false]
        by_cases g2 : (a.getD i (dflt Y7)).1 = c.1
        · rw [if_pos g2, decide_eq_true g2, cond_true]
          unfold put
          cases hb : c.2.1
          · simp only [Bool.not_false, cond_true]
            rw [hLS _ _ (by omega) (by simp; omega)]; simp
          · simp only [Bool.not_true, cond_false]
            rw [hLS _ _ (by omega) (by omega)]; simp
        · rw [if_neg g2, decide_eq_false g2, cond_false]
          rw [← drop_getD h (dflt Y7)]
          unfold put
          cases hb : c.2.1
          · simp only [Bool.not_false, cond_true]
            rw [hLS _ _ (by omega) (by simp; omega)]; simp
          · simp only [Bool.not_true, cond_false]
            rw [hLS _ _ (by omega) (by omega)]; simp
    · have hi' : ¬ (i : Int) < (a.length : Int) := by omega
      have e : a.drop i = [] := List.drop_eq_nil_of_le (by omega)
      simp only [hi', decide_false, cond_false, b1, cond_true]
      rw [w64s (n := j) (by omega)]
      have hL := fun out' h => hLS i out' hi h
      rw [e] at hL ⊢
      rw [applyS]
      unfold put
      cases hb : c.2.1
      · simp only [Bool.not_false, cond_true]
        rw [hL _ (by simp; omega)]; simp
      · simp only [Bool.not_true, cond_false]
        rw [hL _ (by omega)]; simp
theorem f13_l4_spec (n : Nat) (a : den Y8) (p : den Y10) (ha : a.length ≤ 4194304) (hp : p.length ≤ 4194304) (hn : a.length < n) :
    ∀ (m i j : Nat) (out : den Y8), p.length - j < m → i ≤ a.length → j ≤ p.length → out.length ≤ i + j →
      f13_l4 n m a (i : Int) p (p.length : Int) (j : Int) out = some (out ++ applyS (a.drop i) (p.drop j)) := by
  intro m
  induction m with
  | zero => intro i j out h; omega
  | succ m ih =>
    intro i j out hm hi hj ho
    rw [f13_l4, f13_s4]
    by_cases h : j < p.length
    · have hj' : (j : Int) < (p.length : Int) := by omega
      simp only [hj', decide_true, cond_true, Int.natCast_nonneg, Bool.and_self, Int.toNat_natCast]
      rw [drop_getD h (dflt Y6)]
      exact f13_l6_spec n a p j _ _ ha (by omega) _ (fun i' out' h1 h2 => ih i' (j + 1) out' (by omega) h1 (by omega) h2) n i out (by omega) hi ho
    · have hj' : ¬ (j : Int) < (p.length : Int) := by omega
      have hi' : (i : Int) ≤ (a.length : Int) := by omega
      have e : p.drop j = [] := List.drop_eq_nil_of_le (by omega)
      have b2 : decide ((out.length + (a.drop i).length) * 48 ≤ 140737488355328) = true := decide_eq_true (by rw [List.length_drop]; omega)
      simp only [hj', decide_false, cond_false, hi', decide_true, Int.natCast_nonneg, Bool.and_self, cond_true, Int.toNat_natCast, b2, Int.le_refl, e, applyS]
theorem f13_spec (n : Nat) (a : den Y8) (p : den Y10) (ha : a.length ≤ 4194304) (hp : p.length ≤ 4194304) (hn : 4194306 ≤ n) : f13 n a p = some (applyS a p) := by
  obtain ⟨n, rfl⟩ : ∃ k, n = k + 1 := ⟨n - 1, by omega⟩
  rw [f13, f13_top]
  have := f13_l4_spec n a p ha hp (by omega) n 0 0 [] (by omega) (by omega) (by omega) (by simp)
  simpa using this

theorem f28_spec (n : Nat) (x : den Y7) (hn : 0 < n) : f28 n x = some (chg x) := by
  obtain ⟨n, rfl⟩ : ∃ k, n = k + 1 := ⟨n - 1, by omega⟩
  rfl
theorem f15_l6_spec (n : Nat) (C : den Y7 → Option (den Y6)) (hC : ∀ x, C x = some (chg x)) (a b : den Y8) (j : Nat) (c : den Y7) (rest : den Y8) (ha : a.length ≤ 4194304) (hj : j ≤ 4194304)
    (LS4 : den (Y8) → den (.int .i64) → den (Y8) → den (.int .i64) → den (.int .i64) → den (Y10) → Option (denR (.one (Y10))))
    (hLS : ∀ (i' : Nat) (out' : den Y10), i' ≤ a.length → out'.length ≤ i' + (j + 1) → LS4 a (i' : Int) b (b.length : Int) ((j + 1 : Nat) : Int) out' = some (out' ++ diffS eqv zv (a.drop i') rest)) :
    ∀ (m i : Nat) (out : den Y10), a.length - i < m → i ≤ a.length → out.length ≤ i + j →
      f15_l6 C n LS4 m a (i : Int) b (b.length : Int) (j : Int) out c = some (out ++ diffS eqv zv (a.drop i) (c :: rest)) := by
  intro m
  induction m with
  | zero => intro i out h; omega
  | succ m ih =>
    intro i out hm hi ho
    have b1 : ∀ y : den Y6, decide ((out.length + ([y] : List (den Y6)).length) * 56 ≤ 140737488355328) = true := fun y => decide_eq_true (by simp only [List.length_singleton]; omega)
    rw [f15_l6, f15_s6]
    by_cases h : i < a.length
    · have hi' : (i : Int) < (a.length : Int) := by omega
      rw [drop_getD h (dflt Y7)]
      simp only [hi', decide_true, cond_true, Int.natCast_nonneg, Bool.and_self, Int.toNat_natCast, b1, hC, Option.bind_some]
      rw [w64s (n := i) (by omega), w64s (n := j) (by omega), diffS]
      by_cases g : (a.getD i (dflt Y7)).1 < c.1
      · rw [if_pos g, decide_eq_true g, cond_true, ih (i + 1) _ (by omega) (by omega) (by simp; omega)]
        simp [del]
      · rw [if_neg g, decide_eq_false g, cond_false]
        by_cases g2 : (a.getD i (dflt Y7)).1 = c.1
        · rw [if_pos g2, decide_eq_true g2, cond_true]
          cases hb : eqT Y3 (a.getD i (dflt Y7)).2.1 c.2.1
          · simp only [Bool.not_false, cond_true]
            rw [hLS _ _ (by omega) (by simp; omega), if_neg (by show ¬ (eqT Y3 _ _ = true); rw [hb]; simp)]; simp
          · simp only [Bool.not_true, cond_false]
            rw [hLS _ _ (by omega) (by omega), if_pos hb]
        · rw [if_neg g2, decide_eq_false g2, cond_false, ← drop_getD h (dflt Y7), hLS _ _ (by omega) (by simp; omega)]; simp
    · have hi' : ¬ (i : Int) < (a.length : Int) := by omega
      have e : a.drop i = [] := List.drop_eq_nil_of_le (by omega)
      simp only [hi', decide_false, cond_false, b1, cond_true, hC, Option.bind_some]
      rw [w64s (n := j) (by omega)]
      have hL := fun out' h => hLS i out' hi h
      rw [e] at hL ⊢
      rw [diffS, hL _ (by simp; omega)]; simp
theorem f15_l16_spec (n : Nat) (C : den Y7 → Option (den Y6)) (a : den Y8) (ha : a.length ≤ 4194304) (N : Nat) (hN : N ≤ 8388608) : ∀ (m i : Nat) (out : den Y10), a.length - i < m → i ≤ a.length → out.length ≤ i + N →
      f15_l16 C n m a (a.length : Int) (i : Int) out = some (out ++ (a.drop i).map (del zv)) := by
  intro m
  induction m with
  | zero => intro i out h; omega
  | succ m ih =>
    intro i out hm hi ho
    have b1 : ∀ y : den Y6, decide ((out.length + ([y] : List (den Y6)).length) * 56 ≤ 140737488355328) = true := fun y => decide_eq_true (by simp only [List.length_singleton]; omega)
    rw [f15_l16, f15_s16]
    by_cases h : i < a.length
    · have hi' : (i : Int) < (a.length : Int) := by omega
      rw [drop_getD h (dflt Y7)]
      simp only [hi', decide_true, cond_true, Int.natCast_nonneg, Bool.and_self, Int.toNat_natCast, b1]
      rw [w64s (n := i) (by omega), ih (i + 1) _ (by omega) (by omega) (by simp; omega)]
      simp [del]
    · have hi' : ¬ (i : Int) < (a.length : Int) := by omega
      have e : a.drop i = [] := List.drop_eq_nil_of_le (by omega)
      simp only [hi', decide_false, cond_false, e, List.map_nil, List.append_nil]
theorem f15_l4_spec (n : Nat) (C : den Y7 → Option (den Y6)) (hC : ∀ x, C x = some (chg x)) (a b : den Y8) (ha : a.length ≤ 4194304) (hb : b.length ≤ 4194304) (hn : a.length < n) :
    ∀ (m i j : Nat) (out : den Y10), b.length - j < m → i ≤ a.length → j ≤ b.length → out.length ≤ i + j →
      f15_l4 C n m a (i : Int) b (b.length : Int) (j : Int) out = some (out ++ diffS eqv zv (a.drop i) (b.drop j)) := by
  intro m
  induction m with
  | zero => intro i j out h; omega
  | succ m ih =>
    intro i j out hm hi hj ho
    rw [f15_l4, f15_s4]
    by_cases h : j < b.length
    · have hj' : (j : Int) < (b.length : Int) := by omega
      simp only [hj', decide_true, cond_true, Int.natCast_nonneg, Bool.and_self, Int.toNat_natCast]
      rw [drop_getD h (dflt Y7)]
      exact f15_l6_spec n C hC a b j _ _ ha (by omega) _ (fun i' out' h1 h2 => ih i' (j + 1) out' (by omega) h1 (by omega) h2) n i out (by omega) hi ho
    · have hj' : ¬ (j : Int) < (b.length : Int) := by omega
      have hi' : (i : Int) ≤ (a.length : Int) := by omega
      have e : b.drop j = [] := List.drop_eq_nil_of_le (by omega)
      simp only [hj', decide_false, cond_false, hi', decide_true, Int.natCast_nonneg, Bool.and_self, cond_true, Int.toNat_natCast, Int.le_refl, e, diffS]
      have hl : (a.drop i).length ≤ a.length := by rw [List.length_drop]; omega
      exact f15_l16_spec n C (a.drop i) (by omega) (i + j) (by omega) n 0 out (by omega) (by omega) (by omega)
theorem f15_spec (n : Nat) (a b : den Y8) (ha : a.length ≤ 4194304) (hb : b.length ≤ 4194304) (hn : 4194306 ≤ n) : f15 n a b = some (diffS eqv zv a b) := by
  obtain ⟨n, rfl⟩ : ∃ k, n = k + 1 := ⟨n - 1, by omega⟩
  rw [f15, f15_top]
  have := f15_l4_spec n (f28 n) (fun x => f28_spec n x (by omega)) a b ha hb (by omega) n 0 0 [] (by omega) (by omega) (by omega) (by simp)
  simpa using this
end Go.Proofs.Ytecangnmmbcbkaa.Ab
