/- Plain laws of this seat's printed functions (picked). -/
import Derived.Test.YtlcphnmkkilefaaDoorPR
import Derived.Test.YtlcphnmkkilefaaDoorQD
set_option linter.unusedVariables false
set_option linter.unusedSimpArgs false
set_option maxRecDepth 10000
namespace Go.Proofs.YtlcphnmkkilefaaDoor.Ab
open Go Classical
theorem rules_at_1_spec (n : Nat) (x : den TChange) (y : Int) (hn : 3 ≤ n) : rules_at_1 n x y = some (if x.1 < y then -1 else if y < x.1 then 1 else 0) := by
  obtain ⟨n, rfl⟩ : ∃ k, n = k + 1 := ⟨n - 1, by omega⟩
  simp only [rules_at_1, rules_at_1_top, cmp_Compare_int_spec n _ _ (show 2 ≤ n by omega), Option.bind_some]
theorem slices_BinarySearchFunc_Change_int__rules_at_1_l3_spec (C : den TChange → Int → Option Int) (hC : ∀ x y, C x y = some (if x.1 < y then -1 else if y < x.1 then 1 else 0)) (n : Nat) (x : den LChange) (t : Int) (hx : x.length ≤ 4194304) (hs : Srt x) :
    ∀ (m i j : Nat), j - i < m → i ≤ j → j ≤ x.length → (∀ k, k < i → (x.getD k (dflt TChange)).1 < t) → (∀ k, j ≤ k → k < x.length → t ≤ (x.getD k (dflt TChange)).1) →
      ∃ q : Nat, q ≤ x.length ∧ (∀ k, k < q → (x.getD k (dflt TChange)).1 < t) ∧ (∀ k, q ≤ k → k < x.length → t ≤ (x.getD k (dflt TChange)).1) ∧
        slices_BinarySearchFunc_Change_int__rules_at_1_l3 C n m x t (x.length : Int) (i : Int) (j : Int) = some ((q : Int), decide (q < x.length ∧ (x.getD q (dflt TChange)).1 = t)) := by
  intro m
  induction m with
  | zero => intro i j h; omega
  | succ m ih =>
    intro i j hm hij hj h1 h2
    rw [slices_BinarySearchFunc_Change_int__rules_at_1_l3, slices_BinarySearchFunc_Change_int__rules_at_1_s3, mid_eq (by omega)]
    by_cases h : i < j
    · have h' : (i : Int) < (j : Int) := by omega
      have hl : (i + j) / 2 < x.length := by omega
      have hl' : (((i + j) / 2 : Nat) : Int) < (x.length : Int) := by omega
      have hge : (0 : Int) ≤ (((i + j) / 2 : Nat) : Int) := Int.natCast_nonneg _
      simp only [h', decide_true, cond_true, hge, hl', Bool.and_self, Int.toNat_natCast, hC, Option.bind_some]
      by_cases g : (x.getD ((i + j) / 2) (dflt TChange)).1 < t
      · rw [if_pos g, w64s (by omega)]
        simp only [show decide ((-1 : Int) < 0) = true from rfl, cond_true]
        refine ih ((i + j) / 2 + 1) j (by omega) (by omega) hj (fun k hk => ?_) h2
        by_cases e : k = (i + j) / 2
        · rw [e]; exact g
        · exact Int.lt_trans (srt_getD hs (dflt TChange) (show k < (i + j) / 2 by omega) hl) g
      · have hd : decide ((if (x.getD ((i + j) / 2) (dflt TChange)).1 < t then (-1 : Int) else if t < (x.getD ((i + j) / 2) (dflt TChange)).1 then 1 else 0) < 0) = false := by
          rw [if_neg g]; split <;> rfl
        rw [hd, cond_false]
        have g0 : t ≤ (x.getD ((i + j) / 2) (dflt TChange)).1 := Int.not_lt.1 g
        refine ih i ((i + j) / 2) (by omega) (by omega) (by omega) h1 (fun k hk hk2 => ?_)
        by_cases e : k = (i + j) / 2
        · rw [e]; exact g0
        · exact Int.le_of_lt (Int.lt_of_le_of_lt g0 (srt_getD hs (dflt TChange) (show (i + j) / 2 < k by omega) hk2))
    · have h' : ¬ (i : Int) < (j : Int) := by omega
      obtain rfl : i = j := by omega
      simp only [h', decide_false, cond_false]
      refine ⟨i, hj, h1, h2, ?_⟩
      by_cases g : i < x.length
      · have g' : (i : Int) < (x.length : Int) := by omega
        simp only [g', decide_true, cond_true, Int.natCast_nonneg, Bool.and_self, Int.toNat_natCast, hC, Option.bind_some, g, true_and]
        have := h2 i (by omega) g
        by_cases e : (x.getD i (dflt TChange)).1 = t
        · rw [if_neg (by rw [e]; exact Int.lt_irrefl _), if_neg (by rw [e]; exact Int.lt_irrefl _), decide_eq_true e]; rfl
        · have e1 : ¬ (x.getD i (dflt TChange)).1 < t := Int.not_lt.2 this
          have e2 : t < (x.getD i (dflt TChange)).1 := Int.not_le.1 fun h => e (Int.le_antisymm h this)
          rw [if_neg e1, if_pos e2, decide_eq_false e]; rfl
      · have g' : ¬ (i : Int) < (x.length : Int) := by omega
        simp only [g', decide_false, cond_false, g, false_and]
theorem rules_at_spec (n : Nat) (x : den LChange) (t : Int) (hx : x.length ≤ 4194304) (hs : Srt x) (hn : 4194310 ≤ n) :
      ∃ q : Nat, q ≤ x.length ∧ (∀ k, k < q → (x.getD k (dflt TChange)).1 < t) ∧ (∀ k, q ≤ k → k < x.length → t ≤ (x.getD k (dflt TChange)).1) ∧
        rules_at n x t = some ((q : Int), decide (q < x.length ∧ (x.getD q (dflt TChange)).1 = t)) := by
  obtain ⟨n, rfl⟩ : ∃ k, n = k + 2 := ⟨n - 2, by omega⟩
  obtain ⟨q, h1, h2, h3, h4⟩ := slices_BinarySearchFunc_Change_int__rules_at_1_l3_spec (rules_at_1 n) (fun x y => rules_at_1_spec n x y (by omega)) n x t hx hs n 0 x.length (by omega) (by omega) (by omega) (by omega) (by omega)
  refine ⟨q, h1, h2, h3, ?_⟩
  have e : slices_BinarySearchFunc_Change_int__rules_at_1 (n + 1) x t = some ((q : Int), decide (q < x.length ∧ (x.getD q (dflt TChange)).1 = t)) := by
    rw [slices_BinarySearchFunc_Change_int__rules_at_1, slices_BinarySearchFunc_Change_int__rules_at_1_top]; exact h4
  rw [rules_at, rules_at_top, e]; rfl
abbrev goneC (o : Int) : den TChange := (o, (true, (((0 : Int), ((0 : Int), ((0 : Int), ((⟨#[]⟩ : ByteArray), ())))), ())))
noncomputable def stepC (out : den LChange) (o : Int) : Option (den LChange) := match find o out with
  | some v => if v.1 = true then some out else none
  | none => some (putK (goneC o) out)
noncomputable def innerC : List Int → den LChange → Option (den LChange)
  | [], out => some out
  | o :: r, out => (stepC out o).bind (innerC r)
noncomputable def outerC (G : Int → List Int) : den LChange → den LChange → Option (den LChange)
  | [], out => some out
  | c :: p, out => if c.2.1 = true then outerC G p out else (innerC (G c.1) out).bind (outerC G p)
def resC : Option (den LChange) → den LChange × Int
  | none => ([], 3)
  | some o => (o, 0)
theorem srt_stepC {out out' : den LChange} {o : Int} (h : Srt out) (e : stepC out o = some out') : Srt out' ∧ out'.length ≤ out.length + 1 := by
  unfold stepC at e
  split at e
  · split at e
    · simp only [Option.some.injEq] at e; subst e; exact ⟨h, by omega⟩
    · cases e
  · simp only [Option.some.injEq] at e; subst e; exact ⟨srt_putK h, len_putK.2⟩
theorem Complete_g7_spec (N : Nat) (hN : 4194400 ≤ N) (C1 : den LChange → Option (denS (⟨.row 41 (TChange), []⟩ : Sig))) (C2 : den PSchema → Int → Option (den Li64))
    (LS3 : den (PSchema) → den (LChange) → den (.int .i64) → den (.int .i64) → den (LChange) → Option (denS (⟨.rowv 57 (TChange) (.int .i64), []⟩ : Sig))) (s : den PSchema) (p : den LChange) (t16 t17 : Int) :
    ∀ (r : List Int) (out : den LChange), Srt out → out.length + r.length ≤ 4194000 → rules_Complete_g7 C1 C2 (rules_at N) (slices_Insert_Change N) LS3 r s p t16 t17 out = match innerC r out with
      | none => some (([], 3), ())
      | some out' => LS3 s p t16 (IntKind.wrap .i64 (t17 + (1 : Int))) out'
  | [], out, _, _ => rfl
  | o :: r, out, hs, hl => by
    have hl' : out.length + (r.length + 1) ≤ 4194000 := hl
    have ih := fun out h1 h2 => Complete_g7_spec N hN C1 C2 LS3 s p t16 t17 r out h1 h2
    obtain ⟨q, h1, h2, h3, h4⟩ := rules_at_spec N out o (by omega) hs (by omega)
    simp only [rules_Complete_g7, h4, Option.bind_some, innerC]
    by_cases g : q < out.length ∧ (out.getD q (dflt TChange)).1 = o
    · have hf : find o out = some (out.getD q (dflt TChange)).2 := find_at (dflt TChange) o out q (fun k hk he => by have := h2 k hk; rw [he] at this; exact absurd this (Int.lt_irrefl _)) g.1 g.2
      have g' : (decide ((0 : Int) ≤ (q : Int)) && decide ((q : Int) < (out.length : Int))) = true := by rw [decide_eq_true (show (q : Int) < (out.length : Int) by omega), decide_eq_true (Int.natCast_nonneg q)]; rfl
      rw [decide_eq_true g]
      simp only [cond_true, g', Int.toNat_natCast, stepC, hf]
      cases hg : (out.getD q (dflt TChange)).2.1 with
      | false => simp
      | true => simp only [Bool.not_true, cond_false, if_true, Option.bind_some]; exact ih out hs (by omega)
    · have hf : find o out = none := by
        refine find_no (dflt TChange) o out fun k hk he => ?_
        rcases Nat.lt_trichotomy k q with c | c | c
        · have := h2 k c; rw [he] at this; exact absurd this (Int.lt_irrefl _)
        · subst c; exact g ⟨hk, he⟩
        · have h5 := h3 q (Nat.le_refl _) (by omega)
          have h6 := srt_getD hs (dflt TChange) c hk
          rw [he] at h6
          exact absurd (Int.lt_of_le_of_lt h5 h6) (Int.lt_irrefl _)
      rw [decide_eq_false g]
      simp only [Bool.not_false, cond_true, cond_false, stepC, hf, Option.bind_some]
      have hi : slices_Insert_Change N (q : Int) out [goneC o] = some (putK (goneC o) out, ((), ((), ()))) := by
        obtain ⟨N, rfl⟩ : ∃ m, N = m + 1 := ⟨N - 1, by omega⟩
        rw [slices_Insert_Change, decide_eq_true (show (q : Int) ≤ (out.length : Int) by omega), decide_eq_true (Int.natCast_nonneg q), decide_eq_true (show (out.length + [goneC o].length) * 56 ≤ 140737488355328 by simp only [List.length_cons, List.length_nil]; omega), decide_eq_true (show 0 < [goneC o].length by simp)]
        rw [putK_at (d := dflt TChange) h1 (fun k hk => h2 k hk) (fun k hk hk2 => h3 k hk hk2), if_neg g]
        rfl
      rw [hi]
      simp only [Option.bind_some]
      have hlp := (len_putK (x := goneC o) (l := out)).2
      exact ih _ (srt_putK hs) (by omega)
theorem srt_innerC : ∀ {r : List Int} {out out' : den LChange}, Srt out → innerC r out = some out' → Srt out' ∧ out'.length ≤ out.length + r.length
  | [], out, out', h, e => by simp only [innerC, Option.some.injEq] at e; subst e; exact ⟨h, by simp⟩
  | o :: r, out, out', h, e => by
    simp only [innerC] at e
    cases h1 : stepC out o with
    | none => rw [h1] at e; cases e
    | some o1 =>
      rw [h1, Option.bind_some] at e
      obtain ⟨a, b⟩ := srt_stepC h h1
      obtain ⟨c, d⟩ := srt_innerC a e
      exact ⟨c, by simp only [List.length_cons]; omega⟩
theorem len_groupK (l : List (den KeyT)) (i : Int) : (groupK l i).length ≤ l.length := by
  unfold groupK
  split
  · simp
  · split
    · simp
    · rw [List.length_map]
      exact Nat.le_trans (List.length_filter_le _ _) (len_sortK l)
theorem Complete_l3_spec (N : Nat) (hN : 4194400 ≤ N) (C1 : den LChange → Option (denS (⟨.row 41 (TChange), []⟩ : Sig))) (l : List (den KeyT)) (hk : l.length ≤ 64) (p : den LChange) (hp : p.length ≤ 60000) :
    ∀ (m i : Nat) (out : den LChange), p.length - i < m → i ≤ p.length → Srt out → out.length + (p.length - i) * 64 ≤ 4194000 →
      rules_Complete_l3 C1 (Schema_Group N) (rules_at N) (slices_Insert_Change N) N m (schK l) p (p.length : Int) (i : Int) out = some (resC (outerC (groupK l) (p.drop i) out), ())
  | 0, i, out, h, _, _, _ => by omega
  | m + 1, i, out, h, hi, hs, hl => by
    show rules_Complete_s3 _ _ _ _ _ _ _ _ _ _ _ = _
    unfold rules_Complete_s3
    rcases Nat.lt_or_ge i p.length with c | c
    · have bw : IntKind.i64.wrap ((i : Int) + (1 : Int)) = ((i + 1 : Nat) : Int) := w64s (by omega)
      have ih := fun out h1 h2 => Complete_l3_spec N hN C1 l hk p hp m (i + 1) out (by omega) (by omega) h1 h2
      rw [decide_eq_true (show (i : Int) < (p.length : Int) by omega), decide_eq_true (Int.natCast_nonneg i), drop_getD c (dflt TChange)]
      simp only [Bool.and_self, cond_true, Int.toNat_natCast, outerC, bw]
      cases hg : (p.getD i (dflt TChange)).2.1 with
      | true =>
        simp only [cond_true, if_true]
        exact ih out hs (by omega)
      | false =>
        simp only [cond_false, Bool.false_eq_true, if_false]
        rw [Schema_Group_spec N l _ (by omega) (by omega)]
        simp only [Option.bind_some]
        have hgl := len_groupK l (p.getD i (dflt TChange)).1
        have h7 := rules_Complete_l7_list C1 (Schema_Group N) (rules_at N) (slices_Insert_Change N) N (rules_Complete_l3 C1 (Schema_Group N) (rules_at N) (slices_Insert_Change N) N m) N 0 (schK l) p (p.length : Int) (i : Int) (groupK l (p.getD i (dflt TChange)).1) out (by omega) (by omega) (by omega)
        rw [show ((0 : Nat) : Int) = 0 from rfl] at h7
        refine Eq.trans h7 ?_
        rw [List.drop_zero, Complete_g7_spec N hN _ _ _ _ _ _ _ _ out hs (by omega)]
        cases hin : innerC (groupK l (p.getD i (dflt TChange)).1) out with
        | none => rfl
        | some out' =>
          obtain ⟨a, b⟩ := srt_innerC hs hin
          simp only [Option.bind_some, bw]
          exact ih out' a (by omega)
    · rw [decide_eq_false (show ¬ (i : Int) < (p.length : Int) by omega), List.drop_eq_nil_of_le c]
      rfl

theorem slices_Clone_Change_spec (n : Nat) (l : den (.slice TChange)) (hl : l.length ≤ 4194304) (hn : 0 < n) : slices_Clone_Change n l = some (l, ()) := by
  obtain ⟨n, rfl⟩ : ∃ k, n = k + 1 := ⟨n - 1, by omega⟩
  rw [slices_Clone_Change, decide_eq_true (show (0 + l.length) * 56 ≤ 140737488355328 by omega)]; rfl

theorem rules_Complete_spec (n : Nat) (hn : 4194500 ≤ n) (l : List (den KeyT)) (hk : l.length ≤ 64) (p : den LChange) (hp : p.length ≤ 60000) (hs : Srt p) : rules_Complete n (schK l) p = some (resC (outerC (groupK l) p p), ()) := by
  obtain ⟨n, rfl⟩ : ∃ m, n = m + 1 := ⟨n - 1, by omega⟩
  rw [rules_Complete, rules_Complete_top, slices_Clone_Change_spec n p (by omega) (by omega), Option.bind_some]
  have h := Complete_l3_spec n (by omega) (slices_Clone_Change n) l hk p hp n 0 p (by omega) (by omega) hs (by omega)
  exact h
theorem rules_hold_spec (n : Nat) (hn : 1 ≤ n) (a b c : Int) : rules_hold n a b c = some (min (max a b) c) := by
  obtain ⟨n, rfl⟩ : ∃ m, n = m + 1 := ⟨n - 1, by omega⟩
  simp only [rules_hold, rules_hold_top]
  congr 1
  by_cases h : (a : Int) < b
  · rw [decide_eq_true h, cond_true, Int.max_eq_right (Int.le_of_lt h)]
    by_cases h2 : (c : Int) < b
    · rw [decide_eq_true h2, cond_true, Int.min_eq_right (Int.le_of_lt h2)]
    · rw [decide_eq_false h2, cond_false, Int.min_eq_left (Int.not_lt.1 h2)]
  · rw [decide_eq_false h, cond_false, Int.max_eq_left (Int.not_lt.1 h)]
    by_cases h2 : (c : Int) < a
    · rw [decide_eq_true h2, cond_true, Int.min_eq_right (Int.le_of_lt h2)]
    · rw [decide_eq_false h2, cond_false, Int.min_eq_left (Int.not_lt.1 h2)]
end Go.Proofs.YtlcphnmkkilefaaDoor.Ab
