/- Plain laws of this seat's printed functions (picked). -/
import Derived.Test.YtecangnmmbcbkaaDoorPK
set_option linter.unusedVariables false
set_option linter.unusedSimpArgs false
set_option maxRecDepth 10000
namespace Go.Proofs.YtecangnmmbcbkaaDoor.Ab
open Go Classical
theorem patch_Less_1_1_spec (n : Nat) (x y : den TChange) (hn : 0 < n) : patch_Less_1_1 n x y = some (decide (x.1 = y.1)) := by
  obtain ⟨n, rfl⟩ : ∃ k, n = k + 1 := ⟨n - 1, by omega⟩
  rfl
theorem slices_IndexFunc_Change__patch_Less_1_1_l2_spec (C : den TChange → den TChange → Option Bool) (hC : ∀ x y, C x y = some (decide (x.1 = y.1))) (n : Nat) (s : den LChange) (c : den TChange) (hs : s.length ≤ 4194304) :
    ∀ (m i : Nat), s.length - i < m → i ≤ s.length → ∃ r : Int, slices_IndexFunc_Change__patch_Less_1_1_l2 C n m s c (s.length : Int) (i : Int) = some r ∧ decide (0 ≤ r) = (s.drop i).any fun x => decide (x.1 = c.1) := by
  intro m
  induction m with
  | zero => intro i h; omega
  | succ m ih =>
    intro i hm hi
    rw [slices_IndexFunc_Change__patch_Less_1_1_l2, slices_IndexFunc_Change__patch_Less_1_1_s2]
    by_cases h : i < s.length
    · have h' : (i : Int) < (s.length : Int) := by omega
      simp only [h', decide_true, cond_true, Int.natCast_nonneg, Bool.and_self, Int.toNat_natCast, hC, Option.bind_some]
      rw [drop_getD h (dflt TChange), List.any_cons, w64s (n := i) (by omega)]
      by_cases g : (s.getD i (dflt TChange)).1 = c.1
      · refine ⟨_, by rw [decide_eq_true g, cond_true], ?_⟩
        rw [decide_eq_true g, decide_eq_true (Int.natCast_nonneg _), Bool.true_or]
      · rw [decide_eq_false g, cond_false, Bool.false_or]
        exact ih (i + 1) (by omega) (by omega)
    · have h' : ¬ (i : Int) < (s.length : Int) := by omega
      have e : s.drop i = [] := List.drop_eq_nil_of_le (by omega)
      simp only [h', decide_false, cond_false, e]
      exact ⟨_, rfl, rfl⟩
theorem slices_ContainsFunc_Change__patch_Less_1_1_spec (n : Nat) (s : den LChange) (c : den TChange) (hs : s.length ≤ 4194304) (hn : 4194310 ≤ n) : slices_ContainsFunc_Change__patch_Less_1_1 n s c = some (s.any fun x => decide (x.1 = c.1)) := by
  obtain ⟨n, rfl⟩ : ∃ k, n = k + 2 := ⟨n - 2, by omega⟩
  obtain ⟨r, h1, h2⟩ := slices_IndexFunc_Change__patch_Less_1_1_l2_spec (patch_Less_1_1 n) (fun x y => patch_Less_1_1_spec n x y (by omega)) n s c hs n 0 (by omega) (by omega)
  have e : slices_IndexFunc_Change__patch_Less_1_1 (n + 1) s c = some r := by rw [slices_IndexFunc_Change__patch_Less_1_1, slices_IndexFunc_Change__patch_Less_1_1_top]; exact h1
  rw [slices_ContainsFunc_Change__patch_Less_1_1, slices_ContainsFunc_Change__patch_Less_1_1_top, e, Option.bind_some]
  rw [show decide ((0 : Int) ≤ r) = _ from h2]; rfl
noncomputable def inL6 (q : den LChange) (c : den TChange) : Bool := List.any q fun x => decide (x.1 = c.1)
theorem patch_Less_1_spec (n : Nat) (c : den TChange) (q : den LChange) (hq : q.length ≤ 4194304) (hn : 4194311 ≤ n) : patch_Less_1 n c q = some (inL6 q c) := by
  obtain ⟨n, rfl⟩ : ∃ k, n = k + 1 := ⟨n - 1, by omega⟩
  rw [patch_Less_1, patch_Less_1_top, slices_ContainsFunc_Change__patch_Less_1_1_spec n q c hq (by omega)]; rfl
theorem slices_IndexFunc_Change__patch_Less_1_l2_spec (C : den TChange → den LChange → Option Bool) (n : Nat) (s q : den LChange) (hC : ∀ x, C x q = some (inL6 q x)) (hs : s.length ≤ 4194304) :
    ∀ (m i : Nat), s.length - i < m → i ≤ s.length → (∀ x ∈ s.take i, inL6 q x = false) →
      (slices_IndexFunc_Change__patch_Less_1_l2 C n m s q (s.length : Int) (i : Int) = some (-1) ∧ ∀ x ∈ s, inL6 q x = false) ∨ ∃ k : Nat, slices_IndexFunc_Change__patch_Less_1_l2 C n m s q (s.length : Int) (i : Int) = some (k : Int) ∧ k < s.length ∧ (∀ x ∈ s.take k, inL6 q x = false) ∧ inL6 q (s.getD k (dflt TChange)) = true := by
  intro m
  induction m with
  | zero => intro i h; omega
  | succ m ih =>
    intro i hm hi hp
    rw [slices_IndexFunc_Change__patch_Less_1_l2, slices_IndexFunc_Change__patch_Less_1_s2]
    by_cases h : i < s.length
    · have h' : (i : Int) < (s.length : Int) := by omega
      simp only [h', decide_true, cond_true, Int.natCast_nonneg, Bool.and_self, Int.toNat_natCast, hC, Option.bind_some]
      rw [w64s (n := i) (by omega)]
      cases g : inL6 q (s.getD i (dflt TChange)) with
      | true => exact .inr ⟨i, rfl, h, hp, g⟩
      | false =>
        rw [cond_false]
        refine ih (i + 1) (by omega) (by omega) fun x hx => ?_
        rw [take_succ_getD h (dflt TChange)] at hx
        rcases List.mem_append.1 hx with hx | hx
        · exact hp x hx
        · simp only [List.mem_singleton] at hx; rw [hx]; exact g
    · have h' : ¬ (i : Int) < (s.length : Int) := by omega
      simp only [h', decide_false, cond_false]
      refine .inl ⟨trivial, fun x hx => hp x ?_⟩
      rw [List.take_of_length_le (by omega)]; exact hx
theorem slices_DeleteFunc_Change__patch_Less_1_l5_spec (Cx : den LChange → den LChange → Option Int) (C : den TChange → den LChange → Option Bool) (n : Nat) (s q : den LChange) (hC : ∀ x, C x q = some (inL6 q x)) (hs : s.length ≤ 4194304) :
    ∀ (m i j : Nat) (o : den LChange), s.length - j < m → i < j → j ≤ s.length → o.length = s.length → o.take i = (s.take j).filter (fun x => !inL6 q x) → o.drop j = s.drop j →
      slices_DeleteFunc_Change__patch_Less_1_l5 Cx C n m q (i : Int) (j : Int) o = some (s.filter (fun x => !inL6 q x), ((), ())) := by
  intro m
  induction m with
  | zero => intro i j o h; omega
  | succ m ih =>
    intro i j o hm hij hj hl h1 h2
    rw [slices_DeleteFunc_Change__patch_Less_1_l5, slices_DeleteFunc_Change__patch_Less_1_s5]
    by_cases h : j < s.length
    · have h' : (j : Int) < (o.length : Int) := by omega
      have hi' : (i : Int) < (o.length : Int) := by omega
      obtain ⟨e, hy, hno⟩ := shift_step (fun x => !inL6 q x) (dflt TChange) s o i j hij h hl h1 h2
      simp only [h', hi', decide_true, cond_true, Int.natCast_nonneg, Bool.and_self, Int.toNat_natCast, hC, Option.bind_some]
      rw [w64s (n := i) (by omega), w64s (n := j) (by omega), e]
      cases g : inL6 q (s.getD j (dflt TChange)) with
      | true =>
        obtain ⟨q1, q2⟩ := hno (by rw [g]; rfl)
        simp only [Bool.not_true, cond_false]
        exact ih i (j + 1) o (by omega) (by omega) (by omega) hl q1 q2
      | false =>
        obtain ⟨q1, q2⟩ := hy (by rw [g]; rfl)
        rw [e] at q1 q2
        simp only [Bool.not_false, cond_true]
        exact ih (i + 1) (j + 1) _ (by omega) (by omega) (by omega) (by rw [List.length_set]; exact hl) q1 q2
    · have h' : ¬ (j : Int) < (o.length : Int) := by omega
      have hi' : (i : Int) ≤ (o.length : Int) := by omega
      have hli : (o.take i).length = i := by rw [List.length_take]; omega
      have h3 : (i : Int) ≤ ((o.take i ++ List.replicate (o.length - i) (dflt TChange)).length : Int) := by rw [List.length_append, hli]; omega
      simp only [h', decide_false, cond_false, hi', h3, decide_true, Int.natCast_nonneg, Bool.and_self, cond_true, Int.toNat_natCast]
      have e1 : (o.take i ++ List.replicate (o.length - i) (dflt TChange)).take i = o.take i := by
        rw [List.take_append_of_le_length (by omega), List.take_of_length_le (by omega)]
      rw [e1, h1, List.take_of_length_le (by omega)]
theorem slices_DeleteFunc_Change__patch_Less_1_spec (n : Nat) (q s : den LChange) (hq : q.length ≤ 4194304) (hs : s.length ≤ 4194304) (hn : 4194320 ≤ n) : slices_DeleteFunc_Change__patch_Less_1 n q s = some (s.filter (fun x => !inL6 q x), ((), ())) := by
  obtain ⟨n, rfl⟩ : ∃ k, n = k + 2 := ⟨n - 2, by omega⟩
  have hf := fun x => patch_Less_1_spec n x q hq (by omega)
  have hf1 := fun x => patch_Less_1_spec (n + 1) x q hq (by omega)
  rw [slices_DeleteFunc_Change__patch_Less_1, slices_DeleteFunc_Change__patch_Less_1_top]
  have e : ∀ r, slices_IndexFunc_Change__patch_Less_1 (n + 1) s q = r ↔ slices_IndexFunc_Change__patch_Less_1_l2 (patch_Less_1 n) n n s q (s.length : Int) ((0 : Nat) : Int) = r := fun r => by rw [slices_IndexFunc_Change__patch_Less_1, slices_IndexFunc_Change__patch_Less_1_top]; exact Iff.rfl
  rcases slices_IndexFunc_Change__patch_Less_1_l2_spec (patch_Less_1 n) n s q hf hs n 0 (by omega) (by omega) (by simp) with ⟨h1, h2⟩ | ⟨k, h1, h2, h3, h4⟩
  · rw [(e _).2 h1, Option.bind_some]
    have : s.filter (fun x => !inL6 q x) = s := List.filter_eq_self.2 fun x hx => by rw [h2 x hx]; rfl
    rw [this]; rfl
  · rw [(e _).2 h1, Option.bind_some]
    have hne : ¬ (k : Int) = -1 := by omega
    rw [decide_eq_false hne, cond_false, w64s (n := k) (by omega)]
    refine slices_DeleteFunc_Change__patch_Less_1_l5_spec (slices_IndexFunc_Change__patch_Less_1 (n + 1)) (patch_Less_1 (n + 1)) (n + 1) s q hf1 hs (n + 1) k (k + 1) s (by omega) (by omega) (by omega) rfl ?_ rfl
    rw [take_succ_getD h2 (dflt TChange), List.filter_append]
    have e1 : (s.take k).filter (fun x => !inL6 q x) = s.take k := List.filter_eq_self.2 fun x hx => by rw [h3 x hx]; rfl
    rw [e1]; simp only [List.filter_cons, h4, Bool.not_true, Bool.false_eq_true, if_false, List.filter_nil, List.append_nil]
theorem patch_Less_spec (n : Nat) (p q : den LChange) (hp : p.length ≤ 4194304) (hq : q.length ≤ 4194304) (hn : 4194330 ≤ n) : patch_Less n p q = some (p.filter fun x => !inL6 q x) := by
  obtain ⟨n, rfl⟩ : ∃ k, n = k + 2 := ⟨n - 2, by omega⟩
  have e : slices_Clone_Change (n + 1) p = some (p, ()) := by
    rw [slices_Clone_Change, decide_eq_true (show (0 + p.length) * 56 ≤ 140737488355328 by omega)]; rfl
  rw [patch_Less, patch_Less_top, e, Option.bind_some, slices_DeleteFunc_Change__patch_Less_1_spec (n + 1) q p hq hp (by omega)]; rfl
theorem ref06_Find_l2_spec (n : Nat) (p : den LChange) (k : Int) (o4 : den TChange) (hp : p.length ≤ 4194304) : ∀ (m i : Nat), p.length - i < m → ∃ y, ref06_Find_l2 n m p k (i : Int) o4 = some (y, (p.drop i).any fun c => decide (c.1 = k)) := by
  intro m
  induction m with
  | zero => intro i h; omega
  | succ m ih =>
    intro i hm
    rw [ref06_Find_l2, ref06_Find_s2]
    by_cases h : i < p.length
    · have h' : (i : Int) < (p.length : Int) := by omega
      simp only [h', decide_true, cond_true, Int.natCast_nonneg, Bool.and_self, Int.toNat_natCast]
      rw [drop_getD h (dflt TChange), List.any_cons, w64s (n := i) (by omega)]
      by_cases g : (p.getD i (dflt TChange)).1 = k
      · rw [decide_eq_true g, cond_true, Bool.true_or]; exact ⟨_, rfl⟩
      · rw [decide_eq_false g, cond_false, Bool.false_or]; exact ih (i + 1) (by omega)
    · have h' : ¬ (i : Int) < (p.length : Int) := by omega
      have e : p.drop i = [] := List.drop_eq_nil_of_le (by omega)
      simp only [h', decide_false, cond_false, e]
      exact ⟨_, rfl⟩
theorem past_law {V : Type} {a : List (At V)} {p q : List (Ch V)} (ha : Srt a) (hp : Srt p) (hq : Srt q) :
    applyS (applyS a p) (q.filter fun c => !(List.any p fun x => decide (x.1 = c.1))) = applyS (applyS a q) p := by
  have hl : Srt (q.filter fun c => !(List.any p fun x => decide (x.1 = c.1))) := List.Pairwise.filter _ hq
  refine srt_ext (srt_apply _ _ (srt_apply _ _ ha hp) hl) (srt_apply _ _ (srt_apply _ _ ha hq) hp) fun k => ?_
  rw [find_apply k _ _ (srt_apply _ _ ha hp) hl, find_apply k _ _ ha hp, find_apply k _ _ (srt_apply _ _ ha hq) hp, find_apply k _ _ ha hq,
    find_filter_key (fun j => !(List.any p fun x => decide (x.1 = j))) k q, any_find k p]
  cases find k p <;> simp [onto]
end Go.Proofs.YtecangnmmbcbkaaDoor.Ab
