/- What is left of a patch without another's keys: Less, Find, PatchPast. -/
import Derived.Test.YtecangnmmbcbkaaP3
set_option linter.unusedVariables false
set_option linter.unusedSimpArgs false
set_option maxRecDepth 10000
namespace Go.Proofs.Ytecangnmmbcbkaa.Ab
open Go
theorem find_filter_key {β : Type} (p : Int → Bool) (k : Int) (l : List (Int × β)) : find k (l.filter fun c => p c.1) = if p k = true then find k l else none := by
  induction l with
  | nil => simp [find]
  | cons x l ih =>
    by_cases hp : p x.1 = true
    · rw [List.filter_cons_of_pos (by simpa using hp)]
      simp only [find, ih]
      by_cases hk : x.1 = k
      · subst hk; simp [hp]
      · simp only [hk, if_false]
    · rw [List.filter_cons_of_neg (by simpa using hp), ih]
      simp only [find]
      by_cases hk : x.1 = k
      · subst hk; simp [hp]
      · simp only [hk, if_false]
theorem any_find {β : Type} (k : Int) (l : List (Int × β)) : (l.any fun c => decide (c.1 = k)) = (find k l).isSome := by
  induction l with
  | nil => rfl
  | cons x l ih =>
    simp only [List.any_cons, find, ih]
    by_cases hk : x.1 = k <;> simp [hk]
theorem take_succ_getD {α : Type} {l : List α} {i : Nat} (h : i < l.length) (d : α) : l.take (i + 1) = l.take i ++ [l.getD i d] := by
  rw [List.take_succ_eq_append_getElem h]; simp [List.getD_eq_getElem?_getD, h]
theorem drop_set_lt {α : Type} {l : List α} {i j : Nat} (x : α) (h : i < j) : (l.set i x).drop j = l.drop j := by
  apply List.ext_getElem?
  intro k
  rw [List.getElem?_drop, List.getElem?_drop, List.getElem?_set_ne (by omega)]
theorem take_set_le {α : Type} {l : List α} {i j : Nat} (x : α) (h : j ≤ i) : (l.set i x).take j = l.take j := by
  apply List.ext_getElem?
  intro k
  rw [List.getElem?_take, List.getElem?_take]
  split
  · rw [List.getElem?_set_ne (by omega)]
  · rfl
/-- The shift of DeleteFunc, as a plain law: what is kept, from place to place. -/
theorem shift_step {α : Type} (keep : α → Bool) (d : α) (s o : List α) (i j : Nat) (hij : i < j) (hj : j < s.length) (hl : o.length = s.length) (h1 : o.take i = (s.take j).filter keep) (h2 : o.drop j = s.drop j) :
    o.getD j d = s.getD j d ∧ (keep (s.getD j d) = true → (o.set i (o.getD j d)).take (i + 1) = (s.take (j + 1)).filter keep ∧ (o.set i (o.getD j d)).drop (j + 1) = s.drop (j + 1)) ∧
      (keep (s.getD j d) = false → o.take i = (s.take (j + 1)).filter keep ∧ o.drop (j + 1) = s.drop (j + 1)) := by
  have e : o.getD j d = s.getD j d := by
    have a1 := drop_getD (l := o) (i := j) (by omega) d
    have a2 := drop_getD (l := s) (i := j) hj d
    rw [h2, a2] at a1
    simp only [List.cons.injEq] at a1
    exact a1.1.symm
  have e2 : o.drop (j + 1) = s.drop (j + 1) := by rw [← List.drop_drop, h2, List.drop_drop]
  refine ⟨e, fun hk => ⟨?_, by rw [drop_set_lt _ (by omega), e2]⟩, fun hk => ⟨?_, e2⟩⟩
  · rw [take_succ_getD (by rw [List.length_set]; omega) d, take_set_le _ (Nat.le_refl _), h1, take_succ_getD hj d, List.filter_append]
    have : (o.set i (o.getD j d)).getD i d = o.getD j d := by
      rw [List.getD_eq_getElem?_getD, List.getElem?_set_self (by omega)]; rfl
    rw [this, e]
    congr 1
    simp only [List.filter_cons, hk, if_true, List.filter_nil]
  · rw [take_succ_getD hj d, List.filter_append, h1]
    simp only [List.filter_cons, hk, Bool.false_eq_true, if_false, List.filter_nil, List.append_nil]

theorem f34_spec (n : Nat) (x y : den Y6) (hn : 0 < n) : f34 n x y = some (decide (x.1 = y.1)) := by
  obtain ⟨n, rfl⟩ : ∃ k, n = k + 1 := ⟨n - 1, by omega⟩
  rfl
theorem f41v1_l2_spec (C : den Y6 → den Y6 → Option Bool) (hC : ∀ x y, C x y = some (decide (x.1 = y.1))) (n : Nat) (s : den Y10) (c : den Y6) (hs : s.length ≤ 4194304) :
    ∀ (m i : Nat), s.length - i < m → i ≤ s.length → ∃ r : Int, f41v1_l2 C n m s c (s.length : Int) (i : Int) = some r ∧ decide (0 ≤ r) = (s.drop i).any fun x => decide (x.1 = c.1) := by
  intro m
  induction m with
  | zero => intro i h; omega
  | succ m ih =>
    intro i hm hi
    rw [f41v1_l2, f41v1_s2]
    by_cases h : i < s.length
    · have h' : (i : Int) < (s.length : Int) := by omega
      simp only [h', decide_true, cond_true, Int.natCast_nonneg, Bool.and_self, Int.toNat_natCast, hC, Option.bind_some]
      rw [drop_getD h (dflt Y6), List.any_cons, w64s (n := i) (by omega)]
      by_cases g : (s.getD i (dflt Y6)).1 = c.1
      · refine ⟨_, by rw [decide_eq_true g, cond_true], ?_⟩
        rw [decide_eq_true g, decide_eq_true (Int.natCast_nonneg _), Bool.true_or]
      · rw [decide_eq_false g, cond_false, Bool.false_or]
        exact ih (i + 1) (by omega) (by omega)
    · have h' : ¬ (i : Int) < (s.length : Int) := by omega
      have e : s.drop i = [] := List.drop_eq_nil_of_le (by omega)
      simp only [h', decide_false, cond_false, e]
      exact ⟨_, rfl, rfl⟩
theorem f33_spec (n : Nat) (s : den Y10) (c : den Y6) (hs : s.length ≤ 4194304) (hn : 4194310 ≤ n) : f33 n s c = some (s.any fun x => decide (x.1 = c.1)) := by
  obtain ⟨n, rfl⟩ : ∃ k, n = k + 2 := ⟨n - 2, by omega⟩
  obtain ⟨r, h1, h2⟩ := f41v1_l2_spec (f34 n) (fun x y => f34_spec n x y (by omega)) n s c hs n 0 (by omega) (by omega)
  have e : f41v1 (n + 1) s c = some r := by rw [f41v1, f41v1_top]; exact h1
  rw [f33, f33_top, e, Option.bind_some]
  rw [show decide ((0 : Int) ≤ r) = _ from h2]; rfl
noncomputable def inL6 (q : den Y10) (c : den Y6) : Bool := List.any q fun x => decide (x.1 = c.1)
theorem f32_spec (n : Nat) (c : den Y6) (q : den Y10) (hq : q.length ≤ 4194304) (hn : 4194311 ≤ n) : f32 n c q = some (inL6 q c) := by
  obtain ⟨n, rfl⟩ : ∃ k, n = k + 1 := ⟨n - 1, by omega⟩
  rw [f32, f32_top, f33_spec n q c hq (by omega)]; rfl
theorem f41_l2_spec (C : den Y6 → den Y10 → Option Bool) (n : Nat) (s q : den Y10) (hC : ∀ x, C x q = some (inL6 q x)) (hs : s.length ≤ 4194304) :
    ∀ (m i : Nat), s.length - i < m → i ≤ s.length → (∀ x ∈ s.take i, inL6 q x = false) →
      (f41_l2 C n m s q (s.length : Int) (i : Int) = some (-1) ∧ ∀ x ∈ s, inL6 q x = false) ∨ ∃ k : Nat, f41_l2 C n m s q (s.length : Int) (i : Int) = some (k : Int) ∧ k < s.length ∧ (∀ x ∈ s.take k, inL6 q x = false) ∧ inL6 q (s.getD k (dflt Y6)) = true := by
  intro m
  induction m with
  | zero => intro i h; omega
  | succ m ih =>
    intro i hm hi hp
    rw [f41_l2, f41_s2]
    by_cases h : i < s.length
    · have h' : (i : Int) < (s.length : Int) := by omega
      simp only [h', decide_true, cond_true, Int.natCast_nonneg, Bool.and_self, Int.toNat_natCast, hC, Option.bind_some]
      rw [w64s (n := i) (by omega)]
      cases g : inL6 q (s.getD i (dflt Y6)) with
      | true => exact .inr ⟨i, rfl, h, hp, g⟩
      | false =>
        rw [cond_false]
        refine ih (i + 1) (by omega) (by omega) fun x hx => ?_
        rw [take_succ_getD h (dflt Y6)] at hx
        rcases List.mem_append.1 hx with hx | hx
        · exact hp x hx
        · simp only [List.mem_singleton] at hx; rw [hx]; exact g
    · have h' : ¬ (i : Int) < (s.length : Int) := by omega
      simp only [h', decide_false, cond_false]
      refine .inl ⟨trivial, fun x hx => hp x ?_⟩
      rw [List.take_of_length_le (by omega)]; exact hx
theorem f30_l5_spec (Cx : den Y10 → den Y10 → Option Int) (C : den Y6 → den Y10 → Option Bool) (n : Nat) (s q : den Y10) (hC : ∀ x, C x q = some (inL6 q x)) (hs : s.length ≤ 4194304) :
    ∀ (m i j : Nat) (o : den Y10), s.length - j < m → i < j → j ≤ s.length → o.length = s.length → o.take i = (s.take j).filter (fun x => !inL6 q x) → o.drop j = s.drop j →
      f30_l5 Cx C n m q (i : Int) (j : Int) o = some (s.filter (fun x => !inL6 q x), ((), ())) := by
  intro m
  induction m with
  | zero => intro i j o h; omega
  | succ m ih =>
    intro i j o hm hij hj hl h1 h2
    rw [f30_l5, f30_s5]
    by_cases h : j < s.length
    · have h' : (j : Int) < (o.length : Int) := by omega
      have hi' : (i : Int) < (o.length : Int) := by omega
      obtain ⟨e, hy, hno⟩ := shift_step (fun x => !inL6 q x) (dflt Y6) s o i j hij h hl h1 h2
      simp only [h', hi', decide_true, cond_true, Int.natCast_nonneg, Bool.and_self, Int.toNat_natCast, hC, Option.bind_some]
      rw [w64s (n := i) (by omega), w64s (n := j) (by omega), e]
      cases g : inL6 q (s.getD j (dflt Y6)) with
      | true =>
        obtain ⟨q1, q2⟩ := hno (by rw [g]; rfl)
        simp only [Bool.not_true, cond_false]
        exact ih i (j + 1) o (by omega) (by omega) (by omega) hl q1 q2
      | false =>
        obtain ⟨q1, q2⟩ := hy (by rw [g]; rfl)
        rw [e] at q1 q2
        simp only [Bool.not_false, cond_true]
        exact ih (i + 1) (j + 1) _ (by omega) (by omega) (by omega) (by rw [List.length_set]; exact hl) q1 q2
    · have h' : ¬ (j : Int) < (o.length : Int) := by omega
      have hi' : (i : Int) ≤ (o.length : Int) := by omega
      have hli : (o.take i).length = i := by rw [List.length_take]; omega
      have h3 : (i : Int) ≤ ((o.take i ++ List.replicate (o.length - i) (dflt Y6)).length : Int) := by rw [List.length_append, hli]; omega
      simp only [h', decide_false, cond_false, hi', h3, decide_true, Int.natCast_nonneg, Bool.and_self, cond_true, Int.toNat_natCast]
      have e1 : (o.take i ++ List.replicate (o.length - i) (dflt Y6)).take i = o.take i := by
        rw [List.take_append_of_le_length (by omega), List.take_of_length_le (by omega)]
      rw [e1, h1, List.take_of_length_le (by omega)]
theorem f30_spec (n : Nat) (q s : den Y10) (hq : q.length ≤ 4194304) (hs : s.length ≤ 4194304) (hn : 4194320 ≤ n) : f30 n q s = some (s.filter (fun x => !inL6 q x), ((), ())) := by
  obtain ⟨n, rfl⟩ : ∃ k, n = k + 2 := ⟨n - 2, by omega⟩
  have hf := fun x => f32_spec n x q hq (by omega)
  have hf1 := fun x => f32_spec (n + 1) x q hq (by omega)
  rw [f30, f30_top]
  have e : ∀ r, f41 (n + 1) s q = r ↔ f41_l2 (f32 n) n n s q (s.length : Int) ((0 : Nat) : Int) = r := fun r => by rw [f41, f41_top]; exact Iff.rfl
  rcases f41_l2_spec (f32 n) n s q hf hs n 0 (by omega) (by omega) (by simp) with ⟨h1, h2⟩ | ⟨k, h1, h2, h3, h4⟩
  · rw [(e _).2 h1, Option.bind_some]
    have : s.filter (fun x => !inL6 q x) = s := List.filter_eq_self.2 fun x hx => by rw [h2 x hx]; rfl
    rw [this]; rfl
  · rw [(e _).2 h1, Option.bind_some]
    have hne : ¬ (k : Int) = -1 := by omega
    rw [decide_eq_false hne, cond_false, w64s (n := k) (by omega)]
    refine f30_l5_spec (f41 (n + 1)) (f32 (n + 1)) (n + 1) s q hf1 hs (n + 1) k (k + 1) s (by omega) (by omega) (by omega) rfl ?_ rfl
    rw [take_succ_getD h2 (dflt Y6), List.filter_append]
    have e1 : (s.take k).filter (fun x => !inL6 q x) = s.take k := List.filter_eq_self.2 fun x hx => by rw [h3 x hx]; rfl
    rw [e1]; simp only [List.filter_cons, h4, Bool.not_true, Bool.false_eq_true, if_false, List.filter_nil, List.append_nil]
theorem f18_spec (n : Nat) (p q : den Y10) (hp : p.length ≤ 4194304) (hq : q.length ≤ 4194304) (hn : 4194330 ≤ n) : f18 n p q = some (p.filter fun x => !inL6 q x) := by
  obtain ⟨n, rfl⟩ : ∃ k, n = k + 2 := ⟨n - 2, by omega⟩
  have e : f31 (n + 1) p = some (p, ()) := by
    rw [f31, decide_eq_true (show (0 + p.length) * 56 ≤ 140737488355328 by omega)]; rfl
  rw [f18, f18_top, e, Option.bind_some, f30_spec (n + 1) q p hq hp (by omega)]; rfl
theorem f19_l2_spec (n : Nat) (p : den Y10) (k : Int) (o4 : den Y6) (hp : p.length ≤ 4194304) : ∀ (m i : Nat), p.length - i < m → ∃ y, f19_l2 n m p k (i : Int) o4 = some (y, (p.drop i).any fun c => decide (c.1 = k)) := by
  intro m
  induction m with
  | zero => intro i h; omega
  | succ m ih =>
    intro i hm
    rw [f19_l2, f19_s2]
    by_cases h : i < p.length
    · have h' : (i : Int) < (p.length : Int) := by omega
      simp only [h', decide_true, cond_true, Int.natCast_nonneg, Bool.and_self, Int.toNat_natCast]
      rw [drop_getD h (dflt Y6), List.any_cons, w64s (n := i) (by omega)]
      by_cases g : (p.getD i (dflt Y6)).1 = k
      · rw [decide_eq_true g, cond_true, Bool.true_or]; exact ⟨_, rfl⟩
      · rw [decide_eq_false g, cond_false, Bool.false_or]; exact ih (i + 1) (by omega)
    · have h' : ¬ (i : Int) < (p.length : Int) := by omega
      have e : p.drop i = [] := List.drop_eq_nil_of_le (by omega)
      simp only [h', decide_false, cond_false, e]
      exact ⟨_, rfl⟩
theorem f19_spec (n : Nat) (p : den Y10) (k : Int) (hp : p.length ≤ 4194304) (hn : 4194306 ≤ n) : ∃ y, f19 n p k = some (y, List.any p fun c => decide (c.1 = k)) := by
  obtain ⟨n, rfl⟩ : ∃ k, n = k + 1 := ⟨n - 1, by omega⟩
  rw [f19, f19_top]
  exact f19_l2_spec n p k _ hp n 0 (by omega)

theorem past_law {V : Type} {a : List (At V)} {p q : List (Ch V)} (ha : Srt a) (hp : Srt p) (hq : Srt q) :
    applyS (applyS a p) (q.filter fun c => !(List.any p fun x => decide (x.1 = c.1))) = applyS (applyS a q) p := by
  have hl : Srt (q.filter fun c => !(List.any p fun x => decide (x.1 = c.1))) := List.Pairwise.filter _ hq
  refine srt_ext (srt_apply _ _ (srt_apply _ _ ha hp) hl) (srt_apply _ _ (srt_apply _ _ ha hq) hp) fun k => ?_
  rw [find_apply k _ _ (srt_apply _ _ ha hp) hl, find_apply k _ _ ha hp, find_apply k _ _ (srt_apply _ _ ha hq) hp, find_apply k _ _ ha hq,
    find_filter_key (fun j => !(List.any p fun x => decide (x.1 = j))) k q, any_find k p]
  cases find k p <;> simp [onto]
theorem patchPast (N : Nat) (hN : N = 8388607) (a : den Y8) (p q : den Y10) (ha : a.length ≤ 1048576) (hp : p.length ≤ 1048576) (hq : q.length ≤ 1048576) : f5 (N + 1) a p q = some true := by
  have hk : f11 N = some true := hN ▸ known_at
  obtain ⟨g, hg⟩ := f8_some N p [a] (by omega) (by simp) (by simp; omega) (by omega)
  obtain ⟨g2, hg2⟩ := f8_some N q [] (by omega) (by simp) (by simp) (by omega)
  rw [f5, f5_top, hg, hg2]
  simp only [Option.bind_some, hk]
  cases g
  case true => rfl
  cases g2
  case true => rfl
  rcases f9_spec N a (by omega) (by omega) with e | ⟨e, sa⟩
  · rw [e]; rfl
  rcases f10_spec N p (by omega) (by omega) with e2 | ⟨e2, sp⟩
  · rw [e, e2]; rfl
  rcases f10_spec N q (by omega) (by omega) with e3 | ⟨e3, sq⟩
  · rw [e, e2, e3]; rfl
  have hll : (List.filter (fun x => !inL6 p x) q).length ≤ q.length := List.length_filter_le _ _
  have l1 := len_apply a p
  have l2 := len_apply a q
  have l4 := len_apply (applyS a q) p
  rw [e, e2, e3, f13_spec N a p (by omega) (by omega) (by omega), f18_spec N q p (by omega) (by omega) (by omega), f13_spec N a q (by omega) (by omega) (by omega)]
  simp only [Option.bind_some, cond_false, Bool.not_true]
  rw [f13_spec N _ _ (by omega) (by omega) (by omega), f13_spec N _ _ (by omega) (by omega) (by omega)]
  simp only [Option.bind_some]
  have hpl : applyS (applyS a p) (List.filter (fun x => !inL6 p x) q) = applyS (applyS a q) p := past_law sa sp sq
  rw [hpl]
  have loop : ∀ (m i : Nat), (List.filter (fun x => !inL6 p x) q).length - i < m → f5_l7 (f8 N) (f11 N) (f9 N) (f10 N) (f13 N) (f18 N) (f19 N) (f12 N) N m p (applyS (applyS a q) p) (applyS (applyS a q) p) (List.filter (fun x => !inL6 p x) q)
      ((List.filter (fun x => !inL6 p x) q).length : Int) (i : Int) = some true := by
    intro m
    induction m with
    | zero => intro i h; omega
    | succ m ih =>
      intro i hm
      rw [f5_l7, f5_s7]
      by_cases h : i < (List.filter (fun x => !inL6 p x) q).length
      · have h' : (i : Int) < ((List.filter (fun x => !inL6 p x) q).length : Int) := by omega
        simp only [h', decide_true, cond_true, Int.natCast_nonneg, Bool.and_self, Int.toNat_natCast]
        obtain ⟨y, hy⟩ := f19_spec N p ((List.filter (fun x => !inL6 p x) q).getD i (dflt Y6)).1 (by omega) (by omega)
        have hmem : (List.filter (fun x => !inL6 p x) q).getD i (dflt Y6) ∈ List.filter (fun x => !inL6 p x) q := by
          rw [List.getD_eq_getElem?_getD, List.getElem?_eq_getElem h]; exact List.getElem_mem h
        have hno := (List.mem_filter.1 hmem).2
        have hno' : (List.any p fun c => decide (c.1 = ((List.filter (fun x => !inL6 p x) q).getD i (dflt Y6)).1)) = false := by
          simpa [inL6] using hno
        rw [hy, hno']
        simp only [Option.bind_some, cond_false]
        rw [w64s (n := i) (by omega)]
        exact ih (i + 1) (by omega)
      · have h' : ¬ (i : Int) < ((List.filter (fun x => !inL6 p x) q).length : Int) := by omega
        simp only [h', decide_false, cond_false]
        rw [f12_same N _ (show (applyS (applyS a q) p).length ≤ 4194304 by omega) (by omega)]
        simp only [Option.bind_some, cond_true, hk]
  have := loop N 0 (by omega)
  simpa [hk] using this
end Go.Proofs.Ytecangnmmbcbkaa.Ab
