/- Attributes: what is put into a keyed list that rises, and taken out; With, Without, Same, Copy. -/
import Derived.Test.YtecangnmmbcbkaaP3
import Derived.Test.YtecangnmmbcbkaaPL
set_option linter.unusedVariables false
set_option linter.unusedSimpArgs false
set_option maxRecDepth 10000
namespace Go.Proofs.Ytecangnmmbcbkaa.Ab
open Go Classical
section
variable {β : Type}
def putK (x : Int × β) : List (Int × β) → List (Int × β)
  | [] => [x]
  | y :: l => if y.1 < x.1 then y :: putK x l else if y.1 = x.1 then x :: l else x :: y :: l
theorem abv_putK {k : Int} {x : Int × β} {l : List (Int × β)} (hx : k < x.1) (h : Abv k l) : Abv k (putK x l) := by
  induction l with
  | nil => exact abv_cons.2 ⟨hx, abv_nil⟩
  | cons y l ih =>
    obtain ⟨h1, h2⟩ := abv_cons.1 h
    unfold putK
    split
    · exact abv_cons.2 ⟨h1, ih h2⟩
    · split
      · exact abv_cons.2 ⟨hx, h2⟩
      · exact abv_cons.2 ⟨hx, h⟩
theorem srt_putK {x : Int × β} {l : List (Int × β)} (h : Srt l) : Srt (putK x l) := by
  induction l with
  | nil => exact srt_cons.2 ⟨abv_nil, srt_nil⟩
  | cons y l ih =>
    obtain ⟨h1, h2⟩ := srt_cons.1 h
    unfold putK
    split
    · rename_i g; exact srt_cons.2 ⟨abv_putK g h1, ih h2⟩
    · split
      · rename_i g; exact srt_cons.2 ⟨h1.mono (by omega), h2⟩
      · exact srt_cons.2 ⟨abv_cons.2 ⟨by omega, h1.mono (by omega)⟩, h⟩
theorem find_putK (k : Int) {x : Int × β} {l : List (Int × β)} (h : Srt l) : find k (putK x l) = if x.1 = k then some x.2 else find k l := by
  induction l with
  | nil => simp [putK, find]
  | cons y l ih =>
    obtain ⟨h1, h2⟩ := srt_cons.1 h
    unfold putK
    split
    · rename_i g
      simp only [find, ih h2]
      by_cases e : y.1 = k
      · rw [if_pos e, if_pos e, if_neg (by omega)]
      · rw [if_neg e, if_neg e]
    · split
      · rename_i g
        simp only [find]
        by_cases e : x.1 = k
        · rw [if_pos e, if_pos e]
        · rw [if_neg e, if_neg e, if_neg (by omega)]
      · simp only [find]
theorem len_putK {x : Int × β} {l : List (Int × β)} : l.length ≤ (putK x l).length ∧ (putK x l).length ≤ l.length + 1 := by
  induction l with
  | nil => simp [putK]
  | cons y l ih =>
    unfold putK
    split
    · simp only [List.length_cons]; omega
    · split <;> simp
theorem putK_at {x d : Int × β} : ∀ {l : List (Int × β)} {q : Nat}, q ≤ l.length → (∀ k, k < q → (l.getD k d).1 < x.1) → (∀ k, q ≤ k → k < l.length → x.1 ≤ (l.getD k d).1) →
    putK x l = if q < l.length ∧ (l.getD q d).1 = x.1 then l.set q x else l.take q ++ [x] ++ l.drop q
  | [], q, hq, _, _ => by
    obtain rfl : q = 0 := by simpa using hq
    simp [putK]
  | y :: l, 0, _, _, h2 => by
    have := h2 0 (by omega) (by simp)
    simp only [List.getD_cons_zero] at this ⊢
    unfold putK
    rw [if_neg (by omega)]
    by_cases e : y.1 = x.1
    · rw [if_pos e, if_pos ⟨by simp, e⟩]; rfl
    · rw [if_neg e, if_neg (fun h => e h.2)]; rfl
  | y :: l, q + 1, hq, h1, h2 => by
    have := h1 0 (by omega)
    simp only [List.getD_cons_zero] at this
    have ih := putK_at (x := x) (d := d) (l := l) (q := q) (by simpa using hq) (fun k hk => by have := h1 (k + 1) (by omega); simpa using this) (fun k hk hk2 => by have := h2 (k + 1) (by omega) (by simp; omega); simpa using this)
    unfold putK
    rw [if_pos this, ih]
    simp only [List.getD_cons_succ, List.length_cons, Nat.add_lt_add_iff_right]
    split <;> simp
/-- What is taken out. -/
def delK (t : Int) (l : List (Int × β)) : List (Int × β) := l.filter fun x => !decide (x.1 = t)
theorem find_delK (k t : Int) (l : List (Int × β)) : find k (delK t l) = if k = t then none else find k l := by
  have := find_filter_key (fun c => !decide (c = t)) k l
  unfold delK
  rw [this]
  by_cases e : k = t <;> simp [e]
theorem srt_filter {p : Int × β → Bool} {l : List (Int × β)} (h : Srt l) : Srt (l.filter p) := h.filter p
theorem srt_delK {t : Int} {l : List (Int × β)} (h : Srt l) : Srt (delK t l) := srt_filter h
theorem len_delK (t : Int) {l : List (Int × β)} (h : Srt l) : (delK t l).length + (if (find t l).isSome then 1 else 0) = l.length := by
  induction l with
  | nil => simp [delK, find]
  | cons y l ih =>
    obtain ⟨h1, h2⟩ := srt_cons.1 h
    by_cases e : y.1 = t
    · have hn : find t l = none := h1.find (by omega)
      have : delK t (y :: l) = l := by
        unfold delK
        rw [List.filter_cons, if_neg (by simp [e])]
        exact filter_find t l hn
      rw [this]; simp [find, e]
    · have := ih h2
      simp only [delK, List.filter_cons, find, if_neg e] at this ⊢
      rw [if_pos (by simp [e])]
      simp only [List.length_cons]
      omega
theorem find_mem {k : Int} {v : β} {l : List (Int × β)} (h : find k l = some v) : (k, v) ∈ l := by
  induction l with
  | nil => simp [find] at h
  | cons y l ih =>
    simp only [find] at h
    split at h
    · rename_i g; simp only [Option.some.injEq] at h; subst g; subst h; simp
    · exact List.mem_cons_of_mem _ (ih h)
theorem mem_find {x : Int × β} {l : List (Int × β)} (hs : Srt l) (h : x ∈ l) : find x.1 l = some x.2 := by
  induction l with
  | nil => simp at h
  | cons y l ih =>
    obtain ⟨h1, h2⟩ := srt_cons.1 hs
    rcases List.mem_cons.1 h with rfl | h
    · simp [find]
    · have := h1 x h
      simp only [find]; rw [if_neg (by omega)]; exact ih h2 h
end


theorem slices_Clone_Attr_spec (n : Nat) (l : den (.slice TAttr)) (hl : l.length ≤ 4194304) (hn : 0 < n) : slices_Clone_Attr n l = some (l, ()) := by
  obtain ⟨n, rfl⟩ : ∃ k, n = k + 1 := ⟨n - 1, by omega⟩
  rw [slices_Clone_Attr, decide_eq_true (show (0 + l.length) * 48 ≤ 140737488355328 by omega)]; rfl

theorem attrs_With_spec (n : Nat) (a : den LAttr) (x : den TAttr) (ha : a.length ≤ 4194303) (hs : Srt a) (hn : 4194320 ≤ n) : attrs_With n a x = some (putK x a) := by
  obtain ⟨n, rfl⟩ : ∃ k, n = k + 2 := ⟨n - 2, by omega⟩
  obtain ⟨q, h1, h2, h3, h4⟩ := attrs_find_spec (n + 1) a x.1 (by omega) hs (by omega)
  rw [attrs_With, attrs_With_top, h4, Option.bind_some, putK_at (d := dflt TAttr) h1 h2 h3]
  by_cases g : q < a.length ∧ (a.getD q (dflt TAttr)).1 = x.1
  · have g' : (q : Int) < (a.length : Int) := by omega
    simp only [decide_eq_true g, cond_true, slices_Clone_Attr_spec (n + 1) a (by omega) (by omega), Option.bind_some, g', Int.natCast_nonneg, decide_true, Bool.and_self, Int.toNat_natCast]
    rw [if_pos g]
  · have g' : (q : Int) ≤ (a.length : Int) := by omega
    simp only [decide_eq_false g, cond_false, slices_Clone_Attr_spec (n + 1) a (by omega) (by omega), Option.bind_some]
    rw [slices_Insert_Attr, decide_eq_true g', decide_eq_true (Int.natCast_nonneg q), decide_eq_true (show (a.length + [x].length) * 48 ≤ 140737488355328 by simp only [List.length_cons, List.length_nil]; omega), decide_eq_true (show 0 < [x].length by simp)]
    rw [if_neg g]
    rfl
theorem attrs_Without_1_spec (n : Nat) (x : den TAttr) (t : Int) (hn : 1 ≤ n) : attrs_Without_1 n x t = some (decide (x.1 = t)) := by
  obtain ⟨n, rfl⟩ : ∃ k, n = k + 1 := ⟨n - 1, by omega⟩
  rfl

theorem slices_IndexFunc_Attr__attrs_Without_1_l2_spec (C : den TAttr  → den (.int .i64) → Option Bool) (n : Nat) (s : den (.slice TAttr)) (t : den (.int .i64)) (d : den TAttr → Bool) (hC : ∀ x, C x t = some (d x)) (hs : s.length ≤ 4194304) :
    ∀ (m i : Nat), s.length - i < m → i ≤ s.length → (∀ x ∈ s.take i, d x = false) →
      (slices_IndexFunc_Attr__attrs_Without_1_l2 C n m s t (s.length : Int) (i : Int) = some (-1) ∧ ∀ x ∈ s, d x = false) ∨ ∃ k : Nat, slices_IndexFunc_Attr__attrs_Without_1_l2 C n m s t (s.length : Int) (i : Int) = some (k : Int) ∧ k < s.length ∧ (∀ x ∈ s.take k, d x = false) ∧ d (s.getD k (dflt TAttr)) = true := by
  intro m
  induction m with
  | zero => intro i h; omega
  | succ m ih =>
    intro i hm hi hp
    rw [slices_IndexFunc_Attr__attrs_Without_1_l2, slices_IndexFunc_Attr__attrs_Without_1_s2]
    by_cases h : i < s.length
    · have h' : (i : Int) < (s.length : Int) := by omega
      simp only [h', decide_true, cond_true, Int.natCast_nonneg, Bool.and_self, Int.toNat_natCast, hC, Option.bind_some]
      rw [w64s (n := i) (by omega)]
      cases g : d (s.getD i (dflt TAttr)) with
      | true => exact .inr ⟨i, rfl, h, hp, g⟩
      | false =>
        rw [cond_false]
        refine ih (i + 1) (by omega) (by omega) fun x hx => ?_
        rw [take_succ_getD h (dflt TAttr)] at hx
        rcases List.mem_append.1 hx with hx | hx
        · exact hp x hx
        · simp only [List.mem_singleton] at hx; rw [hx]; exact g
    · have h' : ¬ (i : Int) < (s.length : Int) := by omega
      simp only [h', decide_false, cond_false]
      refine .inl ⟨trivial, fun x hx => hp x ?_⟩
      rw [List.take_of_length_le (by omega)]; exact hx
theorem slices_IndexFunc_Attr__attrs_Without_1_spec (n : Nat) (s : den (.slice TAttr)) (t : den (.int .i64)) (d : den TAttr → Bool) (B : Nat) (hC : ∀ n, B ≤ n → ∀ x, attrs_Without_1 n x t = some (d x)) (hs : s.length ≤ 4194304) (hn : 4194310 + B ≤ n) :
    (slices_IndexFunc_Attr__attrs_Without_1 n s t = some (-1) ∧ ∀ x ∈ s, d x = false) ∨ ∃ k : Nat, slices_IndexFunc_Attr__attrs_Without_1 n s t = some (k : Int) ∧ k < s.length ∧ (∀ x ∈ s.take k, d x = false) ∧ d (s.getD k (dflt TAttr)) = true := by
  obtain ⟨n, rfl⟩ : ∃ k, n = k + 1 := ⟨n - 1, by omega⟩
  rw [slices_IndexFunc_Attr__attrs_Without_1, slices_IndexFunc_Attr__attrs_Without_1_top]
  exact slices_IndexFunc_Attr__attrs_Without_1_l2_spec (attrs_Without_1 n) n s t d (hC n (by omega)) hs n 0 (by omega) (by omega) (by simp)

theorem slices_DeleteFunc_Attr__attrs_Without_1_l5_spec (Cx : den (.slice TAttr)  → den (.int .i64) → Option Int) (C : den TAttr  → den (.int .i64) → Option Bool) (n : Nat) (s : den (.slice TAttr)) (t : den (.int .i64)) (d : den TAttr → Bool) (hC : ∀ x, C x t = some (d x)) (hs : s.length ≤ 4194304) :
    ∀ (m i j : Nat) (o : den (.slice TAttr)), s.length - j < m → i < j → j ≤ s.length → o.length = s.length → o.take i = (s.take j).filter (fun x => !d x) → o.drop j = s.drop j →
      slices_DeleteFunc_Attr__attrs_Without_1_l5 Cx C n m t (i : Int) (j : Int) o = some (s.filter (fun x => !d x), ((), ())) := by
  intro m
  induction m with
  | zero => intro i j o h; omega
  | succ m ih =>
    intro i j o hm hij hj hl h1 h2
    rw [slices_DeleteFunc_Attr__attrs_Without_1_l5, slices_DeleteFunc_Attr__attrs_Without_1_s5]
    by_cases h : j < s.length
    · have h' : (j : Int) < (o.length : Int) := by omega
      have hi' : (i : Int) < (o.length : Int) := by omega
      obtain ⟨e, hy, hno⟩ := shift_step (fun x => !d x) (dflt TAttr) s o i j hij h hl h1 h2
      simp only [h', hi', decide_true, cond_true, Int.natCast_nonneg, Bool.and_self, Int.toNat_natCast, hC, Option.bind_some]
      rw [w64s (n := i) (by omega), w64s (n := j) (by omega), e]
      cases g : d (s.getD j (dflt TAttr)) with
      | true =>
        obtain ⟨q1, q2⟩ := hno (by rw [g]; rfl)
        simp only [Bool.not_true, cond_false]
        exact ih i (j + 1) o (by omega) (by omega) (by omega) hl q1 q2
      | false =>
        obtain ⟨q1, q2⟩ := hy (by rw [g]; rfl)
        rw [e] at q1 q2
        simp only [Bool.not_false, cond_true]
        exact ih (i + 1) (j + 1) _ (by omega) (by omega) (by omega) (by rw [List.length_set]; exact hl) q1 q2
    · have h' : ¬ (j : Int) < (o.length : Int) := by omega
      have hi' : (i : Int) ≤ (o.length : Int) := by omega
      have hli : (o.take i).length = i := by rw [List.length_take]; omega
      have h3 : (i : Int) ≤ ((o.take i ++ List.replicate (o.length - i) (dflt TAttr)).length : Int) := by rw [List.length_append, hli]; omega
      simp only [h', decide_false, cond_false, hi', h3, decide_true, Int.natCast_nonneg, Bool.and_self, cond_true, Int.toNat_natCast]
      have e1 : (o.take i ++ List.replicate (o.length - i) (dflt TAttr)).take i = o.take i := by
        rw [List.take_append_of_le_length (by omega), List.take_of_length_le (by omega)]
      rw [e1, h1, List.take_of_length_le (by omega)]
theorem slices_DeleteFunc_Attr__attrs_Without_1_spec (n : Nat) (t : den (.int .i64)) (s : den (.slice TAttr)) (d : den TAttr → Bool) (B : Nat) (hC : ∀ n, B ≤ n → ∀ x, attrs_Without_1 n x t = some (d x)) (hs : s.length ≤ 4194304) (hn : 4194320 + B ≤ n) : slices_DeleteFunc_Attr__attrs_Without_1 n t s = some (s.filter (fun x => !d x), ((), ())) := by
  obtain ⟨n, rfl⟩ : ∃ k, n = k + 1 := ⟨n - 1, by omega⟩
  rw [slices_DeleteFunc_Attr__attrs_Without_1, slices_DeleteFunc_Attr__attrs_Without_1_top]
  rcases slices_IndexFunc_Attr__attrs_Without_1_spec n s t d B hC hs (by omega) with ⟨h1, h2⟩ | ⟨k, h1, h2, h3, h4⟩
  · rw [h1, Option.bind_some, notAny h2]; rfl
  · rw [h1, Option.bind_some]
    have hne : ¬ (k : Int) = -1 := by omega
    rw [decide_eq_false hne, cond_false, w64s (n := k) (by omega)]
    refine slices_DeleteFunc_Attr__attrs_Without_1_l5_spec _ (attrs_Without_1 n) n s t d (hC n (by omega)) hs n k (k + 1) s (by omega) (by omega) (by omega) rfl ?_ rfl
    rw [take_succ_getD h2 (dflt TAttr), List.filter_append, notAny h3]
    simp only [List.filter_cons, h4, Bool.not_true, Bool.false_eq_true, if_false, List.filter_nil, List.append_nil]

theorem attrs_Without_spec (n : Nat) (a : den LAttr) (t : Int) (ha : a.length ≤ 4194304) (hn : 4194330 ≤ n) : attrs_Without n a t = some (delK t a) := by
  obtain ⟨n, rfl⟩ : ∃ k, n = k + 1 := ⟨n - 1, by omega⟩
  rw [attrs_Without, attrs_Without_top, slices_Clone_Attr_spec n a ha (by omega), Option.bind_some, slices_DeleteFunc_Attr__attrs_Without_1_spec n t a (fun x => decide (x.1 = t)) 1 (fun n hn x => attrs_Without_1_spec n x t hn) ha (by omega)]; rfl

theorem slices_Equal_Attr_l4_spec (n : Nat) : ∀ (m i : Nat) (a b : den (.slice TAttr)), a.length = b.length → a.length ≤ 4194304 → a.length - i < m → slices_Equal_Attr_l4 n m a b (a.length : Int) (i : Int) = some (decide (a.drop i = b.drop i)) := by
  intro m
  induction m with
  | zero => intro i a b h0 h1 h; omega
  | succ m ih =>
    intro i a b hl ha hm
    rw [slices_Equal_Attr_l4, slices_Equal_Attr_s4]
    by_cases h : i < a.length
    · have h' : (i : Int) < (a.length : Int) := by omega
      have h2 : (i : Int) < (b.length : Int) := by omega
      simp only [h', h2, decide_true, cond_true, Int.natCast_nonneg, Bool.and_self, Int.toNat_natCast]
      rw [w64s (n := i) (by omega), ih (i + 1) a b hl ha (by omega)]
      rw [drop_getD h (dflt TAttr), drop_getD (show i < b.length by omega) (dflt TAttr)]
      cases g : eqT TAttr (a.getD i (dflt TAttr)) (b.getD i (dflt TAttr)) with
      | true => rw [(eqT_iff TAttr _ _ rfl).1 g]; simp
      | false =>
        have : ¬ a.getD i (dflt TAttr) = b.getD i (dflt TAttr) := fun e => by rw [(eqT_iff TAttr _ _ rfl).2 e] at g; cases g
        rw [Bool.not_false, cond_true]
        simp only [List.cons.injEq, this, false_and, decide_false]
    · have h' : ¬ (i : Int) < (a.length : Int) := by omega
      rw [List.drop_eq_nil_of_le (by omega), List.drop_eq_nil_of_le (show b.length ≤ i by omega)]
      simp only [h', decide_false, cond_false, decide_true]
theorem slices_Equal_Attr_spec (n : Nat) (a b : den (.slice TAttr)) (ha : a.length ≤ 4194304) (hn : 4194307 ≤ n) : slices_Equal_Attr n a b = some (decide (a = b)) := by
  obtain ⟨n, rfl⟩ : ∃ k, n = k + 1 := ⟨n - 1, by omega⟩
  rw [slices_Equal_Attr, slices_Equal_Attr_top]
  by_cases h : a.length = b.length
  · rw [show decide ((a.length : Int) = (b.length : Int)) = true from decide_eq_true (by omega)]
    have := slices_Equal_Attr_l4_spec n n 0 a b h ha (by omega)
    simp only [Bool.not_true, cond_false]
    simpa using this
  · rw [show decide ((a.length : Int) = (b.length : Int)) = false from decide_eq_false (by omega), decide_eq_false (fun e => h (by rw [e]))]; rfl

theorem attrs_Same_spec (n : Nat) (a b : den LAttr) (ha : a.length ≤ 4194304) (hn : 4194310 ≤ n) : attrs_Same n a b = some (decide (a = b)) := by
  obtain ⟨n, rfl⟩ : ∃ k, n = k + 1 := ⟨n - 1, by omega⟩
  rw [attrs_Same, attrs_Same_top, slices_Equal_Attr_spec n a b ha (by omega)]; rfl
theorem attrs_Copy_spec (n : Nat) (a : den LAttr) (ha : a.length ≤ 4194304) (hn : 2 ≤ n) : attrs_Copy n a = some a := by
  obtain ⟨n, rfl⟩ : ∃ k, n = k + 1 := ⟨n - 1, by omega⟩
  rw [attrs_Copy, attrs_Copy_top, slices_Clone_Attr_spec n a ha (by omega)]; rfl
end Go.Proofs.Ytecangnmmbcbkaa.Ab
