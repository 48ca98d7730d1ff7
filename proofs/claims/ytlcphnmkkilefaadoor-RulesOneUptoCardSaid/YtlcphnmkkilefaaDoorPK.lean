/- Plain laws of this seat's printed functions (picked). -/
import Derived.Test.YtlcphnmkkilefaaDoorP1
import Derived.Test.YtlcphnmkkilefaaDoorPL
import Derived.Test.YtlcphnmkkilefaaDoorG
set_option linter.unusedVariables false
set_option linter.unusedSimpArgs false
set_option maxRecDepth 10000
namespace Go.Proofs.YtlcphnmkkilefaaDoor.Ab
open Go Classical
noncomputable abbrev zv : den TValue := (0, (0, (0, ((⟨#[]⟩ : ByteArray), ()))))
noncomputable abbrev eqv : den TValue → den TValue → Bool := eqT TValue
theorem eqv_iff (u v : den TValue) : eqv u v = true ↔ u = v := eqT_iff TValue u v rfl

theorem patch_Apply_l6_spec (n : Nat) (a : den LAttr) (p : den LChange) (j : Nat) (c : den TChange) (rest : den LChange) (ha : a.length ≤ 4194304) (hj : j ≤ 4194304)
    (LS4 : den (LAttr) → den (.int .i64) → den (LChange) → den (.int .i64) → den (.int .i64) → den (LAttr) → Option (denR (.one (LAttr))))
    (hLS : ∀ (i' : Nat) (out' : den LAttr), i' ≤ a.length → out'.length ≤ i' + (j + 1) → LS4 a (i' : Int) p (p.length : Int) ((j + 1 : Nat) : Int) out' = some (out' ++ applyS (a.drop i') rest)) :
    ∀ (m i : Nat) (out : den LAttr), a.length - i < m → i ≤ a.length → out.length ≤ i + j →
      patch_Apply_l6 n LS4 m a (i : Int) p (p.length : Int) (j : Int) out c = some (out ++ applyS (a.drop i) (c :: rest)) := by
  intro m
  induction m with
  | zero => intro i out h; omega
  | succ m ih =>
    intro i out hm hi ho
    have b1 : ∀ y : den TAttr, decide ((out.length + ([y] : List (den TAttr)).length) * 48 ≤ 140737488355328) = true := fun y => decide_eq_true (by simp only [List.length_singleton]; omega)
    rw [patch_Apply_l6, patch_Apply_s6]
    by_cases h : i < a.length
    · have hi' : (i : Int) < (a.length : Int) := by omega
      rw [drop_getD h (dflt TAttr)]
      simp only [hi', decide_true, cond_true, Int.natCast_nonneg, Bool.and_self, Int.toNat_natCast, b1]
      rw [w64s (n := i) (by omega), w64s (n := j) (by omega), applyS]
      by_cases g : (a.getD i (dflt TAttr)).1 < c.1
      · rw [if_pos g, decide_eq_true g, cond_true, ih (i + 1) (out ++ [a.getD i (dflt TAttr)]) (by omega) (by omega) (by simp; omega)]
        simp
      · rw [if_neg g, decide_eq_false g, cond_false]
        by_cases g2 : (a.getD i (dflt TAttr)).1 = c.1
        · rw [if_pos g2, decide_eq_true g2, cond_true]
          unfold put
          cases hb : c.2.1
          · simp only [Bool.not_false, cond_true]
            rw [hLS _ _ (by omega) (by simp; omega)]; simp
          · simp only [Bool.not_true, cond_false]
            rw [hLS _ _ (by omega) (by omega)]; simp
        · rw [if_neg g2, decide_eq_false g2, cond_false]
          rw [← drop_getD h (dflt TAttr)]
          unfold put
          cases hb : c.2.1
          · simp only [Bool.not_false, cond_true]
            rw [hLS _ _ (by omega) (by simp; omega)]; simp
          · simp only [Bool.not_true, cond_false]
            rw [hLS _ _ (by omega) (by omega)]; simp
    · have hi' : ¬ (i : Int) < (a.length : Int) := by omega
      have e : a.drop i = [] := List.drop_eq_nil_of_le (by omega)
      simp only [hi', decide_false, cond_false, b1, cond_true]
      rw [w64s (n := j) (by omega)]
      have hL := fun out' h => hLS i out' hi h
      rw [e] at hL ⊢
      rw [applyS]
      unfold put
      cases hb : c.2.1
      · simp only [Bool.not_false, cond_true]
        rw [hL _ (by simp; omega)]; simp
      · simp only [Bool.not_true, cond_false]
        rw [hL _ (by omega)]; simp
theorem patch_Apply_l4_spec (n : Nat) (a : den LAttr) (p : den LChange) (ha : a.length ≤ 4194304) (hp : p.length ≤ 4194304) (hn : a.length < n) :
    ∀ (m i j : Nat) (out : den LAttr), p.length - j < m → i ≤ a.length → j ≤ p.length → out.length ≤ i + j →
      patch_Apply_l4 n m a (i : Int) p (p.length : Int) (j : Int) out = some (out ++ applyS (a.drop i) (p.drop j)) := by
  intro m
  induction m with
  | zero => intro i j out h; omega
  | succ m ih =>
    intro i j out hm hi hj ho
    rw [patch_Apply_l4, patch_Apply_s4]
    by_cases h : j < p.length
    · have hj' : (j : Int) < (p.length : Int) := by omega
      simp only [hj', decide_true, cond_true, Int.natCast_nonneg, Bool.and_self, Int.toNat_natCast]
      rw [drop_getD h (dflt TChange)]
      exact patch_Apply_l6_spec n a p j _ _ ha (by omega) _ (fun i' out' h1 h2 => ih i' (j + 1) out' (by omega) h1 (by omega) h2) n i out (by omega) hi ho
    · have hj' : ¬ (j : Int) < (p.length : Int) := by omega
      have hi' : (i : Int) ≤ (a.length : Int) := by omega
      have e : p.drop j = [] := List.drop_eq_nil_of_le (by omega)
      have b2 : decide ((out.length + (a.drop i).length) * 48 ≤ 140737488355328) = true := decide_eq_true (by rw [List.length_drop]; omega)
      simp only [hj', decide_false, cond_false, hi', decide_true, Int.natCast_nonneg, Bool.and_self, cond_true, Int.toNat_natCast, b2, Int.le_refl, e, applyS]
theorem patch_Apply_spec (n : Nat) (a : den LAttr) (p : den LChange) (ha : a.length ≤ 4194304) (hp : p.length ≤ 4194304) (hn : 4194306 ≤ n) : patch_Apply n a p = some (applyS a p) := by
  obtain ⟨n, rfl⟩ : ∃ k, n = k + 1 := ⟨n - 1, by omega⟩
  rw [patch_Apply, patch_Apply_top]
  have := patch_Apply_l4_spec n a p ha hp (by omega) n 0 0 [] (by omega) (by omega) (by omega) (by simp)
  simpa using this

theorem cmp_Compare_int_spec (n : Nat) (x y : Int) (hn : 2 ≤ n) : cmp_Compare_int n x y = some (if x < y then -1 else if y < x then 1 else 0) := by
  obtain ⟨n, rfl⟩ : ∃ k, n = k + 2 := ⟨n - 2, by omega⟩
  simp only [cmp_Compare_int, cmp_Compare_int_top, cmp_isNaN_int, cmp_isNaN_int_top, decide_true, Bool.not_true, Option.bind_some, cond_false]
  by_cases g : x < y
  · rw [if_pos g, decide_eq_true g]; rfl
  · rw [if_neg g, decide_eq_false g, cond_false]
    by_cases g2 : y < x
    · rw [if_pos g2, decide_eq_true g2]; rfl
    · rw [if_neg g2, decide_eq_false g2]; rfl
theorem attrs_find_1_spec (n : Nat) (x : den TAttr) (y : Int) (hn : 3 ≤ n) : attrs_find_1 n x y = some (if x.1 < y then -1 else if y < x.1 then 1 else 0) := by
  obtain ⟨n, rfl⟩ : ∃ k, n = k + 1 := ⟨n - 1, by omega⟩
  simp only [attrs_find_1, attrs_find_1_top, cmp_Compare_int_spec n _ _ (show 2 ≤ n by omega), Option.bind_some]
theorem slices_BinarySearchFunc_Attr_int__attrs_find_1_l3_spec (C : den TAttr → Int → Option Int) (hC : ∀ x y, C x y = some (if x.1 < y then -1 else if y < x.1 then 1 else 0)) (n : Nat) (x : den LAttr) (t : Int) (hx : x.length ≤ 4194304) (hs : Srt x) :
    ∀ (m i j : Nat), j - i < m → i ≤ j → j ≤ x.length → (∀ k, k < i → (x.getD k (dflt TAttr)).1 < t) → (∀ k, j ≤ k → k < x.length → t ≤ (x.getD k (dflt TAttr)).1) →
      ∃ q : Nat, q ≤ x.length ∧ (∀ k, k < q → (x.getD k (dflt TAttr)).1 < t) ∧ (∀ k, q ≤ k → k < x.length → t ≤ (x.getD k (dflt TAttr)).1) ∧
        slices_BinarySearchFunc_Attr_int__attrs_find_1_l3 C n m x t (x.length : Int) (i : Int) (j : Int) = some ((q : Int), decide (q < x.length ∧ (x.getD q (dflt TAttr)).1 = t)) := by
  intro m
  induction m with
  | zero => intro i j h; omega
  | succ m ih =>
    intro i j hm hij hj h1 h2
    rw [slices_BinarySearchFunc_Attr_int__attrs_find_1_l3, slices_BinarySearchFunc_Attr_int__attrs_find_1_s3, mid_eq (by omega)]
    by_cases h : i < j
    · have h' : (i : Int) < (j : Int) := by omega
      have hl : (i + j) / 2 < x.length := by omega
      have hl' : (((i + j) / 2 : Nat) : Int) < (x.length : Int) := by omega
      have hge : (0 : Int) ≤ (((i + j) / 2 : Nat) : Int) := Int.natCast_nonneg _
      simp only [h', decide_true, cond_true, hge, hl', Bool.and_self, Int.toNat_natCast, hC, Option.bind_some]
      by_cases g : (x.getD ((i + j) / 2) (dflt TAttr)).1 < t
      · rw [if_pos g, w64s (by omega)]
        simp only [show decide ((-1 : Int) < 0) = true from rfl, cond_true]
        refine ih ((i + j) / 2 + 1) j (by omega) (by omega) hj (fun k hk => ?_) h2
        by_cases e : k = (i + j) / 2
        · rw [e]; exact g
        · exact Int.lt_trans (srt_getD hs (dflt TAttr) (show k < (i + j) / 2 by omega) hl) g
      · have hd : decide ((if (x.getD ((i + j) / 2) (dflt TAttr)).1 < t then (-1 : Int) else if t < (x.getD ((i + j) / 2) (dflt TAttr)).1 then 1 else 0) < 0) = false := by
          rw [if_neg g]; split <;> rfl
        rw [hd, cond_false]
        have g0 : t ≤ (x.getD ((i + j) / 2) (dflt TAttr)).1 := Int.not_lt.1 g
        refine ih i ((i + j) / 2) (by omega) (by omega) (by omega) h1 (fun k hk hk2 => ?_)
        by_cases e : k = (i + j) / 2
        · rw [e]; exact g0
        · exact Int.le_of_lt (Int.lt_of_le_of_lt g0 (srt_getD hs (dflt TAttr) (show (i + j) / 2 < k by omega) hk2))
    · have h' : ¬ (i : Int) < (j : Int) := by omega
      obtain rfl : i = j := by omega
      simp only [h', decide_false, cond_false]
      refine ⟨i, hj, h1, h2, ?_⟩
      by_cases g : i < x.length
      · have g' : (i : Int) < (x.length : Int) := by omega
        simp only [g', decide_true, cond_true, Int.natCast_nonneg, Bool.and_self, Int.toNat_natCast, hC, Option.bind_some, g, true_and]
        have := h2 i (by omega) g
        by_cases e : (x.getD i (dflt TAttr)).1 = t
        · rw [if_neg (by rw [e]; exact Int.lt_irrefl _), if_neg (by rw [e]; exact Int.lt_irrefl _), decide_eq_true e]; rfl
        · have e1 : ¬ (x.getD i (dflt TAttr)).1 < t := Int.not_lt.2 this
          have e2 : t < (x.getD i (dflt TAttr)).1 := Int.not_le.1 fun h => e (Int.le_antisymm h this)
          rw [if_neg e1, if_pos e2, decide_eq_false e]; rfl
      · have g' : ¬ (i : Int) < (x.length : Int) := by omega
        simp only [g', decide_false, cond_false, g, false_and]
theorem attrs_find_spec (n : Nat) (x : den LAttr) (t : Int) (hx : x.length ≤ 4194304) (hs : Srt x) (hn : 4194310 ≤ n) :
      ∃ q : Nat, q ≤ x.length ∧ (∀ k, k < q → (x.getD k (dflt TAttr)).1 < t) ∧ (∀ k, q ≤ k → k < x.length → t ≤ (x.getD k (dflt TAttr)).1) ∧
        attrs_find n x t = some ((q : Int), decide (q < x.length ∧ (x.getD q (dflt TAttr)).1 = t)) := by
  obtain ⟨n, rfl⟩ : ∃ k, n = k + 2 := ⟨n - 2, by omega⟩
  obtain ⟨q, h1, h2, h3, h4⟩ := slices_BinarySearchFunc_Attr_int__attrs_find_1_l3_spec (attrs_find_1 n) (fun x y => attrs_find_1_spec n x y (by omega)) n x t hx hs n 0 x.length (by omega) (by omega) (by omega) (by omega) (by omega)
  refine ⟨q, h1, h2, h3, ?_⟩
  have e : slices_BinarySearchFunc_Attr_int__attrs_find_1 (n + 1) x t = some ((q : Int), decide (q < x.length ∧ (x.getD q (dflt TAttr)).1 = t)) := by
    rw [slices_BinarySearchFunc_Attr_int__attrs_find_1, slices_BinarySearchFunc_Attr_int__attrs_find_1_top]; exact h4
  rw [attrs_find, attrs_find_top, e]; rfl
noncomputable def getS (x : den LAttr) (t : Int) : den TValue × Bool := match find t x with
  | some v => (v.1, true)
  | none => (zv, false)
theorem attrs_Get_spec (n : Nat) (x : den LAttr) (t : Int) (hx : x.length ≤ 4194304) (hs : Srt x) (hn : 4194311 ≤ n) : attrs_Get n x t = some (getS x t) := by
  obtain ⟨n, rfl⟩ : ∃ k, n = k + 1 := ⟨n - 1, by omega⟩
  obtain ⟨q, h1, h2, h3, h4⟩ := attrs_find_spec n x t hx hs (by omega)
  rw [attrs_Get, attrs_Get_top, h4, Option.bind_some, getS]
  by_cases g : q < x.length ∧ (x.getD q (dflt TAttr)).1 = t
  · have g' : (q : Int) < (x.length : Int) := by omega
    rw [find_at (dflt TAttr) t x q (fun k hk => Int.ne_of_lt (h2 k hk)) g.1 g.2]
    simp only [decide_eq_true g, Bool.not_true, cond_false, Int.natCast_nonneg, g', decide_true, Bool.and_self, cond_true, Int.toNat_natCast]
  · rw [find_no (dflt TAttr) t x fun k hk => ?_]
    · simp only [decide_eq_false g, Bool.not_false, cond_true]
    · intro he
      rcases Nat.lt_trichotomy k q with e | e | e
      · exact Int.ne_of_lt (h2 k e) he
      · subst e; exact g ⟨hk, he⟩
      · have := srt_getD hs (dflt TAttr) e hk
        have h5 := h3 q (Nat.le_refl _) (by omega)
        rw [he] at this
        exact absurd this (Int.not_lt.2 h5)
theorem ref05_Rising_l2_spec (n : Nat) (a : den LAttr) (ha : a.length ≤ 4194304) : ∀ (m i : Nat), a.length - i < m → i ≤ a.length → (∀ k, k < i → k + 1 < a.length → (a.getD k (dflt TAttr)).1 < (a.getD (k + 1) (dflt TAttr)).1) →
    ref05_Rising_l2 n m a ((i + 1 : Nat) : Int) = some false ∨ ref05_Rising_l2 n m a ((i + 1 : Nat) : Int) = some true ∧ Srt a := by
  intro m
  induction m with
  | zero => intro i h; omega
  | succ m ih =>
    intro i hm hi hr
    rw [ref05_Rising_l2, ref05_Rising_s2]
    have hw : IntKind.wrap .i64 (((i + 1 : Nat) : Int) - 1) = (i : Int) := by
      have : ((i + 1 : Nat) : Int) - 1 = (i : Int) := by omega
      rw [this]; exact w64 (by omega) (by omega)
    rw [hw]
    by_cases h : i + 1 < a.length
    · have h' : ((i + 1 : Nat) : Int) < (a.length : Int) := by omega
      have h2 : (i : Int) < (a.length : Int) := by omega
      simp only [h', h2, decide_true, cond_true, Int.natCast_nonneg, Bool.and_self, Int.toNat_natCast]
      by_cases g : (a.getD (i + 1) (dflt TAttr)).1 ≤ (a.getD i (dflt TAttr)).1
      · exact .inl (by rw [decide_eq_true g, cond_true])
      · rw [decide_eq_false g, cond_false, w64s (n := i + 1) (by omega)]
        refine ih (i + 1) (by omega) (by omega) fun k hk hk2 => ?_
        by_cases e : k = i
        · subst e; exact Int.not_le.1 g
        · exact hr k (by omega) hk2
    · have h' : ¬ ((i + 1 : Nat) : Int) < (a.length : Int) := by omega
      simp only [h', decide_false, cond_false]
      exact .inr ⟨trivial, srt_of_getD (dflt TAttr) fun k hk => hr k (by omega) hk⟩
theorem ref05_Rising_spec (n : Nat) (a : den LAttr) (ha : a.length ≤ 4194304) (hn : 4194306 ≤ n) : ref05_Rising n a = some false ∨ ref05_Rising n a = some true ∧ Srt a := by
  obtain ⟨n, rfl⟩ : ∃ k, n = k + 1 := ⟨n - 1, by omega⟩
  rw [ref05_Rising, ref05_Rising_top]
  exact ref05_Rising_l2_spec n a ha n 0 (by omega) (by omega) (by omega)
section
variable {β : Type}
theorem abv_putK {k : Int} {x : Int × β} {l : List (Int × β)} (hx : k < x.1) (h : Abv k l) : Abv k (putK x l) := by
  induction l with
  | nil => exact abv_cons.2 ⟨hx, abv_nil⟩
  | cons y l ih =>
    obtain ⟨h1, h2⟩ := abv_cons.1 h
    unfold putK
    split
    · exact abv_cons.2 ⟨h1, ih h2⟩
    · split
      · exact abv_cons.2 ⟨hx, h2⟩
      · exact abv_cons.2 ⟨hx, h⟩
theorem srt_putK {x : Int × β} {l : List (Int × β)} (h : Srt l) : Srt (putK x l) := by
  induction l with
  | nil => exact srt_cons.2 ⟨abv_nil, srt_nil⟩
  | cons y l ih =>
    obtain ⟨h1, h2⟩ := srt_cons.1 h
    unfold putK
    split
    · rename_i g; exact srt_cons.2 ⟨abv_putK g h1, ih h2⟩
    · split
      · rename_i g; exact srt_cons.2 ⟨h1.mono (by omega), h2⟩
      · exact srt_cons.2 ⟨abv_cons.2 ⟨by omega, h1.mono (by omega)⟩, h⟩
theorem find_putK (k : Int) {x : Int × β} {l : List (Int × β)} (h : Srt l) : find k (putK x l) = if x.1 = k then some x.2 else find k l := by
  induction l with
  | nil => simp [putK, find]
  | cons y l ih =>
    obtain ⟨h1, h2⟩ := srt_cons.1 h
    unfold putK
    split
    · rename_i g
      simp only [find, ih h2]
      by_cases e : y.1 = k
      · rw [if_pos e, if_pos e, if_neg (by omega)]
      · rw [if_neg e, if_neg e]
    · split
      · rename_i g
        simp only [find]
        by_cases e : x.1 = k
        · rw [if_pos e, if_pos e]
        · rw [if_neg e, if_neg e, if_neg (by omega)]
      · simp only [find]
theorem len_putK {x : Int × β} {l : List (Int × β)} : l.length ≤ (putK x l).length ∧ (putK x l).length ≤ l.length + 1 := by
  induction l with
  | nil => simp [putK]
  | cons y l ih =>
    unfold putK
    split
    · simp only [List.length_cons]; omega
    · split <;> simp
theorem putK_at {x d : Int × β} : ∀ {l : List (Int × β)} {q : Nat}, q ≤ l.length → (∀ k, k < q → (l.getD k d).1 < x.1) → (∀ k, q ≤ k → k < l.length → x.1 ≤ (l.getD k d).1) →
    putK x l = if q < l.length ∧ (l.getD q d).1 = x.1 then l.set q x else l.take q ++ [x] ++ l.drop q
  | [], q, hq, _, _ => by
    obtain rfl : q = 0 := by simpa using hq
    simp [putK]
  | y :: l, 0, _, _, h2 => by
    have := h2 0 (by omega) (by simp)
    simp only [List.getD_cons_zero] at this ⊢
    unfold putK
    rw [if_neg (by omega)]
    by_cases e : y.1 = x.1
    · rw [if_pos e, if_pos ⟨by simp, e⟩]; rfl
    · rw [if_neg e, if_neg (fun h => e h.2)]; rfl
  | y :: l, q + 1, hq, h1, h2 => by
    have := h1 0 (by omega)
    simp only [List.getD_cons_zero] at this
    have ih := putK_at (x := x) (d := d) (l := l) (q := q) (by simpa using hq) (fun k hk => by have := h1 (k + 1) (by omega); simpa using this) (fun k hk hk2 => by have := h2 (k + 1) (by omega) (by simp; omega); simpa using this)
    unfold putK
    rw [if_pos this, ih]
    simp only [List.getD_cons_succ, List.length_cons, Nat.add_lt_add_iff_right]
    split <;> simp
/-- What is taken out. -/
def delK (t : Int) (l : List (Int × β)) : List (Int × β) := l.filter fun x => !decide (x.1 = t)
theorem find_delK (k t : Int) (l : List (Int × β)) : find k (delK t l) = if k = t then none else find k l := by
  have := find_filter_key (fun c => !decide (c = t)) k l
  unfold delK
  rw [this]
  by_cases e : k = t <;> simp [e]
theorem srt_filter {p : Int × β → Bool} {l : List (Int × β)} (h : Srt l) : Srt (l.filter p) := h.filter p
theorem srt_delK {t : Int} {l : List (Int × β)} (h : Srt l) : Srt (delK t l) := srt_filter h
theorem len_delK (t : Int) {l : List (Int × β)} (h : Srt l) : (delK t l).length + (if (find t l).isSome then 1 else 0) = l.length := by
  induction l with
  | nil => simp [delK, find]
  | cons y l ih =>
    obtain ⟨h1, h2⟩ := srt_cons.1 h
    by_cases e : y.1 = t
    · have hn : find t l = none := h1.find (by omega)
      have : delK t (y :: l) = l := by
        unfold delK
        rw [List.filter_cons, if_neg (by simp [e])]
        exact filter_find t l hn
      rw [this]; simp [find, e]
    · have := ih h2
      simp only [delK, List.filter_cons, find, if_neg e] at this ⊢
      rw [if_pos (by simp [e])]
      simp only [List.length_cons]
      omega
theorem find_mem {k : Int} {v : β} {l : List (Int × β)} (h : find k l = some v) : (k, v) ∈ l := by
  induction l with
  | nil => simp [find] at h
  | cons y l ih =>
    simp only [find] at h
    split at h
    · rename_i g; simp only [Option.some.injEq] at h; subst g; subst h; simp
    · exact List.mem_cons_of_mem _ (ih h)
theorem mem_find {x : Int × β} {l : List (Int × β)} (hs : Srt l) (h : x ∈ l) : find x.1 l = some x.2 := by
  induction l with
  | nil => simp at h
  | cons y l ih =>
    obtain ⟨h1, h2⟩ := srt_cons.1 hs
    rcases List.mem_cons.1 h with rfl | h
    · simp [find]
    · have := h1 x h
      simp only [find]; rw [if_neg (by omega)]; exact ih h2 h
end


theorem slices_Equal_Attr_l4_spec (n : Nat) : ∀ (m i : Nat) (a b : den (.slice TAttr)), a.length = b.length → a.length ≤ 4194304 → a.length - i < m → slices_Equal_Attr_l4 n m a b (a.length : Int) (i : Int) = some (decide (a.drop i = b.drop i)) := by
  intro m
  induction m with
  | zero => intro i a b h0 h1 h; omega
  | succ m ih =>
    intro i a b hl ha hm
    rw [slices_Equal_Attr_l4, slices_Equal_Attr_s4]
    by_cases h : i < a.length
    · have h' : (i : Int) < (a.length : Int) := by omega
      have h2 : (i : Int) < (b.length : Int) := by omega
      simp only [h', h2, decide_true, cond_true, Int.natCast_nonneg, Bool.and_self, Int.toNat_natCast]
      rw [w64s (n := i) (by omega), ih (i + 1) a b hl ha (by omega)]
      rw [drop_getD h (dflt TAttr), drop_getD (show i < b.length by omega) (dflt TAttr)]
      cases g : eqT TAttr (a.getD i (dflt TAttr)) (b.getD i (dflt TAttr)) with
      | true => rw [(eqT_iff TAttr _ _ rfl).1 g]; simp
      | false =>
        have : ¬ a.getD i (dflt TAttr) = b.getD i (dflt TAttr) := fun e => by rw [(eqT_iff TAttr _ _ rfl).2 e] at g; cases g
        rw [Bool.not_false, cond_true]
        simp only [List.cons.injEq, this, false_and, decide_false]
    · have h' : ¬ (i : Int) < (a.length : Int) := by omega
      rw [List.drop_eq_nil_of_le (by omega), List.drop_eq_nil_of_le (show b.length ≤ i by omega)]
      simp only [h', decide_false, cond_false, decide_true]
theorem slices_Equal_Attr_spec (n : Nat) (a b : den (.slice TAttr)) (ha : a.length ≤ 4194304) (hn : 4194307 ≤ n) : slices_Equal_Attr n a b = some (decide (a = b)) := by
  obtain ⟨n, rfl⟩ : ∃ k, n = k + 1 := ⟨n - 1, by omega⟩
  rw [slices_Equal_Attr, slices_Equal_Attr_top]
  by_cases h : a.length = b.length
  · rw [show decide ((a.length : Int) = (b.length : Int)) = true from decide_eq_true (by omega)]
    have := slices_Equal_Attr_l4_spec n n 0 a b h ha (by omega)
    simp only [Bool.not_true, cond_false]
    simpa using this
  · rw [show decide ((a.length : Int) = (b.length : Int)) = false from decide_eq_false (by omega), decide_eq_false (fun e => h (by rw [e]))]; rfl

theorem attrs_Same_spec (n : Nat) (a b : den LAttr) (ha : a.length ≤ 4194304) (hn : 4194310 ≤ n) : attrs_Same n a b = some (decide (a = b)) := by
  obtain ⟨n, rfl⟩ : ∃ k, n = k + 1 := ⟨n - 1, by omega⟩
  rw [attrs_Same, attrs_Same_top, slices_Equal_Attr_spec n a b ha (by omega)]; rfl
end Go.Proofs.YtlcphnmkkilefaaDoor.Ab
