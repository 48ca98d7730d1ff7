/- The laws AttrsOrder and AttrsSame. -/
import Derived.Test.YtecangnmmbcbkaaPA
set_option linter.unusedVariables false
set_option linter.unusedSimpArgs false
set_option maxRecDepth 10000
namespace Go.Proofs.Ytecangnmmbcbkaa.Ab
open Go Classical
theorem law05_great_some (n : Nat) (a : den LAttr) (ha : a.length ≤ 4194304) (hn : 4194310 ≤ n) : ∃ b, law05_great n a = some b := by
  obtain ⟨n, rfl⟩ : ∃ k, n = k + 1 := ⟨n - 1, by omega⟩
  rw [law05_great, law05_great_top]
  have := law05_great_l2_list n n 0 a (by omega) (by omega) (by omega)
  simp only [Int.natCast_zero, List.drop_zero] at this
  suffices h : ∃ b, law05_great_g2 a a = some b by
    obtain ⟨b, hb⟩ := h
    exact ⟨b, this.trans hb⟩
  have : ∀ (r a : den LAttr), ∃ b, law05_great_g2 r a = some b := by
    intro r
    induction r with
    | nil => intro a; exact ⟨_, rfl⟩
    | cons x r ih =>
      intro a
      simp only [law05_great_g2]
      cases decide ((200 : Int) < (ByteArray.size x.2.1.2.2.2.1 : Int)) with
      | true => exact ⟨_, rfl⟩
      | false => exact ih a
  exact this a a
theorem law05_known_at : law05_known 8388607 = some true := by kernel_rfl

noncomputable def ordF (a : den LAttr) (l : List (den TAttr)) : den LAttr := l.foldl (fun a x => putK x a) a
noncomputable def ordB (a : den LAttr) (l : List (den TAttr)) : den LAttr := l.foldl (fun a x => if (find x.1 a).isSome then a else putK x a) a
theorem ordF_srt : ∀ (l : List (den TAttr)) (a : den LAttr), Srt a → Srt (ordF a l)
  | [], a, h => h
  | x :: l, a, h => ordF_srt l _ (srt_putK h)
theorem ordB_srt : ∀ (l : List (den TAttr)) (a : den LAttr), Srt a → Srt (ordB a l)
  | [], a, h => h
  | x :: l, a, h => by
    simp only [ordB, List.foldl_cons]
    split
    · exact ordB_srt l a h
    · exact ordB_srt l _ (srt_putK h)
theorem ordF_len : ∀ (l : List (den TAttr)) (a : den LAttr), (ordF a l).length ≤ a.length + l.length
  | [], a => by simp [ordF]
  | x :: l, a => by
    have h1 := ordF_len l (putK x a)
    have h2 := (len_putK (x := x) (l := a)).2
    simp only [ordF, List.foldl_cons, List.length_cons] at *; omega
theorem find_ordF (k : Int) : ∀ (l : List (den TAttr)) (a : den LAttr), Srt a → find k (ordF a l) = (find k l.reverse).or (find k a) := by
  intro l
  induction l with
  | nil => intro a h; rfl
  | cons x l ih =>
    intro a h
    simp only [ordF, List.foldl_cons] at ih ⊢
    rw [ih _ (srt_putK h), find_putK k h, List.reverse_cons]
    have : ∀ m : List (den TAttr), find k (m ++ [x]) = (find k m).or (find k [x]) := by
      intro m
      induction m with
      | nil => rfl
      | cons y m ih => simp only [List.cons_append, find]; split <;> simp_all [find]
    rw [this]
    simp only [find]
    cases find k l.reverse <;> simp <;> split <;> simp_all
theorem find_ordB (k : Int) : ∀ (l : List (den TAttr)) (a : den LAttr), Srt a → find k (ordB a l) = (find k a).or (find k l) := by
  intro l
  induction l with
  | nil => intro a h; simp [ordB, find]
  | cons x l ih =>
    intro a h
    simp only [ordB, List.foldl_cons] at ih ⊢
    split
    · rename_i g
      rw [ih a h]
      simp only [find]
      by_cases e : x.1 = k
      · subst e
        obtain ⟨v, hv⟩ := Option.isSome_iff_exists.1 g
        simp [hv]
      · simp [e]
    · rename_i g
      rw [ih _ (srt_putK h), find_putK k h]
      simp only [find]
      by_cases e : x.1 = k
      · subst e
        have : find x.1 a = none := by simpa using g
        simp [this]
      · simp [e]
theorem ord_same (l : List (den TAttr)) : ordF [] l = ordB [] l.reverse :=
  srt_ext (ordF_srt l [] srt_nil) (ordB_srt _ [] srt_nil) fun k => by
    rw [find_ordF k l [] srt_nil, find_ordB k _ [] srt_nil]
    simp [find]

theorem getS_find {a : den LAttr} {t : Int} : (getS a t).2 = (find t a).isSome := by
  unfold getS
  cases find t a <;> rfl
section
variable (n : Nat) (l a : den LAttr) (key : Int)
theorem order_g20 (hn : 4194400 ≤ n) (hk : law05_known n = some true) (ha : a.length ≤ 4194000) (hs : Srt a) : ∀ (r : List (den TAttr)) (i : Nat), a.drop i = r →
    law05_AttrsOrder_g20 (law05_known n) (law05_great n) (attrs_With n) (attrs_Get n) (attrs_Same n) (attrs_Without n) r key a (i : Int) = some true := by
  intro r
  induction r with
  | nil =>
    intro i _
    have h1 := len_delK key hs
    have h2 : (delK key a).length ≤ a.length := by omega
    simp only [law05_AttrsOrder_g20, attrs_Without_spec n a key (by omega) (by omega), Option.bind_some, attrs_Get_spec n a key (by omega) hs (by omega), attrs_Get_spec n _ key (show (delK key a).length ≤ 4194304 by omega) (srt_delK hs) (by omega), getS_find, find_delK, if_true, Option.isSome_none, Bool.not_false, cond_true, hk]
    cases hf : (find key a).isSome with
    | true =>
      rw [hf] at h1
      simp only [if_true] at h1
      rw [w64 (n := (a.length : Int) - 1) (by omega) (by omega)]
      simp only [cond_true]
      rw [decide_eq_true (show (((delK key a).length : Nat) : Int) = (a.length : Int) - 1 by omega)]
      rfl
    | false =>
      rw [hf] at h1
      simp only [Bool.false_eq_true, if_false] at h1
      simp only [cond_false]
      rw [decide_eq_true (show (((delK key a).length : Nat) : Int) = (a.length : Int) by omega)]
      rfl
  | cons x r ih =>
    intro i hi
    have hlt : i < a.length := by
      rcases Nat.lt_or_ge i a.length with h | h
      · exact h
      · rw [List.drop_eq_nil_of_le h] at hi; cases hi
    have hx : x = a.getD i (dflt TAttr) ∧ a.drop (i + 1) = r := by
      rw [drop_getD hlt (dflt TAttr)] at hi
      simp only [List.cons.injEq] at hi
      exact ⟨hi.1.symm, hi.2⟩
    have hmem : x ∈ a := by
      have : x ∈ a.drop i := by rw [hi]; simp
      exact List.mem_of_mem_drop this
    have hf := mem_find hs hmem
    have ihr := ih (i + 1) hx.2
    have hg : getS a x.1 = (x.2.1, true) := by unfold getS; rw [hf]
    simp only [law05_AttrsOrder_g20, attrs_Get_spec n a x.1 (by omega) hs (by omega), Option.bind_some, hg, Bool.not_true, cond_false]
    rw [(eqT_iff TValue _ _ rfl).2 rfl]
    simp only [Bool.not_true, cond_false]
    have e1 : ((i : Int) + (1 : Int)) = ((i + 1 : Nat) : Int) := by omega
    rw [e1, ihr]
    by_cases h0 : 0 < i
    · rw [decide_eq_true (show (0 : Int) < (i : Int) by omega), w64 (n := (i : Int) - 1) (by omega) (by omega), show ((i : Int) - 1) = ((i - 1 : Nat) : Int) by omega]
      rw [decide_eq_true (show (0 : Int) ≤ ((i - 1 : Nat) : Int) by omega), decide_eq_true (show (((i - 1 : Nat) : Int) < (a.length : Int)) by omega)]
      have := srt_getD hs (dflt TAttr) (show i - 1 < i by omega) hlt
      rw [Int.toNat_natCast, decide_eq_false (show ¬ x.1 ≤ (a.getD (i - 1) (dflt TAttr)).1 by rw [hx.1]; exact Int.not_le.2 this)]
      rfl
    · rw [decide_eq_false (show ¬ (0 : Int) < (i : Int) by omega)]; rfl
theorem order_l10 (hn : 4194400 ≤ n) (hk : law05_known n = some true) (hl : l.length ≤ 1048576) (ha : a = ordF [] l) : ∀ (m i : Nat) (b : den LAttr), l.length - i < m → i ≤ l.length → Srt b → b.length ≤ i → ordB b (l.reverse.drop i) = a →
    law05_AttrsOrder_l10 (law05_known n) (law05_great n) (attrs_With n) (attrs_Get n) (attrs_Same n) (attrs_Without n) n m l key a b (l.length : Int) (i : Int) = some true := by
  have hal : a.length ≤ 1048576 := by have := ordF_len l []; rw [ha]; simp only [List.length_nil] at this; omega
  have has : Srt a := by rw [ha]; exact ordF_srt l [] srt_nil
  intro m
  induction m with
  | zero => intro i b h; omega
  | succ m ih =>
    intro i b hm hi hs hb he
    rw [law05_AttrsOrder_l10, law05_AttrsOrder_s10]
    by_cases h : i < l.length
    · rw [decide_eq_true (show (i : Int) < (l.length : Int) by omega), cond_true, w64 (n := (l.length : Int) - 1) (by omega) (by omega), w64 (n := (l.length : Int) - 1 - (i : Int)) (by omega) (by omega), show (l.length : Int) - 1 - (i : Int) = ((l.length - 1 - i : Nat) : Int) by omega,
        decide_eq_true (show (0 : Int) ≤ ((l.length - 1 - i : Nat) : Int) by omega), decide_eq_true (show (((l.length - 1 - i : Nat) : Int) < (l.length : Int)) by omega), w64s (n := i) (by omega)]
      simp only [Bool.and_self, cond_true, Int.toNat_natCast]
      have hx : l.reverse.drop i = l.getD (l.length - 1 - i) (dflt TAttr) :: l.reverse.drop (i + 1) := by
        rw [List.drop_eq_getElem_cons (by simpa using h)]
        congr 1
        rw [List.getElem_reverse, List.getD_eq_getElem?_getD, List.getElem?_eq_getElem (by omega)]; rfl
      generalize l.getD (l.length - 1 - i) (dflt TAttr) = x at *
      rw [hx] at he
      simp only [ordB, List.foldl_cons] at he
      rw [attrs_Get_spec n b x.1 (by omega) hs (by omega), Option.bind_some, getS_find]
      cases hf : (find x.1 b).isSome with
      | true =>
        rw [hf] at he
        simp only [Bool.not_true, cond_false]
        exact ih (i + 1) b (by omega) (by omega) hs (by omega) (by unfold ordB; simpa using he)
      | false =>
        rw [hf] at he
        simp only [Bool.not_false, cond_true]
        rw [attrs_With_spec n b x (by omega) hs (by omega), Option.bind_some]
        have := (len_putK (x := x) (l := b)).2
        exact ih (i + 1) (putK x b) (by omega) (by omega) (srt_putK hs) (by omega) (by unfold ordB; simpa using he)
    · obtain rfl : i = l.length := by omega
      rw [decide_eq_false (show ¬ (l.length : Int) < (l.length : Int) by omega), cond_false]
      have : b = a := by rw [← he, List.drop_eq_nil_of_le (by simp)]; rfl
      subst this
      rw [attrs_Same_spec n b b (by omega) (by omega), Option.bind_some, decide_eq_true rfl]
      have h20 := law05_AttrsOrder_l20_list (law05_known n) (law05_great n) (attrs_With n) (attrs_Get n) (attrs_Same n) (attrs_Without n) n n 0 key b (by omega) (by omega) (by omega)
      simp only [Bool.not_true, cond_false]
      exact h20.trans (order_g20 n b key hn hk (by omega) has _ 0 rfl)
theorem order_g5 (hn : 4194400 ≤ n) (hl : l.length ≤ 1048576) (LL : den LAttr → Int → den LAttr → den LAttr → Int → Int → Option Bool) (o : den LAttr) : ∀ (r : List (den TAttr)) (a : den LAttr), Srt a → a.length + r.length ≤ 1048576 →
    law05_AttrsOrder_g5 (law05_known n) (law05_great n) (attrs_With n) (attrs_Get n) (attrs_Same n) (attrs_Without n) LL r l key a o = LL l key (ordF a r) o (l.length : Int) 0 := by
  intro r
  induction r with
  | nil => intro a _ _; rfl
  | cons x r ih =>
    intro a hs hb
    simp only [List.length_cons] at hb
    have := (len_putK (x := x) (l := a)).2
    rw [law05_AttrsOrder_g5, attrs_With_spec n a x (by omega) hs (by omega), Option.bind_some, ih _ (srt_putK hs) (by omega)]
    rfl
end
theorem attrsOrder (N : Nat) (hN : N = 8388607) (l : den LAttr) (key : Int) (hl : l.length ≤ 1048576) : law05_AttrsOrder (N + 1) l key = some true := by
  have hk : law05_known N = some true := hN ▸ law05_known_at
  obtain ⟨g, hg⟩ := law05_great_some N l (by omega) (by omega)
  rw [law05_AttrsOrder, law05_AttrsOrder_top, hg]
  simp only [Option.bind_some]
  cases decide ((40 : Int) < (l.length : Int)) with
  | true => rw [hk]; rfl
  | false =>
    cases g with
    | true => rw [hk]; rfl
    | false =>
      simp only [cond_false]
      have h5 := law05_AttrsOrder_l5_list (law05_known N) (law05_great N) (attrs_With N) (attrs_Get N) (attrs_Same N) (attrs_Without N) N N 0 l key [] [] (by omega) (by omega) (by omega)
      refine (Eq.trans h5 ?_)
      rw [List.drop_zero, order_g5 N l key (by omega) hl _ [] l [] srt_nil (by simp; omega)]
      exact order_l10 N l (ordF [] l) key (by omega) hk hl rfl N 0 [] (by omega) (by omega) srt_nil (by simp) (by rw [List.drop_zero]; exact (ord_same l).symm)
theorem same_g12 (n : Nat) (a b : den LAttr) (hn : 4194400 ≤ n) (hk : law05_known n = some true) (ha : a.length ≤ 1048576) (sa : Srt a) : ∀ (r : List (den TAttr)), (∀ x ∈ r, x ∈ b) →
    law05_AttrsSame_g12 (law05_great n) (law05_known n) (ref05_Rising n) (attrs_Same n) (attrs_Copy n) (attrs_With n) (attrs_Without n) (attrs_Get n) r a b = some true := by
  intro r
  induction r with
  | nil => intro _; rw [law05_AttrsSame_g12, hk]; rfl
  | cons x r ih =>
    intro hr
    have ihr := ih fun y hy => hr y (List.mem_cons_of_mem _ hy)
    rw [law05_AttrsSame_g12, attrs_Get_spec n a x.1 (by omega) sa (by omega), attrs_Same_spec n a b (by omega) (by omega)]
    simp only [Option.bind_some, ihr]
    by_cases e : a = b
    · subst e
      have hf := mem_find sa (hr x (by simp))
      have hg : getS a x.1 = (x.2.1, true) := by unfold getS; rw [hf]
      rw [hg, decide_eq_true rfl]
      simp only [Bool.not_true, cond_false, cond_true]
      rw [(eqT_iff TValue _ _ rfl).2 rfl]
      rfl
    · rw [decide_eq_false e]; rfl
theorem attrsSame (N : Nat) (hN : N = 8388607) (a b : den LAttr) (x : den TAttr) (ha : a.length ≤ 1048576) (hb : b.length ≤ 1048576) : law05_AttrsSame (N + 1) a b x = some true := by
  have hk : law05_known N = some true := hN ▸ law05_known_at
  obtain ⟨g, hg⟩ := law05_great_some N a (by omega) (by omega)
  obtain ⟨g', hg'⟩ := law05_great_some N b (by omega) (by omega)
  rw [law05_AttrsSame, law05_AttrsSame_top, hg, hg', hk]
  simp only [Option.bind_some]
  cases g
  case true => rfl
  cases g'
  case true => rfl
  rcases ref05_Rising_spec N a (by omega) (by omega) with e | ⟨e, sa⟩
  · rw [e]; rfl
  rcases ref05_Rising_spec N b (by omega) (by omega) with e2 | ⟨e2, sb⟩
  · rw [e, e2]; rfl
  have hl := (len_putK (x := x) (l := a)).2
  have hl2 := (len_putK (x := x) (l := putK x a)).2
  have s1 : Srt (putK x a) := srt_putK sa
  have e3 : putK x (putK x a) = putK x a := srt_ext (srt_putK s1) s1 fun k => by rw [find_putK k s1, find_putK k sa]; split <;> rfl
  have e4 : delK x.1 (putK x a) = delK x.1 a := srt_ext (srt_delK s1) (srt_delK sa) fun k => by
    rw [find_delK, find_delK, find_putK k sa]
    split
    · rfl
    · rename_i g; rw [if_neg (fun h => g h.symm)]
  have hsym : decide (a = b) = decide (b = a) := by
    by_cases e : a = b
    · rw [decide_eq_true e, decide_eq_true e.symm]
    · rw [decide_eq_false e, decide_eq_false (fun h => e h.symm)]
  have ld : (delK x.1 a).length ≤ a.length := List.length_filter_le _ _
  have fin : ∀ B : Option Bool, B = some true → law05_AttrsSame_l12 (law05_great N) (law05_known N) (ref05_Rising N) (attrs_Same N) (attrs_Copy N) (attrs_With N) (attrs_Without N) (attrs_Get N) N N a b (b.length : Int) 0 = some true := fun B hB => by
    have := law05_AttrsSame_l12_list (law05_great N) (law05_known N) (ref05_Rising N) (attrs_Same N) (attrs_Copy N) (attrs_With N) (attrs_Without N) (attrs_Get N) N N 0 a b (by omega) (by omega) (by omega)
    exact this.trans (same_g12 N a b (by omega) hk ha sa _ fun x hx => by simpa using hx)
  have fin' := fin (some true) rfl
  rw [hk] at fin'
  rw [e, e2]
  simp only [Option.bind_some, Bool.not_true, cond_false, attrs_Same_spec N a a (by omega) (by omega), attrs_Copy_spec N a (by omega) (by omega), attrs_Same_spec N a b (by omega) (by omega), attrs_Same_spec N b a (by omega) (by omega), decide_true,
    attrs_With_spec N a x (by omega) sa (by omega), attrs_With_spec N (putK x a) x (by omega) s1 (by omega), e3, attrs_Same_spec N (putK x a) (putK x a) (by omega) (by omega), attrs_Without_spec N (putK x a) x.1 (by omega) (by omega), attrs_Without_spec N a x.1 (by omega) (by omega), e4,
    attrs_Same_spec N (delK x.1 a) (delK x.1 a) (by omega) (by omega), attrs_Get_spec N a x.1 (by omega) sa (by omega), hsym, fin']
  rw [(eqT_iff .bool _ _ rfl).2 rfl, (eqT_iff .bool _ _ rfl).2 rfl]
  simp only [Bool.not_true, cond_false]
  cases hf : find x.1 a with
  | none =>
    have : (getS a x.1).2 = false := by rw [getS_find, hf]; rfl
    rw [this]; rfl
  | some v =>
    have hg2 : getS a x.1 = (v.1, true) := by unfold getS; rw [hf]
    rw [hg2]
    simp only [cond_true]
    have e5 : putK (x.1, (v.1, ())) a = a := srt_ext (srt_putK sa) sa fun k => by
      rw [find_putK k sa]
      split
      · rename_i g; simp only at g; rw [← g, hf]
      · rfl
    rw [attrs_With_spec N a _ (by omega) sa (by omega), e5, Option.bind_some, attrs_Same_spec N a a (by omega) (by omega), decide_eq_true rfl]
    rfl
end Go.Proofs.Ytecangnmmbcbkaa.Ab
