/- RulesOne. -/
import Derived.Test.YtlcphnmkkilefaaDoorPS
import Derived.Test.YtlcphnmkkilefaaDoorQG
set_option linter.unusedVariables false
set_option linter.unusedSimpArgs false
set_option maxRecDepth 100000
namespace Go.Proofs.YtlcphnmkkilefaaDoor.Ab
open Go Classical
theorem law14_known_at : law14_known 8388607 = some true := by kernel_rfl
theorem law14_great_spec (n : Nat) (a0 : den LKey) (a1 : den LChange) (a2 : den LLAttr) (h : a2.length ≤ 1000) (hn : 1010 ≤ n) :
    law14_great n a0 a1 a2 = some (decide (64 < a0.length) || decide (100 < a1.length) || a2.any fun s => decide (100 < s.length)) := by
  obtain ⟨n, rfl⟩ : ∃ m, n = m + 1 := ⟨n - 1, by omega⟩
  have hg : ∀ r : List (den LAttr), law14_great_g4 r = some (r.any fun s => decide (100 < s.length)) := by
    intro r
    induction r with
    | nil => rfl
    | cons x r ih =>
      simp only [law14_great_g4, List.any_cons]
      by_cases c : 100 < x.length
      · rw [decide_eq_true (show (100 : Int) < (x.length : Int) by omega), decide_eq_true c]; rfl
      · rw [decide_eq_false (show ¬ (100 : Int) < (x.length : Int) by omega), decide_eq_false c, cond_false, ih]; rfl
  have h4 := law14_great_l4_list n n 0 a2 (by omega) (by omega) (by omega)
  rw [show ((0 : Nat) : Int) = 0 from rfl, List.drop_zero, hg] at h4
  rw [law14_great, law14_great_top, h4]
  by_cases c : 64 < a0.length
  · rw [decide_eq_true (show (64 : Int) < (a0.length : Int) by omega), decide_eq_true c]; rfl
  · rw [decide_eq_false (show ¬ (64 : Int) < (a0.length : Int) by omega), decide_eq_false c, cond_false]
    by_cases d : 100 < a1.length
    · rw [decide_eq_true (show (100 : Int) < (a1.length : Int) by omega), decide_eq_true d]; rfl
    · rw [decide_eq_false (show ¬ (100 : Int) < (a1.length : Int) by omega), decide_eq_false d, cond_false]; rfl
theorem groupK_ne {l : List (den KeyT)} {key o : Int} (h : o ∈ groupK l key) : o ≠ key := by
  unfold groupK at h
  split at h
  · simp at h
  · split at h
    · simp at h
    · obtain ⟨x, hx, rfl⟩ := List.mem_map.1 h
      have := (List.mem_filter.1 hx).2
      simp only [Bool.and_eq_true, Bool.not_eq_true', decide_eq_false_iff_not] at this
      exact this.2
theorem ref05_Get_spec (n : Nat) (a : den LAttr) (t : Int) (ha : a.length ≤ 4194304) (hn : 4194310 ≤ n) : ref05_Get n a t = some (getS a t) := by
  obtain ⟨n, rfl⟩ : ∃ m, n = m + 1 := ⟨n - 1, by omega⟩
  have h := ref05_Get_l2_list n n 0 a t zv (by omega) (by omega) (by omega)
  rw [show ((0 : Nat) : Int) = 0 from rfl, List.drop_zero] at h
  refine Eq.trans h ?_
  have hg : ∀ (r : den LAttr), ref05_Get_g2 r t zv = some (getS r t) := by
    intro r
    induction r with
    | nil => rfl
    | cons x r ih =>
      simp only [ref05_Get_g2, getS, find]
      by_cases c : (x.1 : Int) = t
      · rw [decide_eq_true c, if_pos c]; rfl
      · rw [decide_eq_false c, if_neg c, cond_false, ih]; rfl
  exact hg a
theorem find_mem_ok {β : Type} {k : Int} {v : β} {p : List (Int × β)} (h : find k p = some v) : ∃ c ∈ p, c.1 = k := by
  induction p with
  | nil => simp [find] at h
  | cons x p ih =>
    simp only [find] at h
    by_cases g : x.1 = k
    · exact ⟨x, List.mem_cons_self, g⟩
    · rw [if_neg g] at h
      obtain ⟨c, h1, h2⟩ := ih h
      exact ⟨c, List.mem_cons_of_mem _ h1, h2⟩
theorem sumL_len {β : Type} {f : β → Nat} (h : ∀ x, 1 ≤ f x) (l : List β) : l.length ≤ sumL f l := by
  induction l with
  | nil => simp
  | cons x l ih => have := h x; simp only [List.length_cons, sumL]; omega
theorem bulk_len7 (l : den LAttr) : l.length ≤ bulkT LAttr l := by
  have := sumL_len (f := bulkT TAttr) (fun x => by simp only [bulkT]; omega) l
  simp only [bulkT] at *; omega
theorem bulk_len6 (l : den LChange) : l.length ≤ bulkT LChange l := by
  have := sumL_len (f := bulkT TChange) (fun x => by simp only [bulkT]; omega) l
  simp only [bulkT] at *; omega
theorem fit_in {l : List (den KeyT)} {k : Int} {v : den TValue} (h : fitK l k v = true) : (findK l k).isSome = true := by
  unfold fitK at h
  rw [Bool.and_eq_true] at h
  exact h.1
theorem fit_may {l : List (den KeyT)} {k : Int} {v : den TValue} (h : fitK l k v = true) : mayV v = true := by
  unfold fitK at h
  rw [Bool.and_eq_true, Bool.and_eq_true] at h
  exact h.2.2
/-- A change that may be, as a keyed value. -/
def GoodC (l : List (den KeyT)) (k : Int) (c : Bool × (den TValue × Unit)) : Prop := chOk (k, c) = true ∧ chFit l (k, c) = true
def GoodA (l : List (den KeyT)) (k : Int) (v : den TValue × Unit) : Prop := fitK l k v.1 = true
theorem good_gone {l : List (den KeyT)} {k : Int} (h : (findK l k).isSome = true) : GoodC l k (true, (zv, ())) := by
  refine ⟨?_, ?_⟩
  · show eqT TValue zv zv = true
    exact (eqT_iff TValue zv zv rfl).2 rfl
  · unfold chFit
    rw [h]; rfl
theorem good_set {l : List (den KeyT)} {k : Int} {v : den TValue × Unit} (h : GoodA l k v) : GoodC l k (false, (v.1, ())) := by
  refine ⟨fit_may h, ?_⟩
  unfold chFit
  have h' : fitK l k v.1 = true := h
  show ((findK l k).isSome && (false || fitK l k v.1)) = true
  rw [fit_in h', h']; rfl
theorem good_in {l : List (den KeyT)} {k : Int} {c : Bool × (den TValue × Unit)} (h : GoodC l k c) : (findK l k).isSome = true := by
  have := h.2
  unfold chFit at this
  rw [Bool.and_eq_true] at this
  exact this.1
theorem good_val {l : List (den KeyT)} {k : Int} {c : Bool × (den TValue × Unit)} (h : GoodC l k c) (hc : c.1 ≠ true) : GoodA l k (c.2.1, ()) := by
  have := h.2
  unfold chFit at this
  rw [Bool.and_eq_true] at this
  have h2 : (c.1 || fitK l k c.2.1) = true := this.2
  rw [Bool.or_eq_true] at h2
  exact h2.resolve_left hc
def All {β : Type} (Q : Int → β → Prop) (l : List (Int × β)) : Prop := ∀ k v, find k l = some v → Q k v
theorem all_mem {β : Type} {Q : Int → β → Prop} {l : List (Int × β)} (hs : Srt l) : All Q l ↔ ∀ x ∈ l, Q x.1 x.2 := by
  constructor
  · intro h x hx
    exact h _ _ (mem_find hs hx)
  · intro h k v hf
    exact h _ (find_mem hf)
theorem nodup_len : ∀ (l m : List Int), l.Nodup → (∀ x ∈ l, x ∈ m) → l.length ≤ m.length
  | [], _, _, _ => Nat.zero_le _
  | x :: l, m, hn, h => by
    have hx := h x List.mem_cons_self
    obtain ⟨h1, h2⟩ := List.nodup_cons.1 hn
    have ih := nodup_len l (m.erase x) h2 fun y hy => (List.mem_erase_of_ne (fun (e : y = x) => h1 (by rw [← e]; exact hy))).2 (h y (List.mem_cons_of_mem _ hy))
    rw [List.length_erase_of_mem hx] at ih
    have : 0 < m.length := List.length_pos_of_mem hx
    simp only [List.length_cons]; omega
theorem findK_mem {l : List (den KeyT)} {k : Int} (h : (findK l k).isSome = true) : k ∈ l.map fun x => (x.1 : Int) := by
  unfold findK at h
  rw [List.find?_isSome] at h
  obtain ⟨x, hx, he⟩ := h
  exact List.mem_map.2 ⟨x, hx, of_decide_eq_true he⟩
theorem len_keys {β : Type} {l : List (den KeyT)} {p : List (Int × β)} (hs : Srt p) (h : ∀ x ∈ p, (findK l x.1).isSome = true) : p.length ≤ l.length := by
  have h1 : (p.map fun x => x.1).Nodup := by
    rw [List.nodup_iff_pairwise_ne, List.pairwise_map]
    exact hs.imp fun h => Int.ne_of_lt h
  have := nodup_len (p.map fun x => x.1) (l.map fun x => (x.1 : Int)) h1 (by
    intro y hy
    obtain ⟨x, hx, rfl⟩ := List.mem_map.1 hy
    exact findK_mem (h x hx))
  simpa using this
theorem mayP_of {l : List (den KeyT)} {p : den LChange} (hl : l.length ≤ 64) (hs : Srt p) (h : All (GoodC l) p) : mayP l p = 0 := by
  have h' := (all_mem hs).1 h
  refine mayP_ok.2 ⟨?_, hs, fun c hc => h' c hc⟩
  have := len_keys hs fun x hx => good_in (h' x hx)
  exact Nat.le_trans this hl
theorem ref05_Rising_l2_true (n : Nat) (a : den LAttr) (hs : Srt a) (ha : a.length ≤ 4194304) : ∀ (m i : Nat), a.length - i < m → i ≤ a.length → ref05_Rising_l2 n m a ((i + 1 : Nat) : Int) = some true := by
  intro m
  induction m with
  | zero => intro i h; omega
  | succ m ih =>
    intro i hm hi
    rw [ref05_Rising_l2, ref05_Rising_s2]
    have hw : IntKind.wrap .i64 (((i + 1 : Nat) : Int) - 1) = (i : Int) := by
      have : ((i + 1 : Nat) : Int) - 1 = (i : Int) := by omega
      rw [this]; exact w64 (by omega) (by omega)
    rw [hw]
    by_cases h : i + 1 < a.length
    · have h' : ((i + 1 : Nat) : Int) < (a.length : Int) := by omega
      have h2 : (i : Int) < (a.length : Int) := by omega
      simp only [h', h2, decide_true, cond_true, Int.natCast_nonneg, Bool.and_self, Int.toNat_natCast]
      have g := srt_getD hs (dflt TAttr) (show i < i + 1 by omega) h
      have g' : ¬ (a.getD (i + 1) (dflt TAttr)).1 ≤ (a.getD i (dflt TAttr)).1 := Int.not_le.2 g
      rw [decide_eq_false g', cond_false, w64s (n := i + 1) (by omega)]
      exact ih (i + 1) (by omega) (by omega)
    · have h' : ¬ ((i + 1 : Nat) : Int) < (a.length : Int) := by omega
      simp only [h', decide_false, cond_false]
theorem ref05_Rising_iff (n : Nat) (a : den LAttr) (ha : a.length ≤ 4194304) (hn : 4194306 ≤ n) : ref05_Rising n a = some (decide (Srt a)) := by
  by_cases hs : Srt a
  · rw [decide_eq_true hs]
    obtain ⟨n, rfl⟩ : ∃ m, n = m + 1 := ⟨n - 1, by omega⟩
    rw [ref05_Rising, ref05_Rising_top]
    exact ref05_Rising_l2_true n a hs ha n 0 (by omega) (by omega)
  · rw [decide_eq_false hs]
    rcases ref05_Rising_spec n a ha hn with e | ⟨e, h⟩
    · exact e
    · exact absurd h hs

def isG (o : Option (Bool × (den TValue × Unit))) : Prop := ∃ q, o = some q ∧ q.1 = true
theorem innerC_facts : ∀ (r : List Int) (out x : den LChange), Srt out → innerC r out = some x →
    (∀ k v, find k out = some v → find k x = some v) ∧ (∀ k v, find k x = some v → find k out = some v ∨ (k ∈ r ∧ v = (goneC k).2)) ∧ (∀ o ∈ r, isG (find o x))
  | [], out, x, _, h => by
    have h : some out = some x := h
    cases h
    exact ⟨fun k v h => h, fun k v h => .inl h, fun o h => by cases h⟩
  | o :: r, out, x, hs, h => by
    simp only [innerC] at h
    cases h1 : stepC out o with
    | none => rw [h1] at h; cases h
    | some o1 =>
      rw [h1, Option.bind_some] at h
      obtain ⟨s1, _⟩ := srt_stepC hs h1
      obtain ⟨a, b, c⟩ := innerC_facts r o1 x s1 h
      unfold stepC at h1
      cases hf : find o out with
      | some v =>
        rw [hf] at h1
        by_cases hv : v.1 = true
        · simp only [hv, if_true, Option.some.injEq] at h1
          subst h1
          refine ⟨a, fun k w hk => ?_, fun j hj => ?_⟩
          · rcases b k w hk with h | ⟨h, e⟩
            · exact .inl h
            · exact .inr ⟨List.mem_cons_of_mem _ h, e⟩
          · rcases List.mem_cons.1 hj with rfl | hj
            · exact ⟨v, a _ _ hf, hv⟩
            · exact c j hj
        · simp only [hv, if_false] at h1; cases h1
      | none =>
        rw [hf] at h1
        simp only [Option.some.injEq] at h1
        subst h1
        refine ⟨fun k w hk => ?_, fun k w hk => ?_, fun j hj => ?_⟩
        · refine a k w ?_
          rw [find_putK k hs]
          by_cases e : (goneC o).1 = k
          · have e' : o = k := e
            subst e'
            rw [hf] at hk; cases hk
          · rw [if_neg e]; exact hk
        · rcases b k w hk with h | ⟨h, e⟩
          · rw [find_putK k hs] at h
            by_cases e : (goneC o).1 = k
            · rw [if_pos e] at h
              have e' : o = k := e
              subst e'
              refine .inr ⟨List.mem_cons_self, ?_⟩
              simp only [Option.some.injEq] at h
              exact h.symm
            · rw [if_neg e] at h; exact .inl h
          · exact .inr ⟨List.mem_cons_of_mem _ h, e⟩
        · rcases List.mem_cons.1 hj with rfl | hj
          · exact ⟨(goneC j).2, a _ _ (by rw [find_putK _ hs, if_pos rfl]), rfl⟩
          · exact c j hj
theorem outerC_facts (G : Int → List Int) : ∀ (p out x : den LChange), Srt out → outerC G p out = some x →
    Srt x ∧ (∀ k v, find k out = some v → find k x = some v) ∧ (∀ k v, find k x = some v → find k out = some v ∨ (v = (goneC k).2 ∧ ∃ c ∈ p, k ∈ G c.1)) ∧ (∀ c ∈ p, c.2.1 ≠ true → ∀ o ∈ G c.1, isG (find o x))
  | [], out, x, hs, h => by
    have h : some out = some x := h
    cases h
    exact ⟨hs, fun k v h => h, fun k v h => .inl h, fun o h => by cases h⟩
  | c :: p, out, x, hs, h => by
    simp only [outerC] at h
    by_cases hc : c.2.1 = true
    · rw [if_pos hc] at h
      obtain ⟨a, b, d, e⟩ := outerC_facts G p out x hs h
      refine ⟨a, b, fun k v hk => ?_, fun c' hc' hg o ho => ?_⟩
      · rcases d k v hk with h | ⟨h1, c', h2, h3⟩
        · exact .inl h
        · exact .inr ⟨h1, c', List.mem_cons_of_mem _ h2, h3⟩
      · rcases List.mem_cons.1 hc' with rfl | hc'
        · exact absurd hc hg
        · exact e c' hc' hg o ho
    · rw [if_neg hc] at h
      cases hi : innerC (G c.1) out with
      | none => rw [hi] at h; cases h
      | some o1 =>
        rw [hi, Option.bind_some] at h
        obtain ⟨s1, _⟩ := srt_innerC hs hi
        obtain ⟨a1, b1, d1⟩ := innerC_facts _ _ _ hs hi
        obtain ⟨a, b, d, e⟩ := outerC_facts G p o1 x s1 h
        refine ⟨a, fun k v hk => b k v (a1 k v hk), fun k v hk => ?_, fun c' hc' hg o ho => ?_⟩
        · rcases d k v hk with h | ⟨h1, c', h2, h3⟩
          · rcases b1 k v h with h | ⟨h, e⟩
            · exact .inl h
            · exact .inr ⟨e, c, List.mem_cons_self, h⟩
          · exact .inr ⟨h1, c', List.mem_cons_of_mem _ h2, h3⟩
        · rcases List.mem_cons.1 hc' with rfl | hc'
          · obtain ⟨q, h1, h2⟩ := d1 o ho
            exact ⟨q, b _ _ h1, h2⟩
          · exact e c' hc' hg o ho
theorem innerC_fix : ∀ (r : List Int) (x : den LChange), (∀ o ∈ r, isG (find o x)) → innerC r x = some x
  | [], _, _ => rfl
  | o :: r, x, h => by
    obtain ⟨q, h1, h2⟩ := h o List.mem_cons_self
    have hs : stepC x o = some x := by
      unfold stepC
      rw [h1]
      simp only [h2, if_true]
    simp only [innerC, hs, Option.bind_some]
    exact innerC_fix r x fun j hj => h j (List.mem_cons_of_mem _ hj)
theorem outerC_fix (G : Int → List Int) : ∀ (p x : den LChange), (∀ c ∈ p, c.2.1 ≠ true → ∀ o ∈ G c.1, isG (find o x)) → outerC G p x = some x
  | [], _, _ => rfl
  | c :: p, x, h => by
    have IH := outerC_fix G p x fun c' hc' => h c' (List.mem_cons_of_mem _ hc')
    simp only [outerC]
    by_cases hc : c.2.1 = true
    · rw [if_pos hc]; exact IH
    · rw [if_neg hc, innerC_fix _ _ (h c List.mem_cons_self hc), Option.bind_some]; exact IH
theorem group_in {l : List (den KeyT)} {i o : Int} (h : o ∈ groupK l i) : (findK l o).isSome = true := by
  unfold groupK at h
  split at h
  · simp at h
  · split at h
    · simp at h
    · obtain ⟨x, hx, rfl⟩ := List.mem_map.1 h
      have hm := (List.mem_filter.1 hx).1
      have hf := mem_find (srt_sortK l) hm
      rw [find_sortK] at hf
      rw [find_findK, hf]; rfl
theorem one_g22 (N : Nat) (hN : 4194400 ≤ N) (C1 : den LKey → den LChange → den LLAttr → Option Bool) (C2 : Option Bool) (C3 : den LKey → Option (den PSchema × Int)) (C4 : den PSchema → den LChange → Option Int) (C5 : den LAttr → Option Bool) (C6 : den PSchema → den LChange → Option (denS (⟨.rowv 41 (TChange) (.int .i64), []⟩ : Sig))) (C7 : den LChange → den LChange → Option Bool) (C8 : den LAttr → den LChange → Option (den LAttr)) (C9 : den PSchema → Int → Option (den Li64))
    (LS : den LChange → den PSchema → den LAttr → Int → Int → Option Bool) (p : den LChange) (S : den PSchema) (got : den LAttr) (hg : got.length ≤ 4194304) (a b : Int) (X : Option Bool) (hLS : LS p S got a (IntKind.wrap .i64 (b + 1)) = X) : ∀ r : List Int, (∀ o ∈ r, find o got = none) →
    law14_RulesOne_g22 C1 C2 C3 C4 C5 C6 C7 C8 (ref05_Get N) C9 LS r p S got a b = X
  | [], _ => hLS
  | o :: r, h => by
    have hf := h o List.mem_cons_self
    rw [law14_RulesOne_g22, ref05_Get_spec N got o hg (by omega)]
    unfold getS
    rw [hf]
    exact one_g22 N hN C1 C2 C3 C4 C5 C6 C7 C8 C9 LS p S got hg a b X hLS r fun j hj => h j (List.mem_cons_of_mem _ hj)
theorem one_l14 (N : Nat) (hN : 4194400 ≤ N) (C1 : den LKey → den LChange → den LLAttr → Option Bool) (C3 : den LKey → Option (den PSchema × Int)) (C4 : den PSchema → den LChange → Option Int) (C5 : den LAttr → Option Bool) (C6 : den PSchema → den LChange → Option (denS (⟨.rowv 41 (TChange) (.int .i64), []⟩ : Sig))) (C7 : den LChange → den LChange → Option Bool) (C8 : den LAttr → den LChange → Option (den LAttr))
    (l : List (den KeyT)) (hl : l.length ≤ 64) (p : den LChange) (hp : p.length ≤ 1048576) (got : den LAttr) (hg : got.length ≤ 4194304) (h : ∀ c ∈ p, c.2.1 ≠ true → find c.1 got = some (c.2.2.1, ()) ∧ ∀ o ∈ groupK l c.1, find o got = none) : ∀ (m i : Nat), p.length - i < m → i ≤ p.length →
    law14_RulesOne_l14 C1 (some true) C3 C4 C5 C6 C7 C8 (ref05_Get N) (Schema_Group N) N m p (schK l) got (p.length : Int) (i : Int) = some true := by
  intro m
  induction m with
  | zero => intro i h; omega
  | succ m ih =>
    intro i hm hi
    rw [law14_RulesOne_l14, law14_RulesOne_s14]
    by_cases hlt : i < p.length
    · have h' : (i : Int) < (p.length : Int) := by omega
      have hz : (0 : Int) ≤ (i : Int) := by omega
      simp only [h', hz, decide_true, Bool.and_self, cond_true, Int.toNat_natCast]
      have hmem : p.getD i (dflt TChange) ∈ (p : List (den TChange)) := by
        rw [List.getD_eq_getElem?_getD, List.getElem?_eq_getElem hlt]
        exact List.getElem_mem hlt
      generalize hc : p.getD i (dflt TChange) = c at *
      have hnx := ih (i + 1) (by omega) (by omega)
      have hw : IntKind.wrap .i64 ((i : Int) + 1) = ((i + 1 : Nat) : Int) := w64s (by omega)
      by_cases hgn : c.2.1 = true
      · rw [hgn, cond_true, hw]; exact hnx
      · obtain ⟨h1, h2⟩ := h c hmem hgn
        have hgf : c.2.1 = false := by cases hx : c.2.1 with
          | true => exact absurd hx hgn
          | false => rfl
        rw [hgf, cond_false, ref05_Get_spec N got c.1 hg (by omega)]
        unfold getS
        rw [h1]
        simp only [Option.bind_some, Bool.not_true, cond_false]
        rw [(eqT_iff TValue c.2.2.1 c.2.2.1 rfl).2 rfl, Schema_Group_spec N l c.1 (by omega) (by omega)]
        simp only [Option.bind_some, Bool.not_true, cond_false]
        have hgl := len_groupK l c.1
        have hll := law14_RulesOne_l22_list C1 (some true) C3 C4 C5 C6 C7 C8 (ref05_Get N) (Schema_Group N) N (fun t1 t7 t13 t93 t94 => law14_RulesOne_l14 C1 (some true) C3 C4 C5 C6 C7 C8 (ref05_Get N) (Schema_Group N) N m t1 t7 t13 t93 t94) N 0 p (schK l) got (groupK l c.1) (p.length : Int) (i : Int) (by omega) (by omega) (by omega)
        rw [show ((0 : Nat) : Int) = 0 from rfl, List.drop_zero] at hll
        rw [hll]
        exact one_g22 N hN C1 _ C3 C4 C5 C6 C7 C8 (Schema_Group N) _ p (schK l) got hg _ _ _ (by rw [hw]; exact hnx) _ h2
    · have h' : ¬ (i : Int) < (p.length : Int) := by omega
      rw [decide_eq_false h']; rfl
theorem rulesOne (N : Nat) (hN : N = 8388607) (keys : den LKey) (p : den LChange) (set : den LAttr) (h1 : p.length ≤ 1048576) (h2 : set.length ≤ 1048576) : law14_RulesOne (N + 1) keys p set = some true := by
  have hk : law14_known N = some true := hN ▸ law14_known_at
  rw [law14_RulesOne, law14_RulesOne_top, hk, law14_great_spec N keys p [set] (by simp) (by omega)]
  simp only [Option.bind_some]
  cases hgr : (decide (64 < keys.length) || decide (100 < p.length) || [set].any fun s => decide (100 < s.length)) with
  | true => rfl
  | false =>
  simp only [Bool.or_eq_false_iff, decide_eq_false_iff_not] at hgr
  obtain ⟨⟨hb, hp100⟩, _⟩ := hgr
  simp only [cond_false]
  obtain ⟨m, rfl⟩ : ∃ m, N = m + 1 := ⟨N - 1, by omega⟩
  rw [show schema_New (m + 1) keys = some (newS keys) from rfl]
  simp only [Option.bind_some]
  cases hko : keysOk keys with
  | false => rw [newS_bad hko]; rfl
  | true =>
  rw [newS_good hko (by omega)]
  have hS : (some (sortK keys, (keys.map fun k => ((k.1 : Int), k), ())) : den PSchema) = schK keys := rfl
  simp only [decide_true, Bool.not_true, cond_false]
  rw [hS, patch_May_spec (m + 1) (by omega) keys p]
  simp only [Option.bind_some]
  by_cases m1 : mayP keys p = 0
  case neg => rw [decide_eq_false m1]; rfl
  rw [decide_eq_true m1, ref05_Rising_iff (m + 1) set (by omega) (by omega)]
  obtain ⟨_, sp, gp⟩ := mayP_ok.1 m1
  have Gp : All (GoodC keys) p := (all_mem sp).2 fun x hx => gp x hx
  simp only [Bool.not_true, cond_false, Option.bind_some]
  by_cases ss : Srt set
  case neg => rw [decide_eq_false ss]; rfl
  rw [decide_eq_true ss, rules_Complete_spec (m + 1) (by omega) keys (by omega) p (by omega) sp]
  simp only [Bool.not_true, cond_false, Option.bind_some]
  cases hx : outerC (groupK keys) p p with
  | none => rfl
  | some x =>
  obtain ⟨sx, a, b, d⟩ := outerC_facts (groupK keys) p p x sp hx
  have hfix : outerC (groupK keys) x x = some x := by
    refine outerC_fix _ x x fun c hc hg o ho => ?_
    have hf := mem_find sx hc
    rcases b _ _ hf with h | ⟨h, _⟩
    · exact d c (find_mem h) hg o ho
    · exfalso
      apply hg
      rw [h]
  have Gx : All (GoodC keys) x := by
    intro k v hk
    rcases b k v hk with h | ⟨h, c, hc, hin⟩
    · exact Gp k v h
    · rw [h]; exact good_gone (group_in hin)
  have hmx : mayP keys x = 0 := mayP_of (by omega) sx Gx
  have hxl := (mayP_ok.1 hmx).1
  have hres : resC (some x) = (x, (0 : Int)) := rfl
  rw [hres]
  simp only [decide_true, Bool.not_true, cond_false]
  rw [rules_Complete_spec (m + 1) (by omega) keys (by omega) x (by omega) sx, hfix, hres]
  simp only [Option.bind_some, decide_true, Bool.not_true, cond_false]
  rw [ref06_Same_spec (m + 1) x x (by omega) (by omega), patch_May_spec (m + 1) (by omega) keys x, hmx, patch_Apply_spec (m + 1) set x (by omega) (by omega) (by omega)]
  simp only [Option.bind_some, decide_true, Bool.not_true, cond_false]
  have hla := len_apply set x
  refine one_l14 (m + 1) (by omega) _ _ _ _ _ _ _ keys (by omega) p h1 (applyS set x) (by omega) ?_ (m + 1) 0 (by omega) (by omega)
  intro c hc hg
  refine ⟨?_, fun o ho => ?_⟩
  · rw [find_apply c.1 set x ss sx, a _ _ (mem_find sp hc)]
    exact if_neg hg
  · obtain ⟨q, h1, h2⟩ := d c hc hg o ho
    rw [find_apply o set x ss sx, h1]
    exact if_pos h2
theorem RulesOne_ok (keys : den LKey) (p : den LChange) (set : den LAttr) (_ : wfT LKey keys) (_ : wfT LChange p) (_ : wfT LAttr set) (h : bulkT LKey keys + bulkT LChange p + bulkT LAttr set ≤ 1048576) :
    ∃ n, acall cfg intr intrI n 3 [.s (.val LKey keys), .s (.val LChange p), .s (.val LAttr set)] (.one .bool) = some true := by
  have h1 := bulk_len6 p
  have h2 := bulk_len7 set
  exact ⟨8388607 + 1, (law14_RulesOne_eq _ keys p set).trans (rulesOne _ rfl keys p set (by omega) (by omega))⟩
#print axioms RulesOne_ok
end Go.Proofs.YtlcphnmkkilefaaDoor.Ab
