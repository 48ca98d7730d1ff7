/- PatchStay. -/
import Derived.Test.YtecangnmmbcbkaaDoorQH
import Derived.Test.YtecangnmmbcbkaaDoorPE
set_option linter.unusedVariables false
set_option linter.unusedSimpArgs false
set_option maxRecDepth 100000
namespace Go.Proofs.YtecangnmmbcbkaaDoor.Ab
open Go Classical
theorem okV_wf {v : den TValue} (h : wfT TValue v) (hs : (v.2.2.2.1 : ByteArray).size ≤ 4194304) : okV v := by
  obtain ⟨_, _, h3, _⟩ := h
  have h3 : (Lit.int .u64 v.2.2.1).wf = true := h3
  refine ⟨?_, hs⟩
  unfold Lit.wf at h3
  simp only [IntKind.wrap, IntKind.bits, IntKind.signed, Bool.false_and] at h3
  simp at h3
  have hz : IntKind.u64.min = 0 := by decide
  omega
theorem ref04_Fits_spec (n : Nat) (l : List (den KeyT)) (k : Int) (v : den TValue) (hl : l.length ≤ 1048576) (hv : okV v) (hn : 4194400 ≤ n) : ref04_Fits n l k v = some (fitK l k v) := by
  obtain ⟨n, rfl⟩ : ∃ m, n = m + 1 := ⟨n - 1, by omega⟩
  rw [ref04_Fits, ref04_Fits_top, ref04_Find_spec n l k hl (by omega)]
  simp only [Option.bind_some, fitK]
  cases (findK l k).isSome with
  | false => rfl
  | true =>
    rw [ref03_May_spec n v hv (by have := hv.2; omega)]
    simp only [cond_true, Bool.true_and, Option.bind_some]
    have : decide ((v.1 : Int) = ((findK l k).getD (dflt KeyT)).2.2.1) = decide ((((findK l k).getD (dflt KeyT)).2.2.1 : Int) = v.1) := by
      rw [Bool.eq_iff_iff, decide_eq_true_eq, decide_eq_true_eq]; exact eq_comm
    show (bif mayV v then some (decide ((v.1 : Int) = ((findK l k).getD (dflt KeyT)).2.2.1)) else some false) = _
    rw [this]
    cases mayV v <;> simp
theorem ref05_May_g9_spec (n : Nat) (hn : 4194400 ≤ n) (l : List (den KeyT)) (hl : l.length ≤ 1048576) (C1 : den LAttr → Option Bool) (C2 : den TValue → Option Bool) : ∀ r : den LAttr, (∀ x ∈ r, okV x.2.1) →
    ref05_May_g9 C1 C2 (ref04_Fits n) r l = some (bif r.all (fun x => fitK l x.1 x.2.1) then 0 else 4)
  | [], _ => rfl
  | x :: r, h => by
    have IH := ref05_May_g9_spec n hn l hl C1 C2 r fun y hy => h y (List.mem_cons_of_mem _ hy)
    rw [ref05_May_g9, ref04_Fits_spec n l x.1 x.2.1 hl (h x List.mem_cons_self) hn]
    simp only [Option.bind_some, List.all_cons]
    cases fitK l x.1 x.2.1 with
    | false => rfl
    | true => simp only [Bool.not_true, cond_false, Bool.true_and]; exact IH
theorem ref05_May_g4_spec (n : Nat) (hn : 4194400 ≤ n) (l : List (den KeyT)) (C1 : den LAttr → Option Bool) (C3 : den LKey → Int → den TValue → Option Bool) (LL : den LKey → den LAttr → Int → Option Int) (a : den LAttr) : ∀ r : den LAttr, (∀ x ∈ r, okV x.2.1) →
    ref05_May_g4 C1 (ref03_May n) C3 LL r l a = bif r.all (fun x => mayV x.2.1) then LL l a 0 else some 3
  | [], _ => rfl
  | x :: r, h => by
    have IH := ref05_May_g4_spec n hn l C1 C3 LL a r fun y hy => h y (List.mem_cons_of_mem _ hy)
    have hx := h x List.mem_cons_self
    rw [ref05_May_g4, ref03_May_spec n x.2.1 hx (by have := hx.2; omega)]
    simp only [Option.bind_some, List.all_cons]
    cases mayV x.2.1 with
    | false => rfl
    | true => simp only [Bool.not_true, cond_false, Bool.true_and]; exact IH
noncomputable def mayA (l : List (den KeyT)) (a : den LAttr) : Int := bif !decide (Srt a) then 3 else bif decide (64 < a.length) then 3 else bif a.all (fun x => mayV x.2.1) then (bif a.all (fun x => fitK l x.1 x.2.1) then 0 else 4) else 3
theorem ref05_Rising_l2_true (n : Nat) (a : den LAttr) (hs : Srt a) (ha : a.length ≤ 4194304) : ∀ (m i : Nat), a.length - i < m → i ≤ a.length → ref05_Rising_l2 n m a ((i + 1 : Nat) : Int) = some true := by
  intro m
  induction m with
  | zero => intro i h; omega
  | succ m ih =>
    intro i hm hi
    rw [ref05_Rising_l2, ref05_Rising_s2]
    have hw : IntKind.wrap .i64 (((i + 1 : Nat) : Int) - 1) = (i : Int) := by
      have : ((i + 1 : Nat) : Int) - 1 = (i : Int) := by omega
      rw [this]; exact w64 (by omega) (by omega)
    rw [hw]
    by_cases h : i + 1 < a.length
    · have h' : ((i + 1 : Nat) : Int) < (a.length : Int) := by omega
      have h2 : (i : Int) < (a.length : Int) := by omega
      simp only [h', h2, decide_true, cond_true, Int.natCast_nonneg, Bool.and_self, Int.toNat_natCast]
      have g := srt_getD hs (dflt TAttr) (show i < i + 1 by omega) h
      have g' : ¬ (a.getD (i + 1) (dflt TAttr)).1 ≤ (a.getD i (dflt TAttr)).1 := Int.not_le.2 g
      rw [decide_eq_false g', cond_false, w64s (n := i + 1) (by omega)]
      exact ih (i + 1) (by omega) (by omega)
    · have h' : ¬ ((i + 1 : Nat) : Int) < (a.length : Int) := by omega
      simp only [h', decide_false, cond_false]
theorem ref05_Rising_iff (n : Nat) (a : den LAttr) (ha : a.length ≤ 4194304) (hn : 4194306 ≤ n) : ref05_Rising n a = some (decide (Srt a)) := by
  by_cases hs : Srt a
  · rw [decide_eq_true hs]
    obtain ⟨n, rfl⟩ : ∃ m, n = m + 1 := ⟨n - 1, by omega⟩
    rw [ref05_Rising, ref05_Rising_top]
    exact ref05_Rising_l2_true n a hs ha n 0 (by omega) (by omega)
  · rw [decide_eq_false hs]
    rcases ref05_Rising_spec n a ha hn with e | ⟨e, h⟩
    · exact e
    · exact absurd h hs
theorem ref06_Rising_l2_true (n : Nat) (a : den LChange) (hs : Srt a) (ha : a.length ≤ 4194304) : ∀ (m i : Nat), a.length - i < m → i ≤ a.length → ref06_Rising_l2 n m a ((i + 1 : Nat) : Int) = some true := by
  intro m
  induction m with
  | zero => intro i h; omega
  | succ m ih =>
    intro i hm hi
    rw [ref06_Rising_l2, ref06_Rising_s2]
    have hw : IntKind.wrap .i64 (((i + 1 : Nat) : Int) - 1) = (i : Int) := by
      have : ((i + 1 : Nat) : Int) - 1 = (i : Int) := by omega
      rw [this]; exact w64 (by omega) (by omega)
    rw [hw]
    by_cases h : i + 1 < a.length
    · have h' : ((i + 1 : Nat) : Int) < (a.length : Int) := by omega
      have h2 : (i : Int) < (a.length : Int) := by omega
      simp only [h', h2, decide_true, cond_true, Int.natCast_nonneg, Bool.and_self, Int.toNat_natCast]
      have g := srt_getD hs (dflt TChange) (show i < i + 1 by omega) h
      have g' : ¬ (a.getD (i + 1) (dflt TChange)).1 ≤ (a.getD i (dflt TChange)).1 := Int.not_le.2 g
      rw [decide_eq_false g', cond_false, w64s (n := i + 1) (by omega)]
      exact ih (i + 1) (by omega) (by omega)
    · have h' : ¬ ((i + 1 : Nat) : Int) < (a.length : Int) := by omega
      simp only [h', decide_false, cond_false]
theorem ref06_Rising_iff (n : Nat) (a : den LChange) (ha : a.length ≤ 4194304) (hn : 4194306 ≤ n) : ref06_Rising n a = some (decide (Srt a)) := by
  by_cases hs : Srt a
  · rw [decide_eq_true hs]
    obtain ⟨n, rfl⟩ : ∃ m, n = m + 1 := ⟨n - 1, by omega⟩
    rw [ref06_Rising, ref06_Rising_top]
    exact ref06_Rising_l2_true n a hs ha n 0 (by omega) (by omega)
  · rw [decide_eq_false hs]
    rcases ref06_Rising_spec n a ha hn with e | ⟨e, h⟩
    · exact e
    · exact absurd h hs
theorem ref05_May_spec (n : Nat) (hn : 4194500 ≤ n) (l : List (den KeyT)) (hl : l.length ≤ 1048576) (a : den LAttr) (ha : a.length ≤ 4194304) (ho : ∀ x ∈ a, okV x.2.1) : ref05_May n l a = some (mayA l a) := by
  obtain ⟨n, rfl⟩ : ∃ m, n = m + 1 := ⟨n - 1, by omega⟩
  rw [ref05_May, ref05_May_top, ref05_Rising_iff n a ha (by omega)]
  unfold mayA
  simp only [Option.bind_some]
  cases decide (Srt a) with
  | false => rfl
  | true =>
    simp only [Bool.not_true, cond_false]
    by_cases h : 64 < a.length
    · have h' : (64 : Int) < (a.length : Int) := by omega
      rw [decide_eq_true h, decide_eq_true h']; rfl
    · have h' : ¬ (64 : Int) < (a.length : Int) := by omega
      rw [decide_eq_false h, decide_eq_false h', cond_false, cond_false]
      have hl4 := ref05_May_l4_list (ref05_Rising n) (ref03_May n) (ref04_Fits n) n n 0 l a (by omega) (by omega) (by omega)
      have hl9 := ref05_May_l9_list (ref05_Rising n) (ref03_May n) (ref04_Fits n) n n 0 l a (by omega) (by omega) (by omega)
      rw [show ((0 : Nat) : Int) = 0 from rfl, List.drop_zero] at hl4 hl9
      rw [hl4, ref05_May_g4_spec n (by omega) l _ _ _ a a ho, hl9, ref05_May_g9_spec n (by omega) l hl _ _ a ho]
      cases a.all (fun x => mayV x.2.1) <;> rfl
theorem mayA_ok {l : List (den KeyT)} {a : den LAttr} : mayA l a = 0 ↔ a.length ≤ 64 ∧ Srt a ∧ ∀ x ∈ a, mayV x.2.1 = true ∧ fitK l x.1 x.2.1 = true := by
  unfold mayA
  by_cases hs : Srt a
  · rw [decide_eq_true hs, Bool.not_true, cond_false]
    by_cases h : 64 < a.length
    · rw [decide_eq_true h, cond_true]
      constructor
      · intro h; exact absurd h (by decide)
      · rintro ⟨h2, _⟩; omega
    · rw [decide_eq_false h, cond_false]
      cases hm : a.all (fun x => mayV x.2.1) with
      | false =>
        rw [cond_false]
        constructor
        · intro h; exact absurd h (by decide)
        · rintro ⟨_, _, h3⟩
          rw [List.all_eq_true.2 fun c hc => (h3 c hc).1] at hm; cases hm
      | true =>
        rw [cond_true]
        cases hf : a.all (fun x => fitK l x.1 x.2.1) with
        | false =>
          rw [cond_false]
          constructor
          · intro h; exact absurd h (by decide)
          · rintro ⟨_, _, h3⟩
            rw [List.all_eq_true.2 fun c hc => (h3 c hc).2] at hf; cases hf
        | true =>
          rw [cond_true]
          exact ⟨fun _ => ⟨by omega, hs, fun c hc => ⟨List.all_eq_true.1 hm c hc, List.all_eq_true.1 hf c hc⟩⟩, fun _ => rfl⟩
  · rw [decide_eq_false hs, Bool.not_false, cond_true]
    constructor
    · intro h; exact absurd h (by decide)
    · rintro ⟨_, h2, _⟩; exact absurd h2 hs
theorem fit_in {l : List (den KeyT)} {k : Int} {v : den TValue} (h : fitK l k v = true) : (findK l k).isSome = true := by
  unfold fitK at h
  rw [Bool.and_eq_true] at h
  exact h.1
theorem fit_may {l : List (den KeyT)} {k : Int} {v : den TValue} (h : fitK l k v = true) : mayV v = true := by
  unfold fitK at h
  rw [Bool.and_eq_true, Bool.and_eq_true] at h
  exact h.2.2
/-- A change that may be, as a keyed value. -/
def GoodC (l : List (den KeyT)) (k : Int) (c : Bool × (den TValue × Unit)) : Prop := chOk (k, c) = true ∧ chFit l (k, c) = true
def GoodA (l : List (den KeyT)) (k : Int) (v : den TValue × Unit) : Prop := fitK l k v.1 = true
theorem good_gone {l : List (den KeyT)} {k : Int} (h : (findK l k).isSome = true) : GoodC l k (true, (zv, ())) := by
  refine ⟨?_, ?_⟩
  · show eqT TValue zv zv = true
    exact (eqT_iff TValue zv zv rfl).2 rfl
  · unfold chFit
    rw [h]; rfl
theorem good_set {l : List (den KeyT)} {k : Int} {v : den TValue × Unit} (h : GoodA l k v) : GoodC l k (false, (v.1, ())) := by
  refine ⟨fit_may h, ?_⟩
  unfold chFit
  have h' : fitK l k v.1 = true := h
  show ((findK l k).isSome && (false || fitK l k v.1)) = true
  rw [fit_in h', h']; rfl
theorem good_in {l : List (den KeyT)} {k : Int} {c : Bool × (den TValue × Unit)} (h : GoodC l k c) : (findK l k).isSome = true := by
  have := h.2
  unfold chFit at this
  rw [Bool.and_eq_true] at this
  exact this.1
theorem good_val {l : List (den KeyT)} {k : Int} {c : Bool × (den TValue × Unit)} (h : GoodC l k c) (hc : c.1 ≠ true) : GoodA l k (c.2.1, ()) := by
  have := h.2
  unfold chFit at this
  rw [Bool.and_eq_true] at this
  have h2 : (c.1 || fitK l k c.2.1) = true := this.2
  rw [Bool.or_eq_true] at h2
  exact h2.resolve_left hc
def All {β : Type} (Q : Int → β → Prop) (l : List (Int × β)) : Prop := ∀ k v, find k l = some v → Q k v
theorem all_mem {β : Type} {Q : Int → β → Prop} {l : List (Int × β)} (hs : Srt l) : All Q l ↔ ∀ x ∈ l, Q x.1 x.2 := by
  constructor
  · intro h x hx
    exact h _ _ (mem_find hs hx)
  · intro h k v hf
    exact h _ (find_mem hf)
theorem nodup_len : ∀ (l m : List Int), l.Nodup → (∀ x ∈ l, x ∈ m) → l.length ≤ m.length
  | [], _, _, _ => Nat.zero_le _
  | x :: l, m, hn, h => by
    have hx := h x List.mem_cons_self
    obtain ⟨h1, h2⟩ := List.nodup_cons.1 hn
    have ih := nodup_len l (m.erase x) h2 fun y hy => (List.mem_erase_of_ne (fun (e : y = x) => h1 (by rw [← e]; exact hy))).2 (h y (List.mem_cons_of_mem _ hy))
    rw [List.length_erase_of_mem hx] at ih
    have : 0 < m.length := List.length_pos_of_mem hx
    simp only [List.length_cons]; omega
theorem findK_mem {l : List (den KeyT)} {k : Int} (h : (findK l k).isSome = true) : k ∈ l.map fun x => (x.1 : Int) := by
  unfold findK at h
  rw [List.find?_isSome] at h
  obtain ⟨x, hx, he⟩ := h
  exact List.mem_map.2 ⟨x, hx, of_decide_eq_true he⟩
theorem len_keys {β : Type} {l : List (den KeyT)} {p : List (Int × β)} (hs : Srt p) (h : ∀ x ∈ p, (findK l x.1).isSome = true) : p.length ≤ l.length := by
  have h1 : (p.map fun x => x.1).Nodup := by
    rw [List.nodup_iff_pairwise_ne, List.pairwise_map]
    exact hs.imp fun h => Int.ne_of_lt h
  have := nodup_len (p.map fun x => x.1) (l.map fun x => (x.1 : Int)) h1 (by
    intro y hy
    obtain ⟨x, hx, rfl⟩ := List.mem_map.1 hy
    exact findK_mem (h x hx))
  simpa using this
theorem mayP_of {l : List (den KeyT)} {p : den LChange} (hl : l.length ≤ 64) (hs : Srt p) (h : All (GoodC l) p) : mayP l p = 0 := by
  have h' := (all_mem hs).1 h
  refine mayP_ok.2 ⟨?_, hs, fun c hc => h' c hc⟩
  have := len_keys hs fun x hx => good_in (h' x hx)
  exact Nat.le_trans this hl
theorem mayA_of {l : List (den KeyT)} {a : den LAttr} (hl : l.length ≤ 64) (hs : Srt a) (h : All (GoodA l) a) : mayA l a = 0 := by
  have h' := (all_mem hs).1 h
  refine mayA_ok.2 ⟨?_, hs, fun c hc => ⟨fit_may (h' c hc), h' c hc⟩⟩
  have := len_keys hs fun x hx => fit_in (h' x hx)
  exact Nat.le_trans this hl
theorem all_diff {l : List (den KeyT)} {a b : den LAttr} (ha : Srt a) (hb : Srt b) (ga : All (GoodA l) a) (gb : All (GoodA l) b) : All (GoodC l) (diffS eqv zv a b) := by
  intro k v hf
  rw [find_diff k a b ha hb] at hf
  cases h1 : find k a with
  | none =>
    cases h2 : find k b with
    | none => rw [h1, h2] at hf; cases hf
    | some w => rw [h1, h2] at hf; cases hf; exact good_set (gb k w h2)
  | some u =>
    cases h2 : find k b with
    | none => rw [h1, h2] at hf; cases hf; exact good_gone (fit_in (ga k u h1))
    | some w =>
      rw [h1, h2] at hf
      simp only [dif] at hf
      split at hf
      · cases hf
      · cases hf; exact good_set (gb k w h2)
theorem all_comp {l : List (den KeyT)} {p q : den LChange} (hp : Srt p) (hq : Srt q) (gp : All (GoodC l) p) (gq : All (GoodC l) q) : All (GoodC l) (compS p q) := by
  intro k v hf
  rw [find_comp k p q hp hq] at hf
  cases h2 : find k q with
  | none => rw [h2] at hf; exact gp k v hf
  | some w => rw [h2] at hf; cases hf; exact gq k _ h2
theorem all_invert {l : List (den KeyT)} {a : den LAttr} {p : den LChange} (ha : Srt a) (hp : Srt p) (ga : All (GoodA l) a) (gp : All (GoodC l) p) : All (GoodC l) (invertS eqv zv a p) := by
  intro k v hf
  rw [find_invert k hp] at hf
  cases h2 : find k p with
  | none => rw [h2] at hf; cases h1 : find k a <;> rw [h1] at hf <;> cases hf
  | some q =>
    cases h1 : find k a with
    | none =>
      rw [h1, h2] at hf
      simp only [inv] at hf
      split at hf
      · cases hf; exact good_gone (good_in (gp k q h2))
      · cases hf
    | some u =>
      rw [h1, h2] at hf
      simp only [inv] at hf
      split at hf
      · cases hf; exact good_set (ga k u h1)
      · cases hf
theorem all_filter {β : Type} {Q : Int → β → Prop} {p : List (Int × β)} (hp : Srt p) (d : Int × β → Bool) (g : All Q p) : All Q (p.filter d) :=
  (all_mem (hp.filter _)).2 fun x hx => (all_mem hp).1 g x (List.mem_filter.1 hx).1
theorem all_apply {l : List (den KeyT)} {a : den LAttr} {p : den LChange} (ha : Srt a) (hp : Srt p) (ga : All (GoodA l) a) (gp : All (GoodC l) p) : All (GoodA l) (applyS a p) := by
  intro k v hf
  rw [find_apply k a p ha hp] at hf
  cases h2 : find k p with
  | none => rw [h2] at hf; exact ga k v hf
  | some q =>
    rw [h2] at hf
    simp only [onto] at hf
    split at hf
    · cases hf
    · rename_i hg
      cases hf
      exact good_val (gp k q h2) hg
theorem okV_apply {a : den LAttr} {p : den LChange} (ha : Srt a) (hp : Srt p) (oa : ∀ x ∈ a, okV x.2.1) (op : ∀ x ∈ p, okV x.2.2.1) : ∀ x ∈ applyS a p, okV x.2.1 := by
  have s := srt_apply a p ha hp
  refine (all_mem (Q := fun _ v => okV v.1) s).1 ?_
  intro k v hf
  rw [find_apply k a p ha hp] at hf
  cases h2 : find k p with
  | none => rw [h2] at hf; exact oa (k, v) (find_mem hf)
  | some q =>
    rw [h2] at hf
    simp only [onto] at hf
    split at hf
    · cases hf
    · cases hf; exact op (k, q) (find_mem h2)
theorem stay_g8 (N : Nat) (hN : 4194600 ≤ N) (C1 : den LChange → den LLAttr → Option Bool) (C2 : den LKey → Option (den PSchema × Int)) (C3 : den LAttr → den LAttr → Option (den LChange)) (C4 : den LChange → den LChange → Option (den LChange)) (C5 : den LAttr → den LChange → Option (den LChange)) (C6 : den LChange → den LChange → Option (den LChange)) (C7 : den PSchema → den LChange → Bool → Option (den LChange))
    (keys : List (den KeyT)) (hk : keys.length ≤ 1048576) (a : den LAttr) (p : den LChange) (ha : a.length ≤ 1048576) (hp : p.length ≤ 1048576) (ho : ∀ x ∈ applyS a p, okV x.2.1) (hm : mayA keys (applyS a p) = 0) : ∀ r : List (den LChange), (∀ x ∈ r, mayP keys x = 0) →
    law06_PatchStay_g8 (some true) C1 C2 (patch_May N) (ref05_May N) C3 C4 C5 C6 C7 (patch_Apply N) r keys a p (schK keys) = some true
  | [], _ => by
    have hl := len_apply a p
    rw [law06_PatchStay_g8, patch_Apply_spec N a p (by omega) (by omega) (by omega)]
    simp only [Option.bind_some]
    rw [ref05_May_spec N (by omega) keys hk (applyS a p) (by omega) ho, hm]
    rfl
  | x :: r, h => by
    rw [law06_PatchStay_g8, patch_May_spec N (by omega) keys x, h x List.mem_cons_self]
    simp only [Option.bind_some, decide_true, Bool.not_true, cond_false]
    exact stay_g8 N hN C1 C2 C3 C4 C5 C6 C7 keys hk a p ha hp ho hm r fun y hy => h y (List.mem_cons_of_mem _ hy)
theorem patchStay (N : Nat) (hN : N = 8388607) (keys : den LKey) (a b : den LAttr) (p q : den LChange) (h0 : keys.length ≤ 1048576) (h1 : a.length ≤ 1048576) (h2 : b.length ≤ 1048576) (h3 : p.length ≤ 1048576) (h4 : q.length ≤ 1048576)
    (oa : ∀ x ∈ a, okV x.2.1) (ob : ∀ x ∈ b, okV x.2.1) (op : ∀ x ∈ p, okV x.2.2.1) : law06_PatchStay (N + 1) keys a b p q = some true := by
  have hk : law06_known N = some true := hN ▸ known_at
  obtain ⟨g, hg⟩ := law06_great_some N p [a, b] (by omega) (by simp) (by simp; omega) (by omega)
  obtain ⟨g', hg'⟩ := law06_great_some N q [] (by omega) (by simp) (by simp) (by omega)
  rw [law06_PatchStay, law06_PatchStay_top, hk, hg, hg']
  simp only [Option.bind_some]
  cases hk64 : decide ((64 : Int) < (keys.length : Int)) with
  | true => rfl
  | false =>
  cases g with
  | true => rfl
  | false =>
  cases g' with
  | true => rfl
  | false =>
  simp only [cond_false]
  obtain ⟨m, rfl⟩ : ∃ m, N = m + 1 := ⟨N - 1, by omega⟩
  rw [show schema_New (m + 1) keys = some (newS keys) from rfl]
  simp only [Option.bind_some]
  have hb : keys.length ≤ 64 := by
    have := of_decide_eq_false hk64
    omega
  cases hko : keysOk keys with
  | false => rw [newS_bad hko]; rfl
  | true =>
  rw [newS_good hko (by omega)]
  have hS : (some (sortK keys, (keys.map fun k => ((k.1 : Int), k), ())) : den PSchema) = schK keys := rfl
  simp only [decide_true, Bool.not_true, cond_false]
  rw [hS, patch_May_spec (m + 1) (by omega) keys p, patch_May_spec (m + 1) (by omega) keys q, ref05_May_spec (m + 1) (by omega) keys h0 a (by omega) oa, ref05_May_spec (m + 1) (by omega) keys h0 b (by omega) ob]
  simp only [Option.bind_some]
  by_cases m1 : mayP keys p = 0
  case neg => rw [decide_eq_false m1]; rfl
  by_cases m2 : mayP keys q = 0
  case neg => rw [decide_eq_true m1, decide_eq_false m2]; rfl
  by_cases m3 : mayA keys a = 0
  case neg => rw [decide_eq_true m1, decide_eq_true m2, decide_eq_false m3]; rfl
  by_cases m4 : mayA keys b = 0
  case neg => rw [decide_eq_true m1, decide_eq_true m2, decide_eq_true m3, decide_eq_false m4]; rfl
  rw [decide_eq_true m1, decide_eq_true m2, decide_eq_true m3, decide_eq_true m4]
  simp only [Bool.not_true, cond_false]
  obtain ⟨_, sp, gp⟩ := mayP_ok.1 m1
  obtain ⟨_, sq, gq⟩ := mayP_ok.1 m2
  obtain ⟨_, sa, ga⟩ := mayA_ok.1 m3
  obtain ⟨_, sb, gb⟩ := mayA_ok.1 m4
  have Gp : All (GoodC keys) p := (all_mem sp).2 fun x hx => gp x hx
  have Gq : All (GoodC keys) q := (all_mem sq).2 fun x hx => gq x hx
  have Ga : All (GoodA keys) a := (all_mem sa).2 fun x hx => (ga x hx).2
  have Gb : All (GoodA keys) b := (all_mem sb).2 fun x hx => (gb x hx).2
  rw [patch_Diff_spec (m + 1) a b (by omega) (by omega) (by omega), patch_Compose_spec (m + 1) p q (by omega) (by omega) (by omega), patch_Invert_spec (m + 1) a p (by omega) (by omega) sa (by omega), patch_Less_spec (m + 1) p q (by omega) (by omega) (by omega), patch_Part_spec (m + 1) keys p true (by omega) (by omega), patch_Part_spec (m + 1) keys p false (by omega) (by omega)]
  simp only [Option.bind_some]
  generalize hL : [diffS eqv zv a b, compS p q, invertS eqv zv a p, p.filter (fun x => !inL6 q x), partS keys p true, partS keys p false] = L
  have hLl : L.length = 6 := by rw [← hL]; rfl
  have hl := law06_PatchStay_l8_list (some true) (law06_great (m + 1)) (schema_New (m + 1)) (patch_May (m + 1)) (ref05_May (m + 1)) (patch_Diff (m + 1)) (patch_Compose (m + 1)) (patch_Invert (m + 1)) (patch_Less (m + 1)) (patch_Part (m + 1)) (patch_Apply (m + 1)) (m + 1) (m + 1) 0 keys a p (schK keys) L (by omega) (by omega) (by omega)
  rw [show ((0 : Nat) : Int) = 0 from rfl, List.drop_zero] at hl
  rw [hl]
  refine stay_g8 (m + 1) (by omega) _ _ _ _ _ _ _ keys h0 a p h1 h3 (okV_apply sa sp oa op) (mayA_of hb (srt_apply a p sa sp) (all_apply sa sp Ga Gp)) L ?_
  intro x hx
  rw [← hL] at hx
  simp only [List.mem_cons, List.not_mem_nil, or_false] at hx
  rcases hx with rfl | rfl | rfl | rfl | rfl | rfl
  · exact mayP_of hb (srt_diff a b sa sb) (all_diff sa sb Ga Gb)
  · exact mayP_of hb (srt_comp p q sp sq) (all_comp sp sq Gp Gq)
  · exact mayP_of hb (srt_invert sp) (all_invert sa sp Ga Gp)
  · exact mayP_of hb (sp.filter _) (all_filter sp _ Gp)
  · exact mayP_of hb (sp.filter _) (all_filter sp _ Gp)
  · exact mayP_of hb (sp.filter _) (all_filter sp _ Gp)
theorem sumL_mem {β : Type} {f : β → Nat} {x : β} : ∀ {l : List β}, x ∈ l → f x ≤ sumL f l
  | y :: l, h => by
    rcases List.mem_cons.1 h with rfl | h
    · simp only [sumL]; omega
    · have := sumL_mem (f := f) h; simp only [sumL]; omega
theorem okA_of {a : den LAttr} (hw : wfT LAttr a) (hb : bulkT LAttr a ≤ 1048576) : ∀ x ∈ a, okV x.2.1 := by
  intro x hx
  have h1 : wfT TAttr x := hw x hx
  refine okV_wf h1.2.1 ?_
  have h2 := sumL_mem (f := bulkT TAttr) hx
  simp only [bulkT] at *; omega
theorem okC_of {a : den LChange} (hw : wfT LChange a) (hb : bulkT LChange a ≤ 1048576) : ∀ x ∈ a, okV x.2.2.1 := by
  intro x hx
  have h1 : wfT TChange x := hw x hx
  refine okV_wf h1.2.2.1 ?_
  have h2 := sumL_mem (f := bulkT TChange) hx
  simp only [bulkT] at *; omega
theorem PatchStay_ok (keys : den LKey) (a b : den LAttr) (p q : den LChange) (_ : wfT LKey keys) (wa : wfT LAttr a) (wb : wfT LAttr b) (wp : wfT LChange p) (_ : wfT LChange q) (h : bulkT LKey keys + bulkT LAttr a + bulkT LAttr b + bulkT LChange p + bulkT LChange q ≤ 1048576) :
    ∃ n, acall cfg intr intrI n 5 [.s (.val LKey keys), .s (.val LAttr a), .s (.val LAttr b), .s (.val LChange p), .s (.val LChange q)] (.one .bool) = some true := by
  have h0 := bulk_lenK keys
  have h1 := bulk_len7 a
  have h2 := bulk_len7 b
  have h3 := bulk_len6 p
  have h4 := bulk_len6 q
  exact ⟨8388607 + 1, (law06_PatchStay_eq _ keys a b p q).trans (patchStay _ rfl keys a b p q (by omega) (by omega) (by omega) (by omega) (by omega) (okA_of wa (by omega)) (okA_of wb (by omega)) (okC_of wp (by omega)))⟩
#print axioms PatchStay_ok
end Go.Proofs.YtecangnmmbcbkaaDoor.Ab
