/- AttrsStay, AttrsParts, PatchMay. -/
import Derived.Test.YtecangnmmbcbkaaDoorQI
import Derived.Test.YtecangnmmbcbkaaDoorPF
set_option linter.unusedVariables false
set_option linter.unusedSimpArgs false
set_option maxRecDepth 100000
namespace Go.Proofs.YtecangnmmbcbkaaDoor.Ab
open Go Classical
theorem attrs_May_g5_spec (n : Nat) (hn : 200 ≤ n) (l : List (den KeyT)) (p : den LAttr) (hp : p.length ≤ 64) : ∀ (r : den LAttr) (i : Nat) (e : Int), (p : List (den TAttr)).drop i = r → i ≤ p.length →
    attrs_May_g5 (value_May n) (Schema_Fits n) r (schK l) p e (i : Int) = some (bif risF (prevC (dflt TAttr) p i) r && r.all (fun x => mayV x.2.1) then (bif r.all (fun x => fitK l x.1 x.2.1) then e else 4) else 3)
  | [], i, e, _, _ => by simp [attrs_May_g5, risF]
  | x :: r, i, e, h, hi => by
    have hlen : i + (r.length + 1) = p.length := by
      have := congrArg List.length h
      simp only [List.length_drop, List.length_cons] at this
      omega
    have IH := fun e => attrs_May_g5_spec n hn l p hp r (i + 1) e (drop_next h) (by omega)
    rw [prevC_succ (dflt TAttr) h] at IH
    have hi1 : ((i : Int) + 1) = ((i + 1 : Nat) : Int) := by omega
    rw [attrs_May_g5, hi1]
    simp only [IH, Schema_Fits_spec n l x.1 x.2.1 (by omega), value_May_spec n x.2.1 (by omega), Option.bind_some, List.all_cons]
    generalize fitK l x.1 x.2.1 = T
    generalize mayV x.2.1 = M
    generalize List.all r (fun x => mayV x.2.1) = AO
    generalize List.all r (fun x => fitK l x.1 x.2.1) = AF
    have hr : risF (prevC (dflt TAttr) p i) (x :: r) = ((bif decide (0 < i) then decide ((p.getD (i - 1) (dflt TAttr)).1 < x.1) else true) && risF (some x.1) r) := by
      unfold prevC
      by_cases h0 : i = 0
      · rw [if_pos h0, decide_eq_false (by omega)]; simp [risF]
      · rw [if_neg h0, decide_eq_true (by omega)]; simp [risF]
    rw [hr]
    generalize risF (some x.1) r = R
    by_cases h0 : 0 < i
    · have h0' : (0 : Int) < (i : Int) := by omega
      have hw : IntKind.wrap .i64 ((i : Int) - 1) = ((i - 1 : Nat) : Int) := by rw [w64 (by omega) (by omega)]; omega
      have g1 : (0 : Int) ≤ ((i - 1 : Nat) : Int) := by omega
      have g2 : ((i - 1 : Nat) : Int) < (p.length : Int) := by omega
      rw [hw]
      simp only [h0', g1, g2, decide_true, Bool.and_self, cond_true, Int.toNat_natCast, decide_eq_true h0]
      have hlt : decide ((p.getD (i - 1) (dflt TAttr)).1 < x.1) = !decide (x.1 ≤ (p.getD (i - 1) (dflt TAttr)).1) := by
        rw [Bool.eq_iff_iff]
        simp only [Bool.not_eq_true', decide_eq_true_eq, decide_eq_false_iff_not]
        exact Int.not_le.symm
      rw [hlt]
      generalize decide (x.1 ≤ (p.getD (i - 1) (dflt TAttr)).1) = B
      cases B <;> cases M <;> cases T <;> cases R <;> cases AO <;> cases AF <;> rfl
    · have h0' : ¬ (0 : Int) < (i : Int) := by omega
      simp only [h0', decide_false, cond_false, decide_eq_false h0]
      cases M <;> cases T <;> cases R <;> cases AO <;> cases AF <;> rfl
noncomputable def mayS (l : List (den KeyT)) (p : den LAttr) : Int := bif decide (64 < p.length) then 3 else bif risF none p && p.all (fun x => mayV x.2.1) then (bif p.all (fun x => fitK l x.1 x.2.1) then 0 else 4) else 3
theorem attrs_May_spec (n : Nat) (hn : 300 ≤ n) (l : List (den KeyT)) (p : den LAttr) : attrs_May n (schK l) p = some (mayS l p) := by
  obtain ⟨n, rfl⟩ : ∃ m, n = m + 1 := ⟨n - 1, by omega⟩
  rw [attrs_May, attrs_May_top]
  unfold mayS
  by_cases h : 64 < p.length
  · have h' : (64 : Int) < (p.length : Int) := by omega
    rw [decide_eq_true h, decide_eq_true h']; rfl
  · have h' : ¬ (64 : Int) < (p.length : Int) := by omega
    rw [decide_eq_false h, decide_eq_false h', cond_false, cond_false]
    have hl := attrs_May_l5_list (value_May n) (Schema_Fits n) n n 0 (schK l) p 0 p (by omega) (by omega) (by omega)
    rw [show ((0 : Nat) : Int) = 0 from rfl, List.drop_zero] at hl
    rw [hl]
    exact attrs_May_g5_spec n (by omega) l p (by omega) p 0 0 rfl (by omega)
theorem mayS_eq (l : List (den KeyT)) (p : den LAttr) : mayS l p = mayA l p := by
  unfold mayS mayA
  have : risF none p = decide (Srt p) := by rw [Bool.eq_iff_iff, risF_none, decide_eq_true_eq]
  rw [this]
  cases decide (Srt p) <;> cases decide (64 < p.length) <;> cases p.all (fun x => mayV x.2.1) <;> rfl
theorem attrs_Part_1_spec (n : Nat) (l : List (den KeyT)) (x : den TAttr) (b : Bool) (hn : 5 ≤ n) : attrs_Part_1 n x (schK l) b = some (!inB l x.1 b) := by
  obtain ⟨n, rfl⟩ : ∃ m, n = m + 1 := ⟨n - 1, by omega⟩
  rw [attrs_Part_1, attrs_Part_1_top, Schema_Find_spec n l x.1 (by omega)]
  simp only [Option.bind_some, inB]
  cases (findK l x.1).isSome <;> rfl

theorem slices_IndexFunc_Attr__attrs_Part_1_l2_spec (C : den TAttr  → den PSchema → den .bool → Option Bool) (n : Nat) (s : den (.slice TAttr)) (ca : den PSchema) (cb : den .bool) (d : den TAttr → Bool) (hC : ∀ x, C x ca cb = some (d x)) (hs : s.length ≤ 4194304) :
    ∀ (m i : Nat), s.length - i < m → i ≤ s.length → (∀ x ∈ s.take i, d x = false) →
      (slices_IndexFunc_Attr__attrs_Part_1_l2 C n m s ca cb (s.length : Int) (i : Int) = some (-1) ∧ ∀ x ∈ s, d x = false) ∨ ∃ k : Nat, slices_IndexFunc_Attr__attrs_Part_1_l2 C n m s ca cb (s.length : Int) (i : Int) = some (k : Int) ∧ k < s.length ∧ (∀ x ∈ s.take k, d x = false) ∧ d (s.getD k (dflt TAttr)) = true := by
  intro m
  induction m with
  | zero => intro i h; omega
  | succ m ih =>
    intro i hm hi hp
    rw [slices_IndexFunc_Attr__attrs_Part_1_l2, slices_IndexFunc_Attr__attrs_Part_1_s2]
    by_cases h : i < s.length
    · have h' : (i : Int) < (s.length : Int) := by omega
      simp only [h', decide_true, cond_true, Int.natCast_nonneg, Bool.and_self, Int.toNat_natCast, hC, Option.bind_some]
      rw [w64s (n := i) (by omega)]
      cases g : d (s.getD i (dflt TAttr)) with
      | true => exact .inr ⟨i, rfl, h, hp, g⟩
      | false =>
        rw [cond_false]
        refine ih (i + 1) (by omega) (by omega) fun x hx => ?_
        rw [take_succ_getD h (dflt TAttr)] at hx
        rcases List.mem_append.1 hx with hx | hx
        · exact hp x hx
        · simp only [List.mem_singleton] at hx; rw [hx]; exact g
    · have h' : ¬ (i : Int) < (s.length : Int) := by omega
      simp only [h', decide_false, cond_false]
      refine .inl ⟨trivial, fun x hx => hp x ?_⟩
      rw [List.take_of_length_le (by omega)]; exact hx
theorem slices_IndexFunc_Attr__attrs_Part_1_spec (n : Nat) (s : den (.slice TAttr)) (ca : den PSchema) (cb : den .bool) (d : den TAttr → Bool) (B : Nat) (hC : ∀ n, B ≤ n → ∀ x, attrs_Part_1 n x ca cb = some (d x)) (hs : s.length ≤ 4194304) (hn : 4194310 + B ≤ n) :
    (slices_IndexFunc_Attr__attrs_Part_1 n s ca cb = some (-1) ∧ ∀ x ∈ s, d x = false) ∨ ∃ k : Nat, slices_IndexFunc_Attr__attrs_Part_1 n s ca cb = some (k : Int) ∧ k < s.length ∧ (∀ x ∈ s.take k, d x = false) ∧ d (s.getD k (dflt TAttr)) = true := by
  obtain ⟨n, rfl⟩ : ∃ k, n = k + 1 := ⟨n - 1, by omega⟩
  rw [slices_IndexFunc_Attr__attrs_Part_1, slices_IndexFunc_Attr__attrs_Part_1_top]
  exact slices_IndexFunc_Attr__attrs_Part_1_l2_spec (attrs_Part_1 n) n s ca cb d (hC n (by omega)) hs n 0 (by omega) (by omega) (by simp)

theorem slices_DeleteFunc_Attr__attrs_Part_1_l5_spec (Cx : den (.slice TAttr)  → den PSchema → den .bool → Option Int) (C : den TAttr  → den PSchema → den .bool → Option Bool) (n : Nat) (s : den (.slice TAttr)) (ca : den PSchema) (cb : den .bool) (d : den TAttr → Bool) (hC : ∀ x, C x ca cb = some (d x)) (hs : s.length ≤ 4194304) :
    ∀ (m i j : Nat) (o : den (.slice TAttr)), s.length - j < m → i < j → j ≤ s.length → o.length = s.length → o.take i = (s.take j).filter (fun x => !d x) → o.drop j = s.drop j →
      slices_DeleteFunc_Attr__attrs_Part_1_l5 Cx C n m ca cb (i : Int) (j : Int) o = some (s.filter (fun x => !d x), ((), ())) := by
  intro m
  induction m with
  | zero => intro i j o h; omega
  | succ m ih =>
    intro i j o hm hij hj hl h1 h2
    rw [slices_DeleteFunc_Attr__attrs_Part_1_l5, slices_DeleteFunc_Attr__attrs_Part_1_s5]
    by_cases h : j < s.length
    · have h' : (j : Int) < (o.length : Int) := by omega
      have hi' : (i : Int) < (o.length : Int) := by omega
      obtain ⟨e, hy, hno⟩ := shift_step (fun x => !d x) (dflt TAttr) s o i j hij h hl h1 h2
      simp only [h', hi', decide_true, cond_true, Int.natCast_nonneg, Bool.and_self, Int.toNat_natCast, hC, Option.bind_some]
      rw [w64s (n := i) (by omega), w64s (n := j) (by omega), e]
      cases g : d (s.getD j (dflt TAttr)) with
      | true =>
        obtain ⟨q1, q2⟩ := hno (by rw [g]; rfl)
        simp only [Bool.not_true, cond_false]
        exact ih i (j + 1) o (by omega) (by omega) (by omega) hl q1 q2
      | false =>
        obtain ⟨q1, q2⟩ := hy (by rw [g]; rfl)
        rw [e] at q1 q2
        simp only [Bool.not_false, cond_true]
        exact ih (i + 1) (j + 1) _ (by omega) (by omega) (by omega) (by rw [List.length_set]; exact hl) q1 q2
    · have h' : ¬ (j : Int) < (o.length : Int) := by omega
      have hi' : (i : Int) ≤ (o.length : Int) := by omega
      have hli : (o.take i).length = i := by rw [List.length_take]; omega
      have h3 : (i : Int) ≤ ((o.take i ++ List.replicate (o.length - i) (dflt TAttr)).length : Int) := by rw [List.length_append, hli]; omega
      simp only [h', decide_false, cond_false, hi', h3, decide_true, Int.natCast_nonneg, Bool.and_self, cond_true, Int.toNat_natCast]
      have e1 : (o.take i ++ List.replicate (o.length - i) (dflt TAttr)).take i = o.take i := by
        rw [List.take_append_of_le_length (by omega), List.take_of_length_le (by omega)]
      rw [e1, h1, List.take_of_length_le (by omega)]
theorem slices_DeleteFunc_Attr__attrs_Part_1_spec (n : Nat) (ca : den PSchema) (cb : den .bool) (s : den (.slice TAttr)) (d : den TAttr → Bool) (B : Nat) (hC : ∀ n, B ≤ n → ∀ x, attrs_Part_1 n x ca cb = some (d x)) (hs : s.length ≤ 4194304) (hn : 4194320 + B ≤ n) : slices_DeleteFunc_Attr__attrs_Part_1 n ca cb s = some (s.filter (fun x => !d x), ((), ())) := by
  obtain ⟨n, rfl⟩ : ∃ k, n = k + 1 := ⟨n - 1, by omega⟩
  rw [slices_DeleteFunc_Attr__attrs_Part_1, slices_DeleteFunc_Attr__attrs_Part_1_top]
  rcases slices_IndexFunc_Attr__attrs_Part_1_spec n s ca cb d B hC hs (by omega) with ⟨h1, h2⟩ | ⟨k, h1, h2, h3, h4⟩
  · rw [h1, Option.bind_some, notAny h2]; rfl
  · rw [h1, Option.bind_some]
    have hne : ¬ (k : Int) = -1 := by omega
    rw [decide_eq_false hne, cond_false, w64s (n := k) (by omega)]
    refine slices_DeleteFunc_Attr__attrs_Part_1_l5_spec _ (attrs_Part_1 n) n s ca cb d (hC n (by omega)) hs n k (k + 1) s (by omega) (by omega) (by omega) rfl ?_ rfl
    rw [take_succ_getD h2 (dflt TAttr), List.filter_append, notAny h3]
    simp only [List.filter_cons, h4, Bool.not_true, Bool.false_eq_true, if_false, List.filter_nil, List.append_nil]

theorem attrs_Part_spec (n : Nat) (l : List (den KeyT)) (p : den LAttr) (b : Bool) (hp : p.length ≤ 4194304) (hn : 4194400 ≤ n) : attrs_Part n (schK l) p b = some (partS l p b) := by
  obtain ⟨n, rfl⟩ : ∃ k, n = k + 1 := ⟨n - 1, by omega⟩
  rw [attrs_Part, attrs_Part_top, slices_Clone_Attr_spec n p hp (by omega), Option.bind_some, slices_DeleteFunc_Attr__attrs_Part_1_spec n (schK l) b p (fun x => !inB l x.1 b) 5 (fun n hn x => attrs_Part_1_spec n l x b hn) hp (by omega)]
  simp only [Bool.not_not]
  rfl
theorem all_put {l : List (den KeyT)} {a : den LAttr} {x : den TAttr} (ha : Srt a) (ga : All (GoodA l) a) (gx : GoodA l x.1 x.2) : All (GoodA l) (putK x a) := by
  intro k v hf
  rw [find_putK k ha] at hf
  split at hf
  · rename_i e
    cases hf; rw [← e]; exact gx
  · exact ga k v hf
theorem attrsStay (N : Nat) (hN : N = 8388607) (keys : den LKey) (a : den LAttr) (x : den TAttr) (h1 : a.length ≤ 1048576) : law05_AttrsStay (N + 1) keys a x = some true := by
  have hk : law05_known N = some true := hN ▸ law05_known_at
  obtain ⟨g, hg⟩ := law05_great_some N a (by omega) (by omega)
  rw [law05_AttrsStay, law05_AttrsStay_top, hk, hg]
  simp only [Option.bind_some]
  cases hk64 : decide ((64 : Int) < (keys.length : Int)) with
  | true => rfl
  | false =>
  cases g with
  | true => rfl
  | false =>
  cases decide ((200 : Int) < (ByteArray.size x.2.1.2.2.2.1 : Int)) with
  | true => rfl
  | false =>
  simp only [cond_false]
  obtain ⟨m, rfl⟩ : ∃ m, N = m + 1 := ⟨N - 1, by omega⟩
  rw [show schema_New (m + 1) keys = some (newS keys) from rfl]
  simp only [Option.bind_some]
  have hb : keys.length ≤ 64 := by
    have := of_decide_eq_false hk64
    omega
  cases hko : keysOk keys with
  | false => rw [newS_bad hko]; rfl
  | true =>
  rw [newS_good hko (by omega)]
  have hS : (some (sortK keys, (keys.map fun k => ((k.1 : Int), k), ())) : den PSchema) = schK keys := rfl
  simp only [decide_true, Bool.not_true, cond_false]
  rw [hS, attrs_May_spec (m + 1) (by omega) keys a, mayS_eq]
  simp only [Option.bind_some]
  by_cases m3 : mayA keys a = 0
  case neg => rw [decide_eq_false m3]; rfl
  rw [decide_eq_true m3]
  obtain ⟨_, sa, ga⟩ := mayA_ok.1 m3
  have Ga : All (GoodA keys) a := (all_mem sa).2 fun x hx => (ga x hx).2
  simp only [Bool.not_true, cond_false]
  rw [Schema_Fits_spec (m + 1) keys x.1 x.2.1 (by omega), attrs_With_spec (m + 1) a x (by omega) sa (by omega)]
  simp only [Option.bind_some]
  rw [attrs_May_spec (m + 1) (by omega) keys (putK x a), mayS_eq]
  have hfit : decide (mayA keys (putK x a) = 0) = fitK keys x.1 x.2.1 := by
    rw [Bool.eq_iff_iff, decide_eq_true_eq]
    constructor
    · intro h
      obtain ⟨_, s2, g2⟩ := mayA_ok.1 h
      have : find x.1 (putK x a) = some x.2 := by rw [find_putK x.1 sa, if_pos rfl]
      exact (g2 _ (find_mem this)).2
    · intro h
      exact mayA_of hb (srt_putK sa) (all_put sa Ga h)
  simp only [Option.bind_some]
  rw [hfit]
  have : eqT .bool (fitK keys x.1 x.2.1) (fitK keys x.1 x.2.1) = true := beq_self_eq_true _
  rw [this, cond_true, attrs_Without_spec (m + 1) a x.1 (by omega) (by omega)]
  simp only [Option.bind_some]
  rw [attrs_May_spec (m + 1) (by omega) keys (delK x.1 a), mayS_eq, mayA_of hb (srt_delK sa) (all_filter sa _ Ga), attrs_Part_spec (m + 1) keys a true (by omega) (by omega), attrs_Part_spec (m + 1) keys a false (by omega) (by omega)]
  simp only [Option.bind_some, decide_true, cond_true]
  rw [attrs_May_spec (m + 1) (by omega) keys (partS keys a true), mayS_eq, mayA_of hb (srt_partS sa) (all_filter sa _ Ga), attrs_May_spec (m + 1) (by omega) keys (partS keys a false), mayS_eq, mayA_of hb (srt_partS sa) (all_filter sa _ Ga)]
  rfl
theorem AttrsStay_ok (keys : den LKey) (a : den LAttr) (x : den TAttr) (_ : wfT LKey keys) (_ : wfT LAttr a) (_ : wfT TAttr x) (h : bulkT LKey keys + bulkT LAttr a + bulkT TAttr x ≤ 1048576) :
    ∃ n, acall cfg intr intrI n 6 [.s (.val LKey keys), .s (.val LAttr a), .s (.val TAttr x)] (.one .bool) = some true := by
  have h1 := bulk_len7 a
  exact ⟨8388607 + 1, (law05_AttrsStay_eq _ keys a x).trans (attrsStay _ rfl keys a x (by omega))⟩
theorem find_reverse {β : Type} {l : List (Int × β)} (hs : Srt l) (k : Int) : find k l.reverse = find k l := by
  have h1 : (find k l.reverse).isSome = (find k l).isSome := by
    rw [← any_find, ← any_find, List.any_reverse]
  cases hr : find k l.reverse with
  | none =>
    rw [hr] at h1
    cases hf : find k l with
    | none => rfl
    | some v => rw [hf] at h1; cases h1
  | some w =>
    have := find_mem hr
    rw [List.mem_reverse] at this
    exact (mem_find hs this).symm
theorem part_part {β : Type} (l : List (den KeyT)) (p : List (Int × β)) (b : Bool) : partS l (partS l p b) (!b) = [] := by
  unfold partS
  rw [List.filter_filter, List.filter_eq_nil_iff]
  intro x _
  unfold inB
  show ¬ ((((findK l x.1).isSome && ((((findK l x.1).getD (dflt KeyT)).2.1 : Bool) == !b)) && ((findK l x.1).isSome && ((((findK l x.1).getD (dflt KeyT)).2.1 : Bool) == b))) = true)
  generalize (((findK l x.1).getD (dflt KeyT)).2.1 : Bool) = z
  cases (findK l x.1).isSome <;> cases z <;> cases b <;> simp
theorem parts_g9 (N : Nat) (hN : 4194600 ≤ N) (C1 : den LAttr → Option Bool) (C2 : den LKey → Option (den PSchema × Int)) (C3 : den PSchema → den LAttr → Option Int) (C4 : den LAttr → Option (den LAttr)) (keys : List (den KeyT)) (a p q : den LAttr) (ha : a.length ≤ 1048576) (hp : p.length ≤ 1048576) (hq : q.length ≤ 1048576)
    (hlen : p.length + q.length = a.length) (h1 : partS keys p true = []) (h2 : partS keys q false = []) : ∀ (r acc : den LAttr), Srt acc → acc.length + r.length ≤ 4194303 → ordF acc r = a →
    law05_AttrsParts_g9 (some true) C1 C2 C3 (attrs_Part N) C4 (attrs_With N) (attrs_Same N) r a (schK keys) p q acc = some true
  | [], acc, _, hb, hr => by
    have hr' : acc = a := hr
    subst hr'
    rw [law05_AttrsParts_g9]
    have hw : IntKind.wrap .i64 ((p.length : Int) + (q.length : Int)) = (acc.length : Int) := by rw [w64 (by omega) (by omega)]; omega
    rw [hw]
    simp only [decide_true, cond_true]
    rw [attrs_Same_spec N acc acc (by omega) (by omega)]
    simp only [Option.bind_some, decide_true, cond_true]
    rw [attrs_Part_spec N keys p true (by omega) (by omega), attrs_Part_spec N keys q false (by omega) (by omega), h1, h2]
    rfl
  | x :: r, acc, hs, hb, hr => by
    have hb : acc.length + (r.length + 1) ≤ 4194303 := hb
    have hl := (len_putK (x := x) (l := acc)).2
    rw [law05_AttrsParts_g9, attrs_With_spec N acc x (by omega) hs (by omega)]
    exact parts_g9 N hN C1 C2 C3 C4 keys a p q ha hp hq hlen h1 h2 r (putK x acc) (srt_putK hs) (by omega) hr
theorem attrsParts (N : Nat) (hN : N = 8388607) (keys : den LKey) (a : den LAttr) (h1 : a.length ≤ 1048576) : law05_AttrsParts (N + 1) keys a = some true := by
  have hk : law05_known N = some true := hN ▸ law05_known_at
  obtain ⟨g, hg⟩ := law05_great_some N a (by omega) (by omega)
  rw [law05_AttrsParts, law05_AttrsParts_top, hk, hg]
  simp only [Option.bind_some]
  cases hk64 : decide ((64 : Int) < (keys.length : Int)) with
  | true => rfl
  | false =>
  cases g with
  | true => rfl
  | false =>
  simp only [cond_false]
  obtain ⟨m, rfl⟩ : ∃ m, N = m + 1 := ⟨N - 1, by omega⟩
  rw [show schema_New (m + 1) keys = some (newS keys) from rfl]
  simp only [Option.bind_some]
  have hb : keys.length ≤ 64 := by
    have := of_decide_eq_false hk64
    omega
  cases hko : keysOk keys with
  | false => rw [newS_bad hko]; rfl
  | true =>
  rw [newS_good hko (by omega)]
  have hS : (some (sortK keys, (keys.map fun k => ((k.1 : Int), k), ())) : den PSchema) = schK keys := rfl
  simp only [decide_true, Bool.not_true, cond_false]
  rw [hS, attrs_May_spec (m + 1) (by omega) keys a, mayS_eq]
  simp only [Option.bind_some]
  by_cases m3 : mayA keys a = 0
  case neg => rw [decide_eq_false m3]; rfl
  rw [decide_eq_true m3]
  obtain ⟨_, sa, ga⟩ := mayA_ok.1 m3
  simp only [Bool.not_true, cond_false]
  have hin : ∀ c ∈ a, (findK keys c.1).isSome = true := fun c hc => fit_in (ga c hc).2
  have q1 := len_partS (l := keys) (p := a) (b := false)
  have q2 := len_partS (l := keys) (p := a) (b := true)
  have q3 := len_parts keys a hin
  rw [attrs_Part_spec (m + 1) keys a true (by omega) (by omega), attrs_Part_spec (m + 1) keys a false (by omega) (by omega)]
  simp only [Option.bind_some]
  rw [attrs_Copy_spec (m + 1) _ (by omega) (by omega)]
  simp only [Option.bind_some]
  have hl := law05_AttrsParts_l9_list (some true) (law05_great (m + 1)) (schema_New (m + 1)) (attrs_May (m + 1)) (attrs_Part (m + 1)) (attrs_Copy (m + 1)) (attrs_With (m + 1)) (attrs_Same (m + 1)) (m + 1) (m + 1) 0 a (schK keys) (partS keys a false) (partS keys a true) (partS keys a false) (by omega) (by omega) (by omega)
  rw [show ((0 : Nat) : Int) = 0 from rfl, List.drop_zero] at hl
  rw [hl]
  refine parts_g9 (m + 1) (by omega) _ _ _ _ keys a _ _ h1 (by omega) (by omega) q3 (part_part keys a false) (part_part keys a true) _ _ (srt_partS sa) (by omega) ?_
  have s1 := srt_partS (l := keys) (b := false) sa
  refine srt_ext (ordF_srt _ _ s1) sa fun k => ?_
  rw [find_ordF k _ _ s1]
  have hrev : find k (partS keys a true).reverse = find k (partS keys a true) := find_reverse (srt_partS sa) k
  rw [hrev]
  rcases parts_either keys a hin k with ⟨e1, e2⟩ | ⟨e1, e2⟩ <;> rw [e1, e2]
  · rfl
  · cases find k a <;> rfl
theorem AttrsParts_ok (keys : den LKey) (a : den LAttr) (_ : wfT LKey keys) (_ : wfT LAttr a) (h : bulkT LKey keys + bulkT LAttr a ≤ 1048576) :
    ∃ n, acall cfg intr intrI n 8 [.s (.val LKey keys), .s (.val LAttr a)] (.one .bool) = some true := by
  have h1 := bulk_len7 a
  exact ⟨8388607 + 1, (law05_AttrsParts_eq _ keys a).trans (attrsParts _ rfl keys a (by omega))⟩
#print axioms AttrsStay_ok
#print axioms AttrsParts_ok
end Go.Proofs.YtecangnmmbcbkaaDoor.Ab
