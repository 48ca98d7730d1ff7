/- The reference of layer 14, and the law RulesDo. -/
import Derived.Test.YtlcphnmkkilefaaPX
import Derived.Test.YtlcphnmkkilefaaPY
set_option linter.unusedVariables false
set_option linter.unusedSimpArgs false
set_option maxRecDepth 10000
namespace Go.Proofs.Ytlcphnmkkilefaa.Ab
open Go Classical
noncomputable def refStep (p out : den LChange) (o : Int) : Option (den LChange) := match find o p with
  | some v => if v.1 = true then some out else none
  | none => some (putK (goneC o) out)
noncomputable def refInner (p : den LChange) : List Int → den LChange → Option (den LChange)
  | [], out => some out
  | o :: r, out => (refStep p out o).bind (refInner p r)
noncomputable def refOuter (p : den LChange) (G : Int → List Int) : den LChange → den LChange → Option (den LChange)
  | [], out => some out
  | c :: r, out => if c.2.1 = true then refOuter p G r out else (refInner p (G c.1) out).bind (refOuter p G r)
def InvC (p out : den LChange) : Prop := Srt out ∧ ∀ o, match find o p with
  | some v => find o out = some v
  | none => find o out = none ∨ find o out = some (true, (zv, ()))
theorem putK_same {β : Type} {x : Int × β} {l : List (Int × β)} (h : Srt l) (hf : find x.1 l = some x.2) : putK x l = l := by
  refine srt_ext (srt_putK h) h fun k => ?_
  rw [find_putK k h]
  by_cases e : x.1 = k
  · rw [if_pos e, ← e, hf]
  · rw [if_neg e]
theorem stepC_ref {p out : den LChange} (h : InvC p out) (o : Int) : stepC out o = refStep p out o ∧ ∀ out', stepC out o = some out' → InvC p out' := by
  obtain ⟨hs, hi⟩ := h
  have ho := hi o
  unfold stepC refStep
  cases hp : find o p with
  | some v =>
    rw [hp] at ho
    have ho' : find o out = some v := ho
    simp only [ho']
    refine ⟨trivial, fun out' e => ?_⟩
    split at e
    · simp only [Option.some.injEq] at e; rw [← e]; exact ⟨hs, hi⟩
    · cases e
  | none =>
    rw [hp] at ho
    have ho' : find o out = none ∨ find o out = some (true, (zv, ())) := ho
    rcases ho' with g | g
    · simp only [g]
      refine ⟨trivial, fun out' e => ?_⟩
      simp only [Option.some.injEq] at e
      rw [← e]
      refine ⟨srt_putK hs, fun k => ?_⟩
      have hk := hi k
      rw [find_putK k hs]
      by_cases c : (goneC o).1 = k
      · have c' : o = k := c
        rw [if_pos c, ← c', hp]
        exact .inr rfl
      · rw [if_neg c]; exact hk
    · simp only [g, if_true]
      refine ⟨?_, fun out' e => ?_⟩
      · rw [putK_same hs (x := goneC o) g]
      · simp only [Option.some.injEq] at e; rw [← e]; exact ⟨hs, hi⟩
theorem innerC_ref {p : den LChange} : ∀ (r : List Int) {out : den LChange}, InvC p out → innerC r out = refInner p r out ∧ ∀ out', innerC r out = some out' → InvC p out'
  | [], out, h => ⟨rfl, fun out' e => by simp only [innerC, Option.some.injEq] at e; rw [← e]; exact h⟩
  | o :: r, out, h => by
    obtain ⟨h1, h2⟩ := stepC_ref h o
    simp only [innerC, refInner, ← h1]
    cases hc : stepC out o with
    | none => exact ⟨rfl, fun out' e => by cases e⟩
    | some o1 => exact innerC_ref r (h2 o1 hc)
theorem outerC_ref {p : den LChange} (G : Int → List Int) : ∀ (r : den LChange) {out : den LChange}, InvC p out → outerC G r out = refOuter p G r out
  | [], out, h => rfl
  | c :: r, out, h => by
    simp only [outerC, refOuter]
    split
    · exact outerC_ref G r h
    · obtain ⟨h1, h2⟩ := innerC_ref (G c.1) h
      rw [← h1]
      cases hc : innerC (G c.1) out with
      | none => rfl
      | some o1 => exact outerC_ref G r (h2 o1 hc)
theorem srt_refInner {p : den LChange} : ∀ {r : List Int} {out out' : den LChange}, Srt out → refInner p r out = some out' → Srt out' ∧ out'.length ≤ out.length + r.length
  | [], out, out', h, e => by simp only [refInner, Option.some.injEq] at e; subst e; exact ⟨h, by simp⟩
  | o :: r, out, out', h, e => by
    simp only [refInner] at e
    cases h1 : refStep p out o with
    | none => rw [h1] at e; cases e
    | some o1 =>
      rw [h1, Option.bind_some] at e
      have ab : Srt o1 ∧ o1.length ≤ out.length + 1 := by
        unfold refStep at h1
        split at h1
        · split at h1
          · simp only [Option.some.injEq] at h1; subst h1; exact ⟨h, by omega⟩
          · cases h1
        · simp only [Option.some.injEq] at h1; subst h1; exact ⟨srt_putK h, len_putK.2⟩
      obtain ⟨c, d⟩ := srt_refInner ab.1 e
      exact ⟨c, by simp only [List.length_cons]; omega⟩
theorem ref14_Complete_g8_spec (n : Nat) (hn : 4194400 ≤ n) (C : den LKey → Int → Option (den Li64)) (LS3 : den (LKey) → den (LChange) → den (LChange) → den (.int .i64) → Option (denR (.two (LChange) (.int .i64)))) (keys : den LKey) (p : den LChange) (hp : p.length ≤ 4194304) (it : Int) :
    ∀ (r : List Int) (out : den LChange), Srt out → out.length + r.length ≤ 4194000 → ref14_Complete_g8 C (ref06_Find n) (ref06_Put n) LS3 r keys p out it = match refInner p r out with
      | none => some ([], 3)
      | some out' => LS3 keys p out' (IntKind.wrap .i64 (it + (1 : Int)))
  | [], out, _, _ => rfl
  | o :: r, out, hs, hl => by
    have hl' : out.length + (r.length + 1) ≤ 4194000 := hl
    simp only [ref14_Complete_g8, ref06_Find_spec n p o hp (by omega), Option.bind_some, refInner, refStep]
    cases hf : find o p with
    | some v =>
      simp only [cond_true, Bool.not_true, cond_false]
      cases hv : v.1 with
      | false => simp
      | true =>
        simp only [Bool.not_true, cond_false, if_true, Option.bind_some]
        exact ref14_Complete_g8_spec n hn C LS3 keys p hp it r out hs (by omega)
    | none =>
      have hlp := (len_putK (x := goneC o) (l := out)).2
      simp only [cond_false, Bool.not_false, cond_true]
      rw [show ref06_Put n out (o, (true, (((0 : Int), ((0 : Int), ((0 : Int), ((⟨#[]⟩ : ByteArray), ())))), ()))) = some (putK (goneC o) out) from ref06_Put_spec n out (goneC o) hs (by omega) (by omega)]
      simp only [Option.bind_some]
      exact ref14_Complete_g8_spec n hn C LS3 keys p hp it r _ (srt_putK hs) (by omega)
theorem ref14_Complete_l3_spec (N : Nat) (hN : 4194400 ≤ N) (l : List (den KeyT)) (hk : l.length ≤ 64) (hok : keysOk l = true) (p : den LChange) (hp : p.length ≤ 60000) :
    ∀ (m i : Nat) (out : den LChange), p.length - i < m → i ≤ p.length → Srt out → out.length + (p.length - i) * 64 ≤ 4194000 →
      ref14_Complete_l3 (ref04_Group N) (ref06_Find N) (ref06_Put N) N m l p out (i : Int) = some (resC (refOuter p (groupK l) (p.drop i) out))
  | 0, i, out, h, _, _, _ => by omega
  | m + 1, i, out, h, hi, hs, hl => by
    show ref14_Complete_s3 _ _ _ _ _ _ _ _ _ = _
    unfold ref14_Complete_s3
    rcases Nat.lt_or_ge i p.length with c | c
    · have bw : IntKind.i64.wrap ((i : Int) + (1 : Int)) = ((i + 1 : Nat) : Int) := w64s (by omega)
      have ih := fun out h1 h2 => ref14_Complete_l3_spec N hN l hk hok p hp m (i + 1) out (by omega) (by omega) h1 h2
      rw [decide_eq_true (show (i : Int) < (p.length : Int) by omega), decide_eq_true (Int.natCast_nonneg i), drop_getD c (dflt TChange)]
      simp only [Bool.and_self, cond_true, Int.toNat_natCast, refOuter, bw]
      cases hg : (p.getD i (dflt TChange)).2.1 with
      | true =>
        simp only [cond_true, if_true]
        exact ih out hs (by omega)
      | false =>
        simp only [cond_false, Bool.false_eq_true, if_false]
        rw [ref04_Group_spec N (by omega) l (by omega) hok]
        simp only [Option.bind_some]
        have hgl := len_groupK l (p.getD i (dflt TChange)).1
        have h8 := ref14_Complete_l8_list (ref04_Group N) (ref06_Find N) (ref06_Put N) N (ref14_Complete_l3 (ref04_Group N) (ref06_Find N) (ref06_Put N) N m) N 0 l p out (i : Int) (groupK l (p.getD i (dflt TChange)).1) (by omega) (by omega) (by omega)
        rw [show ((0 : Nat) : Int) = 0 from rfl] at h8
        refine Eq.trans h8 ?_
        rw [List.drop_zero, ref14_Complete_g8_spec N hN _ _ _ _ (by omega) _ _ out hs (by omega)]
        cases hin : refInner p (groupK l (p.getD i (dflt TChange)).1) out with
        | none => rfl
        | some out' =>
          obtain ⟨a, b⟩ := srt_refInner hs hin
          simp only [Option.bind_some, bw]
          exact ih out' a (by omega)
    · rw [decide_eq_false (show ¬ (i : Int) < (p.length : Int) by omega), List.drop_eq_nil_of_le c]
      rfl
theorem invC_self {p : den LChange} (h : Srt p) : InvC p p := ⟨h, fun o => by
  cases e : find o p with
  | some v => rfl
  | none => exact .inl rfl⟩
theorem ref14_Complete_spec (n : Nat) (hn : 4194500 ≤ n) (l : List (den KeyT)) (hk : l.length ≤ 64) (hok : keysOk l = true) (p : den LChange) (hp : p.length ≤ 60000) (hs : Srt p) : ref14_Complete n l p = some (resC (outerC (groupK l) p p)) := by
  obtain ⟨n, rfl⟩ : ∃ m, n = m + 1 := ⟨n - 1, by omega⟩
  rw [ref14_Complete, ref14_Complete_top, decide_eq_true (show (([] : List (den (TChange))).length + p.length) * 56 ≤ 140737488355328 by simp only [List.length_nil]; omega), cond_true, List.nil_append]
  have h := ref14_Complete_l3_spec n (by omega) l hk hok p hp n 0 p (by omega) (by omega) hs (by omega)
  refine Eq.trans h ?_
  rw [List.drop_zero, outerC_ref (groupK l) p (invC_self hs)]
theorem ref14_hold_spec (n : Nat) (hn : 1 ≤ n) (a b c : Int) (hbc : b ≤ c) : ref14_hold n a b c = some (min (max a b) c) := by
  obtain ⟨n, rfl⟩ : ∃ m, n = m + 1 := ⟨n - 1, by omega⟩
  simp only [ref14_hold, ref14_hold_top]
  by_cases h : (a : Int) < b
  · rw [decide_eq_true h, cond_true, Int.max_eq_right (Int.le_of_lt h), Int.min_eq_left hbc]
  · rw [decide_eq_false h, cond_false, Int.max_eq_left (Int.not_lt.1 h)]
    by_cases h2 : (c : Int) < a
    · rw [decide_eq_true h2, cond_true, Int.min_eq_right (Int.le_of_lt h2)]
    · rw [decide_eq_false h2, cond_false, Int.min_eq_left (Int.not_lt.1 h2)]
theorem ref_tail (n : Nat) (hn : 4194500 ≤ n) (l : List (den KeyT)) (hk : l.length ≤ 64) (hok : keysOk l = true) (set : den LAttr) (hset : set.length ≤ 1048576) (hs : Srt set) (key by' c : Int) :
    ((ref14_hold n c (0 : Int) (8 : Int)).bind fun r3 => ((ref14_hold n by' (-8 : Int) (8 : Int)).bind fun r4 => ((ref14_hold n (IntKind.wrap .i64 (r3 + r4)) (0 : Int) (8 : Int)).bind fun r5 =>
      (bif ((!decide (r5 = (0 : Int)))) then ((ref14_Complete n l ([(key, (false, (((2 : Int), (r5, ((0 : Int), ((⟨#[]⟩ : ByteArray), ())))), ())))] : den (LChange))).bind fun r6 => ((ref06_Apply n set r6.1).bind fun r7 => ((ref05_Same n r7 set).bind fun r8 => (bif r8 then some (([] : den LChange), (0 : Int)) else some (r6.1, (0 : Int))))))
        else ((ref06_Apply n set ([(key, (true, (((0 : Int), ((0 : Int), ((0 : Int), ((⟨#[]⟩ : ByteArray), ())))), ())))] : den (LChange))).bind fun r9 => ((ref05_Same n r9 set).bind fun r10 => (bif r10 then some (([] : den LChange), (0 : Int)) else some ([(key, (true, (((0 : Int), ((0 : Int), ((0 : Int), ((⟨#[]⟩ : ByteArray), ())))), ())))], (0 : Int)))))))))
      = some (if applyS set (stepP l key (min (max (min (max c 0) 8 + min (max by' (-8)) 8) 0) 8)) = set then ([], 0) else (stepP l key (min (max (min (max c 0) 8 + min (max by' (-8)) 8) 0) 8), 0)) := by
  have hw : IntKind.wrap .i64 (min (max c 0) 8 + min (max by' (-8)) 8) = min (max c 0) 8 + min (max by' (-8)) 8 := w64 (by omega) (by omega)
  simp only [ref14_hold_spec n (by omega) _ (0 : Int) (8 : Int) (by omega), ref14_hold_spec n (by omega) _ (-8 : Int) (8 : Int) (by omega), Option.bind_some, hw]
  generalize min (max (min (max c 0) 8 + min (max by' (-8)) 8) 0) 8 = m
  obtain ⟨hP, hPs⟩ := len_stepP l hk key m
  have hap := len_apply set (stepP l key m)
  by_cases h0 : m = 0
  · subst h0
    simp only [decide_true, Bool.not_true, cond_false]
    rw [ref06_Apply_spec n set _ hs (by simp [Srt]) (by simp only [List.length_cons, List.length_nil]; omega) (by omega), Option.bind_some, ref05_Same_spec n _ set (by have h := hap; simp only [stepP, if_true] at h; exact Nat.le_trans h (by simp; omega)) (by omega), Option.bind_some]
    simp only [stepP, if_true]
    by_cases h : applyS set [goneC key] = set
    · rw [if_pos h, decide_eq_true h]; rfl
    · rw [if_neg h, decide_eq_false h]; rfl
  · rw [decide_eq_false h0]
    simp only [Bool.not_false, cond_true]
    rw [ref14_Complete_spec n (by omega) l hk hok _ (by simp) (by simp [Srt]), Option.bind_some]
    have hP' : stepP l key m = (resC (outerC (groupK l) [chI key m] [chI key m])).1 := by rw [stepP, if_neg h0]
    rw [← hP', ref06_Apply_spec n set _ hs hPs (by omega) (by omega), Option.bind_some, ref05_Same_spec n _ set (by omega) (by omega), Option.bind_some]
    by_cases h : applyS set (stepP l key m) = set
    · rw [if_pos h, decide_eq_true h]; rfl
    · rw [if_neg h, decide_eq_false h]; rfl
theorem ref14_Step_spec (n : Nat) (hn : 4194600 ≤ n) (l : List (den KeyT)) (hk : l.length ≤ 64) (hok : keysOk l = true) (set : den LAttr) (hset : set.length ≤ 1048576) (hs : Srt set) (key by' : Int) : ref14_Step n l set key by' = some (stepS l set key by') := by
  obtain ⟨n, rfl⟩ : ∃ m, n = m + 1 := ⟨n - 1, by omega⟩
  rw [ref14_Step, ref14_Step_top, ref04_Find_spec n l key (by omega) (by omega), Option.bind_some, stepS]
  cases hf : findK l key with
  | none => rfl
  | some k =>
    simp only [Option.isSome_some, Bool.not_true, cond_false, Option.getD_some]
    by_cases h2 : (k.2.2.1 : Int) = 2
    · rw [decide_eq_true h2, if_pos h2]
      simp only [Bool.not_true, cond_false]
      cases hb : k.2.1 with
      | false => rfl
      | true =>
        simp only [Bool.not_true, cond_false, if_true]
        rw [ref05_Get_spec n set key (by omega) (by omega), Option.bind_some]
        cases hg : (getS set key).2 with
        | false =>
          simp only [cond_false]
          have hN : nowN set key = 0 := by rw [nowN, hg]; simp
          rw [stepN, hN]
          exact ref_tail n (by omega) l hk hok set hset hs key by' 0
        | true =>
          simp only [cond_true]
          by_cases h3 : ((getS set key).1.1 : Int) = 2
          · have hN : nowN set key = (getS set key).1.2.1 := by rw [nowN, if_pos ⟨hg, h3⟩]
            rw [decide_eq_true h3, stepN, hN]
            exact ref_tail n (by omega) l hk hok set hset hs key by' _
          · have hN : nowN set key = 0 := by rw [nowN, if_neg fun h => h3 h.2]
            rw [decide_eq_false h3, stepN, hN]
            exact ref_tail n (by omega) l hk hok set hset hs key by' 0
    · rw [decide_eq_false h2, if_neg h2]; rfl
theorem ref14_Split_spec (n : Nat) (hn : 1048700 ≤ n) (l : List (den KeyT)) (hk : l.length ≤ 64) (a : den LAttr) (ha : a.length ≤ 1000) : ref14_Split n l a = some (a.filter fun a => byK l isSplit a.1) := by
  obtain ⟨n, rfl⟩ : ∃ m, n = m + 1 := ⟨n - 1, by omega⟩
  have hg : ∀ r acc : den LAttr, acc.length + r.length ≤ 1000000 → ref14_Split_g3 (ref04_Find n) r l acc = some (acc ++ r.filter fun a => byK l isSplit a.1) := by
    intro r
    induction r with
    | nil => intro acc _; simp [ref14_Split_g3]
    | cons x r ih =>
      intro acc h
      have h' : acc.length + (r.length + 1) ≤ 1000000 := h
      simp only [ref14_Split_g3, ref04_Find_spec n l _ (show l.length ≤ 1048576 by omega) (show 1048600 ≤ n by omega), Option.bind_some, List.filter_cons]
      have hb1 : decide ((acc.length + ([x] : List (den TAttr)).length) * 48 ≤ 140737488355328) = true := decide_eq_true (by simp only [List.length_cons, List.length_nil]; omega)
      cases hf : findK l x.1 with
      | none =>
        have hb : byK l isSplit x.1 = false := by unfold byK; rw [hf]
        simp only [hb, Option.isSome_none, cond_false, Bool.false_eq_true, if_false]; exact ih acc (by omega)
      | some k =>
        have hb : byK l isSplit x.1 = (k.2.1 && k.2.2.2.1) := by unfold byK; rw [hf]; rfl
        simp only [hb, Option.isSome_some, cond_true, Option.getD_some, hb1]
        cases k.2.1 <;> cases k.2.2.2.1 <;> simp only [cond_true, cond_false, Bool.and_self, Bool.and_false, Bool.and_true, Bool.false_eq_true, if_false, if_true]
        · exact ih acc (by omega)
        · exact ih acc (by omega)
        · exact ih acc (by omega)
        · rw [ih (acc ++ [x]) (by simp only [List.length_append, List.length_cons, List.length_nil]; omega)]
          simp
  have h := ref14_Split_l3_list (ref04_Find n) n n 0 l a [] (by omega) (by omega) (by omega)
  rw [show ((0 : Nat) : Int) = 0 from rfl, List.drop_zero] at h
  refine Eq.trans h ?_
  rw [hg a [] (by simp only [List.length_nil]; omega)]; rfl
theorem putK_end {β : Type} {x : Int × β} : ∀ {l : List (Int × β)}, (∀ y ∈ l, y.1 < x.1) → putK x l = l ++ [x]
  | [], _ => rfl
  | y :: l, h => by
    rw [putK, if_pos (h y (List.mem_cons_self ..)), putK_end fun z hz => h z (List.mem_cons_of_mem _ hz)]; rfl
theorem ref14_Typed_g9_spec (n : Nat) (hn : 4194400 ≤ n) (l : List (den KeyT)) (hk : l.length ≤ 64) : ∀ (r acc : den LAttr), Srt acc → acc.length + r.length ≤ 4000000 → ref14_Typed_g9 (ref04_Find n) (ref05_With n) (ref05_Get n) r l acc = some (addS acc (r.filter fun a => byK l isBefore a.1))
  | [], acc, _, _ => rfl
  | x :: r, acc, hs, h => by
    have h' : acc.length + (r.length + 1) ≤ 4000000 := h
    simp only [ref14_Typed_g9, ref04_Find_spec n l _ (show l.length ≤ 1048576 by omega) (show 1048600 ≤ n by omega), ref05_Get_spec n acc _ (show acc.length ≤ 4194304 by omega) (show 4194310 ≤ n by omega), Option.bind_some, List.filter_cons, getS_has]
    cases hf : findK l x.1 with
    | none =>
      have hb : byK l isBefore x.1 = false := by unfold byK; rw [hf]
      simp only [hb, Option.isSome_none, cond_false, Bool.false_eq_true, if_false]; exact ref14_Typed_g9_spec n hn l hk r acc hs (by omega)
    | some k =>
      have hb : byK l isBefore x.1 = (!k.2.1 && k.2.2.2.2.1) := by unfold byK; rw [hf]; rfl
      simp only [hb, Option.isSome_some, cond_true, Option.getD_some]
      cases k.2.1 <;> cases k.2.2.2.2.1 <;> simp only [cond_true, cond_false, Bool.and_self, Bool.and_false, Bool.and_true, Bool.not_true, Bool.not_false, Bool.false_eq_true, if_false, if_true]
      · exact ref14_Typed_g9_spec n hn l hk r acc hs (by omega)
      · simp only [addS]
        cases c : (find x.1 acc).isSome with
        | true =>
          simp only [Bool.not_true, cond_false, if_true]
          exact ref14_Typed_g9_spec n hn l hk r acc hs (by omega)
        | false =>
          simp only [Bool.not_false, cond_true, Bool.false_eq_true, if_false]
          rw [ref05_With_spec n acc x hs (by omega) (by omega), Option.bind_some]
          have hl := (len_putK (x := x) (l := acc)).2
          exact ref14_Typed_g9_spec n hn l hk r _ (srt_putK hs) (by omega)
      · exact ref14_Typed_g9_spec n hn l hk r acc hs (by omega)
      · exact ref14_Typed_g9_spec n hn l hk r acc hs (by omega)
theorem ref14_Typed_g3_spec (n : Nat) (hn : 4194400 ≤ n) (l : List (den KeyT)) (hk : l.length ≤ 64) (LL9 : den (LKey) → den (LAttr) → den (LAttr) → den (.int .i64) → Option (denR (.one (LAttr)))) (right : den LAttr) :
    ∀ (r acc : den LAttr), Srt acc → Srt r → (∀ y ∈ acc, ∀ x ∈ r, y.1 < x.1) → acc.length + r.length ≤ 4000000 → ref14_Typed_g3 (ref04_Find n) (ref05_With n) (ref05_Get n) LL9 r l right acc = LL9 l right (acc ++ r.filter fun a => byK l isAfter a.1) (0 : Int)
  | [], acc, _, _, _, _ => by simp [ref14_Typed_g3]
  | x :: r, acc, hs, hr, hx, h => by
    have h' : acc.length + (r.length + 1) ≤ 4000000 := h
    have hx1 : ∀ y ∈ acc, ∀ z ∈ r, y.1 < z.1 := fun y hy z hz => hx y hy z (List.mem_cons_of_mem _ hz)
    have hx2 : ∀ y ∈ acc, y.1 < x.1 := fun y hy => hx y hy x (List.mem_cons_self ..)
    obtain ⟨r1, r2⟩ := srt_cons.1 hr
    have ih := ref14_Typed_g3_spec n hn l hk LL9 right r acc hs r2 hx1 (by omega)
    simp only [ref14_Typed_g3, ref04_Find_spec n l _ (show l.length ≤ 1048576 by omega) (show 1048600 ≤ n by omega), Option.bind_some, List.filter_cons]
    cases hf : findK l x.1 with
    | none =>
      have hb : byK l isAfter x.1 = false := by unfold byK; rw [hf]
      simp only [hb, Option.isSome_none, cond_false, Bool.false_eq_true, if_false]; exact ih
    | some k =>
      have hb : byK l isAfter x.1 = (!k.2.1 && k.2.2.2.1) := by unfold byK; rw [hf]; rfl
      simp only [hb, Option.isSome_some, cond_true, Option.getD_some]
      cases k.2.1 <;> cases k.2.2.2.1 <;> simp only [cond_true, cond_false, Bool.and_self, Bool.and_false, Bool.and_true, Bool.not_true, Bool.not_false, Bool.false_eq_true, if_false, if_true]
      · exact ih
      · rw [ref05_With_spec n acc x hs (by omega) (by omega), Option.bind_some]
        have he := putK_end hx2
        have hl := (len_putK (x := x) (l := acc)).2
        rw [ref14_Typed_g3_spec n hn l hk LL9 right r _ (srt_putK hs) r2 (by
          rw [he]
          intro y hy z hz
          rcases List.mem_append.1 hy with hy | hy
          · exact hx1 y hy z hz
          · simp only [List.mem_singleton] at hy; rw [hy]; exact r1 z hz) (by omega), he]
        simp
      · exact ih
      · exact ih
theorem ref14_Typed_spec (n : Nat) (hn : 4194500 ≤ n) (l : List (den KeyT)) (hk : l.length ≤ 64) (left right : den LAttr) (hl : left.length ≤ 1000) (hr : right.length ≤ 1000) (hs : Srt left) : ref14_Typed n l left right = some (typedS l left right) := by
  obtain ⟨n, rfl⟩ : ∃ m, n = m + 1 := ⟨n - 1, by omega⟩
  have f1 := List.length_filter_le (fun a : den TAttr => byK l isAfter a.1) left
  have h := ref14_Typed_l3_list (ref04_Find n) (ref05_With n) (ref05_Get n) n n 0 l left right [] (by omega) (by omega) (by omega)
  rw [show ((0 : Nat) : Int) = 0 from rfl, List.drop_zero] at h
  refine Eq.trans h ?_
  rw [ref14_Typed_g3_spec n (by omega) l hk _ right left [] srt_nil hs (by simp) (by simp only [List.length_nil]; omega), List.nil_append]
  have h9 := ref14_Typed_l9_list (ref04_Find n) (ref05_With n) (ref05_Get n) n n 0 l right (left.filter fun a => byK l isAfter a.1) (by omega) (by omega) (by omega)
  rw [show ((0 : Nat) : Int) = 0 from rfl, List.drop_zero] at h9
  refine Eq.trans h9 ?_
  exact ref14_Typed_g9_spec n (by omega) l hk right _ (srt_filter hs) (by omega)
theorem srt_outerC (G : Int → List Int) (hG : ∀ k, (G k).length ≤ 64) : ∀ {r out out' : den LChange}, Srt out → outerC G r out = some out' → Srt out' ∧ out'.length ≤ out.length + r.length * 64
  | [], out, out', h, e => by simp only [outerC, Option.some.injEq] at e; subst e; exact ⟨h, by simp⟩
  | c :: r, out, out', h, e => by
    simp only [outerC] at e
    split at e
    · obtain ⟨a, b⟩ := srt_outerC G hG h e
      exact ⟨a, by simp only [List.length_cons]; omega⟩
    · cases h1 : innerC (G c.1) out with
      | none => rw [h1] at e; cases e
      | some o1 =>
        rw [h1, Option.bind_some] at e
        obtain ⟨a, b⟩ := srt_innerC h h1
        obtain ⟨a', b'⟩ := srt_outerC G hG a e
        have := hG c.1
        exact ⟨a', by simp only [List.length_cons]; omega⟩
theorem len_resO (l : List (den KeyT)) (hk : l.length ≤ 64) (p : den LChange) (hp : p.length ≤ 60000) (hs : Srt p) : (resC (outerC (groupK l) p p)).1.length ≤ 4194304 := by
  cases h : outerC (groupK l) p p with
  | none => simp [resC]
  | some o =>
    obtain ⟨_, b⟩ := srt_outerC (groupK l) (fun k => Nat.le_trans (len_groupK l k) hk) hs h
    show o.length ≤ 4194304
    omega
theorem len_stepS (l : List (den KeyT)) (hk : l.length ≤ 64) (set : den LAttr) (key by' : Int) : (stepS l set key by').1.length ≤ 4194304 := by
  have h := (len_stepP l hk key (stepN set key by')).1
  unfold stepS
  split
  · simp
  · split
    · split
      · split
        · simp
        · exact Nat.le_trans h (by omega)
      · simp
    · simp
theorem rulesDo_l20 (N : Nat) (hN : 4194400 ≤ N) (C1 C3 C4 C5 C6 C7 C8 C9 C10 C11 C12 C14 C16) {C2 : Option Bool} (hkn : C2 = some true) (p : den LChange) (a b : den LAttr) (hp : p.length ≤ 4194304) (ha : a.length ≤ 4194304) (hb : b.length ≤ 4194304) (L : Nat) (hL : L ≤ 4194304) : ∀ (m i : Nat) (o : den LChange), L - i < m → i ≤ L → o.length = L →
    law14_RulesDo_l20 C1 C2 C3 C4 C5 C6 C7 C8 C9 C10 C11 C12 (ref06_Same N) C14 (ref05_Same N) C16 N m p a b p a b (L : Int) (i : Int) o = some true
  | 0, i, o, h, _, _ => by omega
  | m + 1, i, o, h, hi, ho => by
    show law14_RulesDo_s20 _ _ _ _ _ _ _ _ _ _ _ _ _ _ _ _ _ _ _ _ _ _ _ _ _ _ = _
    unfold law14_RulesDo_s20
    rcases Nat.lt_or_ge i L with c | c
    · have bw : IntKind.i64.wrap ((i : Int) + (1 : Int)) = ((i + 1 : Nat) : Int) := w64s (by omega)
      rw [decide_eq_true (show (i : Int) < (L : Int) by omega), decide_eq_true (Int.natCast_nonneg i), decide_eq_true (show (i : Int) < (o.length : Int) by omega), bw]
      exact rulesDo_l20 N hN C1 C3 C4 C5 C6 C7 C8 C9 C10 C11 C12 C14 C16 hkn p a b hp ha hb L hL m (i + 1) _ (by omega) (by omega) (by rw [List.length_set]; exact ho)
    · rw [decide_eq_false (show ¬ (i : Int) < (L : Int) by omega), cond_false, ref06_Same_spec N p p hp (by omega), ref05_Same_spec N a a ha (by omega), ref05_Same_spec N b b hb (by omega), hkn]
      simp
theorem rulesDo (N : Nat) (hN : N = 8388607) (keys : den LKey) (p : den LChange) (a b : den LAttr) (key by' : Int) (hb1 : p.length ≤ 1048576) (hb2 : a.length ≤ 1048576) (hb3 : b.length ≤ 1048576) : law14_RulesDo (N + 1) keys p a b key by' = some true := by
  have hkn : law14_known N = some true := hN ▸ law14_known_at
  rw [law14_RulesDo, law14_RulesDo_top, law14_great_spec N keys p [a, b] (by simp) (by omega), hkn]
  simp only [Option.bind_some]
  cases hb : (decide (64 < keys.length) || decide (100 < p.length) || ([a, b] : den LLAttr).any fun s => decide (100 < s.length)) with
  | true => rfl
  | false =>
    simp only [Bool.or_eq_false_iff, decide_eq_false_iff_not, List.any_cons, List.any_nil] at hb
    have hk : keys.length ≤ 64 := by omega
    have hp : p.length ≤ 100 := by omega
    have ha : a.length ≤ 100 := by omega
    have hbl : b.length ≤ 100 := by omega
    simp only [cond_false]
    have hnew : schema_New N keys = some (newS keys) := by rw [hN]; rfl
    rw [hnew]
    simp only [Option.bind_some]
    cases hok : keysOk keys with
    | false =>
      rw [newS_bad hok, ref04_May_spec N (by omega) keys hk, hok]; rfl
    | true =>
      rw [newS_good hok hk]
      simp only [decide_true, Bool.not_true, cond_false]
      rw [show (some (sortK keys, (keys.map fun k => ((k.1 : Int), k), ())) : den (.ptr SchemaT)) = schK keys from rfl]
      obtain ⟨z1, hz1⟩ := rules_Complete_total N (by omega) keys hk p (by omega)
      have hz2 := rules_Split_spec N (by omega) keys a (by omega)
      obtain ⟨z3, hz3⟩ := rules_Typed_total N (by omega) keys a b (by omega) (by omega)
      obtain ⟨z4, hz4⟩ := rules_Step_total N (by omega) keys hk a (by omega) key by'
      rcases ref06_Rising_spec N p (by omega) (by omega) with e | ⟨e, hsp⟩
      · rw [e, Option.bind_some, hz1, hz2, hz3, hz4]; rfl
      rw [e]
      simp only [Option.bind_some, Bool.not_true, cond_false]
      rcases ref05_Rising_spec N a (by omega) (by omega) with e | ⟨e, hsa⟩
      · rw [e, Option.bind_some, hz1, hz2, hz3, hz4]; rfl
      rw [e]
      simp only [Option.bind_some, Bool.not_true, cond_false]
      rcases ref05_Rising_spec N b (by omega) (by omega) with e | ⟨e, hsb⟩
      · rw [e, Option.bind_some, hz1, hz2, hz3, hz4]; rfl
      rw [e]
      simp only [Option.bind_some, Bool.not_true, cond_false]
      rw [decide_eq_true (show (([] : List (den (TChange))).length + p.length) * 56 ≤ 140737488355328 by simp only [List.length_nil]; omega), decide_eq_true (show (([] : List (den (TAttr))).length + a.length) * 48 ≤ 140737488355328 by simp only [List.length_nil]; omega), decide_eq_true (show (([] : List (den (TAttr))).length + b.length) * 48 ≤ 140737488355328 by simp only [List.length_nil]; omega)]
      simp only [cond_true, List.nil_append]
      rw [rules_Complete_spec N (by omega) keys hk p (by omega) hsp, Option.bind_some, ref14_Complete_spec N (by omega) keys hk hok p (by omega) hsp, Option.bind_some, rules_Step_spec N (by omega) keys hk a (by omega) hsa, Option.bind_some, ref14_Step_spec N (by omega) keys hk hok a (by omega) hsa, Option.bind_some]
      have hz1' := rules_Complete_spec N (by omega) keys hk p (by omega) hsp
      have hlen : (resC (outerC (groupK keys) p p)).1.length ≤ 4194304 := len_resO keys hk p (by omega) hsp
      have hlen2 : (stepS keys a key by').1.length ≤ 4194304 := len_stepS keys hk a key by'
      rw [ref06_Same_spec N _ _ hlen (by omega), Option.bind_some, decide_eq_true rfl, Bool.not_true, cond_false, decide_eq_true rfl, Bool.not_true, cond_false, ref06_Same_spec N _ _ hlen2 (by omega), Option.bind_some, decide_eq_true rfl, Bool.not_true, cond_false, decide_eq_true rfl, Bool.not_true, cond_false]
      rw [hz2, Option.bind_some, ref14_Split_spec N (by omega) keys hk a (by omega), Option.bind_some]
      have hf := List.length_filter_le (fun a : den TAttr => byK keys isSplit a.1) a
      rw [ref05_Same_spec N _ _ (by omega) (by omega), Option.bind_some, decide_eq_true rfl, Bool.not_true, cond_false]
      obtain ⟨t1, t2, _⟩ := typedS_all keys a b hsa
      rw [rules_Typed_spec N (by omega) keys a b (by omega) (by omega) hsa, Option.bind_some, ref14_Typed_spec N (by omega) keys hk a b (by omega) (by omega) hsa, Option.bind_some, ref05_Same_spec N _ _ (by omega) (by omega), Option.bind_some, decide_eq_true rfl, Bool.not_true, cond_false]
      exact rulesDo_l20 N (by omega) _ _ _ _ _ _ _ _ _ _ _ _ _ rfl p a b (by omega) (by omega) (by omega) _ hlen N 0 _ (by omega) (by omega) rfl
end Go.Proofs.Ytlcphnmkkilefaa.Ab
