/- The law RulesSteps. -/
import Derived.Test.YtlcphnmkkilefaaPT
set_option linter.unusedVariables false
set_option linter.unusedSimpArgs false
set_option maxRecDepth 10000
namespace Go.Proofs.Ytlcphnmkkilefaa.Ab
open Go Classical
theorem law14_known_at : law14_known 8388607 = some true := by kernel_rfl
theorem law14_great_spec (n : Nat) (a0 : den LKey) (a1 : den LChange) (a2 : den LLAttr) (h : a2.length ≤ 1000) (hn : 1010 ≤ n) :
    law14_great n a0 a1 a2 = some (decide (64 < a0.length) || decide (100 < a1.length) || a2.any fun s => decide (100 < s.length)) := by
  obtain ⟨n, rfl⟩ : ∃ m, n = m + 1 := ⟨n - 1, by omega⟩
  have hg : ∀ r : List (den LAttr), law14_great_g4 r = some (r.any fun s => decide (100 < s.length)) := by
    intro r
    induction r with
    | nil => rfl
    | cons x r ih =>
      simp only [law14_great_g4, List.any_cons]
      by_cases c : 100 < x.length
      · rw [decide_eq_true (show (100 : Int) < (x.length : Int) by omega), decide_eq_true c]; rfl
      · rw [decide_eq_false (show ¬ (100 : Int) < (x.length : Int) by omega), decide_eq_false c, cond_false, ih]; rfl
  have h4 := law14_great_l4_list n n 0 a2 (by omega) (by omega) (by omega)
  rw [show ((0 : Nat) : Int) = 0 from rfl, List.drop_zero, hg] at h4
  rw [law14_great, law14_great_top, h4]
  by_cases c : 64 < a0.length
  · rw [decide_eq_true (show (64 : Int) < (a0.length : Int) by omega), decide_eq_true c]; rfl
  · rw [decide_eq_false (show ¬ (64 : Int) < (a0.length : Int) by omega), decide_eq_false c, cond_false]
    by_cases d : 100 < a1.length
    · rw [decide_eq_true (show (100 : Int) < (a1.length : Int) by omega), decide_eq_true d]; rfl
    · rw [decide_eq_false (show ¬ (100 : Int) < (a1.length : Int) by omega), decide_eq_false d, cond_false]; rfl
theorem groupK_ne {l : List (den KeyT)} {key o : Int} (h : o ∈ groupK l key) : o ≠ key := by
  unfold groupK at h
  split at h
  · simp at h
  · split at h
    · simp at h
    · obtain ⟨x, hx, rfl⟩ := List.mem_map.1 h
      have := (List.mem_filter.1 hx).2
      simp only [Bool.and_eq_true, Bool.not_eq_true', decide_eq_false_iff_not] at this
      exact this.2
theorem innerC_ok (key : Int) : ∀ (r : List Int) (out : den LChange), (∀ o ∈ r, o ≠ key) → (∀ k v, find k out = some v → k ≠ key → v.1 = true) → Srt out →
    ∃ out', innerC r out = some out' ∧ find key out' = find key out ∧ (∀ k v, find k out' = some v → k ≠ key → v.1 = true) ∧ Srt out'
  | [], out, _, h2, hs => ⟨out, rfl, rfl, h2, hs⟩
  | o :: r, out, h1, h2, hs => by
    have ho := h1 o (List.mem_cons_self ..)
    have hr : ∀ o ∈ r, o ≠ key := fun o h => h1 o (List.mem_cons_of_mem _ h)
    cases hf : find o out with
    | some v =>
      have hv := h2 o v hf ho
      obtain ⟨out', e1, e2, e3, e4⟩ := innerC_ok key r out hr h2 hs
      exact ⟨out', by simp only [innerC, stepC, hf, hv, if_true, Option.bind_some]; exact e1, e2, e3, e4⟩
    | none =>
      have h2' : ∀ k v, find k (putK (goneC o) out) = some v → k ≠ key → v.1 = true := by
        intro k v hk hne
        rw [find_putK k hs] at hk
        split at hk
        · simp only [Option.some.injEq] at hk; rw [← hk]
        · exact h2 k v hk hne
      obtain ⟨out', e1, e2, e3, e4⟩ := innerC_ok key r _ hr h2' (srt_putK (x := goneC o) hs)
      refine ⟨out', by simp only [innerC, stepC, hf, Option.bind_some]; exact e1, ?_, e3, e4⟩
      rw [e2, find_putK key hs, if_neg ho]
theorem ref05_Get_spec (n : Nat) (a : den LAttr) (t : Int) (ha : a.length ≤ 4194304) (hn : 4194310 ≤ n) : ref05_Get n a t = some (getS a t) := by
  obtain ⟨n, rfl⟩ : ∃ m, n = m + 1 := ⟨n - 1, by omega⟩
  have h := ref05_Get_l2_list n n 0 a t zv (by omega) (by omega) (by omega)
  rw [show ((0 : Nat) : Int) = 0 from rfl, List.drop_zero] at h
  refine Eq.trans h ?_
  have hg : ∀ (r : den LAttr), ref05_Get_g2 r t zv = some (getS r t) := by
    intro r
    induction r with
    | nil => rfl
    | cons x r ih =>
      simp only [ref05_Get_g2, getS, find]
      by_cases c : (x.1 : Int) = t
      · rw [decide_eq_true c, if_pos c]; rfl
      · rw [decide_eq_false c, if_neg c, cond_false, ih]; rfl
  exact hg a
theorem find_stepP (l : List (den KeyT)) (key m : Int) : find key (stepP l key m) = some (if m = 0 then (true, (zv, ())) else (false, (valI m, ()))) := by
  unfold stepP
  split
  · rename_i h; simp [find]
  · rename_i h
    have hs : Srt [chI key m] := by simp [Srt]
    obtain ⟨out', e1, e2, _, _⟩ := innerC_ok key (groupK l key) [chI key m] (fun o ho => groupK_ne ho) (fun k v hk hne => by
      simp only [find] at hk
      split at hk
      · rename_i h; exact absurd h.symm hne
      · cases hk) hs
    have : outerC (groupK l) [chI key m] [chI key m] = some out' := by
      simp only [outerC, Bool.false_eq_true, if_false]
      rw [e1]; rfl
    rw [this]
    show find key out' = _
    rw [e2]
    simp [find]
theorem find_now (l : List (den KeyT)) (hk : l.length ≤ 64) {set : den LAttr} (hs : Srt set) (key m : Int) : find key (applyS set (stepP l key m)) = if m = 0 then none else some (valI m, ()) := by
  rw [find_apply key set _ hs (len_stepP l hk key m).2, find_stepP]
  by_cases h : m = 0 <;> simp [h, onto]
theorem apply_idem {a : den LAttr} {p : den LChange} (ha : Srt a) (hp : Srt p) : applyS (applyS a p) p = applyS a p := by
  have h1 := srt_apply a p ha hp
  refine srt_ext (srt_apply _ _ h1 hp) h1 fun k => ?_
  rw [find_apply k _ _ h1 hp, find_apply k _ _ ha hp]
  cases find k p with
  | none => rfl
  | some q => rfl
theorem getS_of {a : den LAttr} {t : Int} : getS a t = match find t a with
    | some v => (v.1, true)
    | none => (zv, false) := rfl
theorem rulesSteps (N : Nat) (hN : N = 8388607) (keys : den LKey) (set : den LAttr) (key by' : Int) (hset : set.length ≤ 1048576) : law14_RulesSteps (N + 1) keys set key by' = some true := by
  have hkn : law14_known N = some true := hN ▸ law14_known_at
  rw [law14_RulesSteps, law14_RulesSteps_top, law14_great_spec N keys [] [set] (by simp) (by omega), hkn]
  simp only [Option.bind_some]
  cases hb : (decide (64 < keys.length) || decide (100 < ([] : den LChange).length) || ([set] : den LLAttr).any fun s => decide (100 < s.length)) with
  | true => rfl
  | false =>
    simp only [Bool.or_eq_false_iff, decide_eq_false_iff_not, List.any_cons, List.any_nil] at hb
    have hk : keys.length ≤ 64 := by omega
    simp only [cond_false]
    rcases ref05_Rising_spec N set (by omega) (by omega) with e | ⟨e, hs⟩
    · rw [e]; rfl
    rw [e]
    simp only [Option.bind_some, Bool.not_true, cond_false]
    have hnew : schema_New N keys = some (newS keys) := by rw [hN]; rfl
    rw [hnew]
    simp only [Option.bind_some]
    cases hok : keysOk keys with
    | false => rw [newS_bad hok]; rfl
    | true =>
      rw [newS_good hok hk]
      simp only [decide_true, Bool.not_true, cond_false]
      have hstep := fun (s : den LAttr) (h1 : s.length ≤ 1048576) (h2 : Srt s) (b : Int) => rules_Step_spec N (by omega) keys hk s h1 h2 key b
      have hfind := Schema_Find_spec N keys key (by omega)
      rw [show (some (sortK keys, (keys.map fun k => ((k.1 : Int), k), ())) : den (.ptr SchemaT)) = schK keys from rfl, hfind, hstep set hset hs by']
      simp only [Option.bind_some]
      cases hf : findK keys key with
      | none => simp only [stepS, hf]; rfl
      | some k =>
        simp only [Option.isSome_some, Bool.not_true, cond_false, Option.getD_some]
        by_cases h2 : (k.2.2.1 : Int) = 2
        · rw [decide_eq_true h2]
          simp only [Bool.not_true, cond_false]
          cases hbk : k.2.1 with
          | false => simp only [stepS, hf, h2, hbk]; rfl
          | true =>
            simp only [Bool.not_true, cond_false]
            generalize hm : stepN set key by' = m
            have hP := len_stepP keys hk key m
            have hnowlen := len_apply set (stepP keys key m)
            have hsn : Srt (applyS set (stepP keys key m)) := srt_apply _ _ hs hP.2
            have hst : stepS keys set key by' = (if applyS set (stepP keys key m) = set then ([], 0) else (stepP keys key m, 0)) := by
              simp only [stepS, hf, h2, hbk, if_true, hm]
            have hap : applyS set (stepS keys set key by').1 = applyS set (stepP keys key m) ∧ (stepS keys set key by').2 = 0 ∧ (stepS keys set key by').1.length ≤ 1001 := by
              rw [hst]
              split
              · rename_i h; exact ⟨by rw [h]; simp [applyS], rfl, by simp⟩
              · exact ⟨rfl, rfl, hP.1⟩
            rw [hap.2.1]
            simp only [decide_true, Bool.not_true, cond_false]
            rw [patch_Apply_spec N set _ (by omega) (by omega) (by omega), hap.1]
            simp only [Option.bind_some]
            have hfn := find_now keys hk hs key m
            have hidem : applyS (applyS set (stepP keys key m)) (stepP keys key m) = applyS set (stepP keys key m) := apply_idem hs hP.2
            have hm0 : 0 ≤ m ∧ m ≤ 8 := by rw [← hm, stepN]; omega
            generalize hNw : applyS set (stepP keys key m) = Nw at *
            have hl : Nw.length ≤ 1048576 := by omega
            have hg : getS Nw key = if m = 0 then (zv, false) else (valI m, true) := by
              rw [getS_of, hfn]
              by_cases h : m = 0 <;> simp [h]
            have hnow : nowN Nw key = m := by
              rw [nowN, hg]
              by_cases h : m = 0 <;> simp [h]
            have hN2 : stepN Nw key 0 = m := by rw [stepN, hnow]; omega
            have hs2 : stepS keys Nw key 0 = ([], 0) := by
              simp only [stepS, hf, h2, hbk, if_true, hN2, hidem]
            rw [ref05_Get_spec N Nw key (by omega) (by omega), hstep Nw hl hsn 0, hs2]
            simp only [Option.bind_some, List.length_nil, Int.natCast_zero, decide_true, cond_true]
            rw [patch_Apply_spec N Nw [] (by omega) (by simp) (by omega)]
            have hnil : applyS Nw [] = Nw := by simp [applyS]
            simp only [Option.bind_some, hnil, ref05_Same_same N Nw (by omega) (by omega), cond_true]
            rw [hg]
            by_cases h : m = 0
            · simp [h]
            · rw [if_neg h]
              have h1 : ¬ m < 1 := by omega
              have h8 : ¬ 8 < m := by omega
              simp [h1, h8]
        · rw [decide_eq_false h2]
          simp only [stepS, hf, h2]; rfl
end Go.Proofs.Ytlcphnmkkilefaa.Ab
