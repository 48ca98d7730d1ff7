/- rules.Step. -/
import Derived.Test.YtlcphnmkkilefaaPS
set_option linter.unusedVariables false
set_option linter.unusedSimpArgs false
set_option maxRecDepth 10000
namespace Go.Proofs.Ytlcphnmkkilefaa.Ab
open Go Classical
abbrev valI (n : Int) : den TValue := ((2 : Int), (n, ((0 : Int), ((⟨#[]⟩ : ByteArray), ()))))
abbrev chI (key n : Int) : den TChange := (key, (false, (valI n, ())))
noncomputable def nowN (set : den LAttr) (key : Int) : Int := if (getS set key).2 = true ∧ ((getS set key).1.1 : Int) = 2 then (getS set key).1.2.1 else 0
noncomputable def stepN (set : den LAttr) (key by' : Int) : Int := min (max (min (max (nowN set key) 0) 8 + min (max by' (-8)) 8) 0) 8
noncomputable def stepP (l : List (den KeyT)) (key n : Int) : den LChange := if n = 0 then [goneC key] else (resC (outerC (groupK l) [chI key n] [chI key n])).1
noncomputable def stepS (l : List (den KeyT)) (set : den LAttr) (key by' : Int) : den LChange × Int :=
  match findK l key with
  | none => ([], 4)
  | some k => if (k.2.2.1 : Int) = 2 then (if k.2.1 = true then (if applyS set (stepP l key (stepN set key by')) = set then ([], 0) else (stepP l key (stepN set key by'), 0)) else ([], 7)) else ([], 4)
theorem len_resC (G : Int → List Int) (key n : Int) (hG : (G key).length ≤ 1000) : (resC (outerC G [chI key n] [chI key n])).1.length ≤ 1001 ∧ Srt (resC (outerC G [chI key n] [chI key n])).1 := by
  have hs : Srt [chI key n] := by simp [Srt]
  simp only [outerC, Bool.false_eq_true, if_false]
  cases h : innerC (G key) [chI key n] with
  | none => exact ⟨by simp [resC], by simp [resC, Srt]⟩
  | some o =>
    obtain ⟨a, b⟩ := srt_innerC hs h
    refine ⟨?_, a⟩
    have : o.length ≤ 1 + (G key).length := b
    show o.length ≤ 1001
    omega
theorem len_stepP (l : List (den KeyT)) (hk : l.length ≤ 64) (key n : Int) : (stepP l key n).length ≤ 1001 ∧ Srt (stepP l key n) := by
  unfold stepP
  split
  · exact ⟨by simp, by simp [Srt]⟩
  · exact len_resC _ key n (by have := len_groupK l key; omega)
theorem step_tail (n : Nat) (hn : 4194500 ≤ n) (l : List (den KeyT)) (hk : l.length ≤ 64) (set : den LAttr) (hset : set.length ≤ 1048576) (key by' c : Int) :
    ((rules_hold n c (0 : Int) (8 : Int)).bind fun r3 => ((rules_hold n by' (-8 : Int) (8 : Int)).bind fun r4 => ((rules_hold n (IntKind.wrap .i64 (r3 + r4)) (0 : Int) (8 : Int)).bind fun r5 =>
      (bif ((!decide (r5 = (0 : Int)))) then ((rules_Complete n (schK l) ([(key, (false, (((2 : Int), (r5, ((0 : Int), ((⟨#[]⟩ : ByteArray), ())))), ())))] : den (LChange))).bind fun r6 => ((patch_Apply n set r6.1.1).bind fun r7 => ((attrs_Same n r7 set).bind fun r8 => (bif r8 then some (([] : den LChange), (0 : Int)) else some (r6.1.1, (0 : Int))))))
        else ((patch_Apply n set ([(key, (true, (((0 : Int), ((0 : Int), ((0 : Int), ((⟨#[]⟩ : ByteArray), ())))), ())))] : den (LChange))).bind fun r9 => ((attrs_Same n r9 set).bind fun r10 => (bif r10 then some (([] : den LChange), (0 : Int)) else some ([(key, (true, (((0 : Int), ((0 : Int), ((0 : Int), ((⟨#[]⟩ : ByteArray), ())))), ())))], (0 : Int)))))))))
      = some (if applyS set (stepP l key (min (max (min (max c 0) 8 + min (max by' (-8)) 8) 0) 8)) = set then ([], 0) else (stepP l key (min (max (min (max c 0) 8 + min (max by' (-8)) 8) 0) 8), 0)) := by
  have hw : IntKind.wrap .i64 (min (max c 0) 8 + min (max by' (-8)) 8) = min (max c 0) 8 + min (max by' (-8)) 8 := w64 (by omega) (by omega)
  simp only [rules_hold_spec n (by omega), Option.bind_some, hw]
  generalize min (max (min (max c 0) 8 + min (max by' (-8)) 8) 0) 8 = m
  obtain ⟨hP, _⟩ := len_stepP l hk key m
  have hap := len_apply set (stepP l key m)
  by_cases h0 : m = 0
  · subst h0
    simp only [decide_true, Bool.not_true, cond_false]
    rw [patch_Apply_spec n set _ (by omega) (by simp) (by omega), Option.bind_some, attrs_Same_spec n _ set (by have h := hap; simp only [stepP, if_true] at h; exact Nat.le_trans h (by simp; omega)) (by omega), Option.bind_some]
    simp only [stepP, if_true]
    by_cases h : applyS set [goneC key] = set
    · rw [if_pos h, decide_eq_true h]; rfl
    · rw [if_neg h, decide_eq_false h]; rfl
  · rw [decide_eq_false h0]
    simp only [Bool.not_false, cond_true]
    rw [rules_Complete_spec n (by omega) l hk _ (by simp) (by simp [Srt]), Option.bind_some]
    have hP' : stepP l key m = (resC (outerC (groupK l) [chI key m] [chI key m])).1 := by rw [stepP, if_neg h0]
    rw [← hP', patch_Apply_spec n set _ (by omega) (by omega) (by omega), Option.bind_some, attrs_Same_spec n _ set (by omega) (by omega), Option.bind_some]
    by_cases h : applyS set (stepP l key m) = set
    · rw [if_pos h, decide_eq_true h]; rfl
    · rw [if_neg h, decide_eq_false h]; rfl
theorem rules_Step_spec (n : Nat) (hn : 4194600 ≤ n) (l : List (den KeyT)) (hk : l.length ≤ 64) (set : den LAttr) (hset : set.length ≤ 1048576) (hs : Srt set) (key by' : Int) : rules_Step n (schK l) set key by' = some (stepS l set key by') := by
  obtain ⟨n, rfl⟩ : ∃ m, n = m + 1 := ⟨n - 1, by omega⟩
  rw [rules_Step, rules_Step_top, Schema_Find_spec n l key (by omega), Option.bind_some, stepS]
  cases hf : findK l key with
  | none => rfl
  | some k =>
    simp only [Option.isSome_some, Bool.not_true, cond_false, Option.getD_some]
    by_cases h2 : (k.2.2.1 : Int) = 2
    · rw [decide_eq_true h2, if_pos h2]
      simp only [Bool.not_true, cond_false]
      cases hb : k.2.1 with
      | false => rfl
      | true =>
        simp only [Bool.not_true, cond_false, if_true]
        rw [attrs_Get_spec n set key (by omega) hs (by omega), Option.bind_some]
        cases hg : (getS set key).2 with
        | false =>
          simp only [cond_false]
          have hN : nowN set key = 0 := by rw [nowN, hg]; simp
          rw [stepN, hN]
          exact step_tail n (by omega) l hk set hset key by' 0
        | true =>
          simp only [cond_true]
          by_cases h3 : ((getS set key).1.1 : Int) = 2
          · have hN : nowN set key = (getS set key).1.2.1 := by rw [nowN, if_pos ⟨hg, h3⟩]
            rw [decide_eq_true h3, stepN, hN]
            exact step_tail n (by omega) l hk set hset key by' _
          · have hN : nowN set key = 0 := by rw [nowN, if_neg fun h => h3 h.2]
            rw [decide_eq_false h3, stepN, hN]
            exact step_tail n (by omega) l hk set hset key by' 0
    · rw [decide_eq_false h2, if_neg h2]; rfl
end Go.Proofs.Ytlcphnmkkilefaa.Ab
