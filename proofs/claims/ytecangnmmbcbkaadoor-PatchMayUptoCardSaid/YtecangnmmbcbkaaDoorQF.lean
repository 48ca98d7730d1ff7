/- Values: ref03.May is value.May. -/
import Derived.Test.YtecangnmmbcbkaaDoorQE
import Derived.Test.YtecangnmmbcbkaaDoorA11
set_option linter.unusedVariables false
set_option linter.unusedSimpArgs false
set_option maxRecDepth 100000
namespace Go.Proofs.YtecangnmmbcbkaaDoor.Ab
open Go
/-- What a value's reading grants. -/
def okV (v : den TValue) : Prop := (0 : Int) ≤ v.2.2.1 ∧ (v.2.2.2.1 : ByteArray).size ≤ 4194304
theorem eqV_iff (u v : den TValue) : eqT TValue u v = true ↔ u = v := eqT_iff TValue u v rfl
theorem ref03_May_spec (n : Nat) (v : den TValue) (hv : okV v) (hn : (v.2.2.2.1 : ByteArray).size + 40 ≤ n) : ref03_May n v = some (mayV v) := by
  obtain ⟨n, rfl⟩ : ∃ k, n = k + 1 := ⟨n - 1, by omega⟩
  obtain ⟨h0, hs⟩ := hv
  obtain ⟨kd, i, f, s, u⟩ := v
  have h0 : (0 : Int) ≤ f := h0
  have hs : (s : ByteArray).size ≤ 4194304 := hs
  have hn : (s : ByteArray).size + 40 ≤ n + 1 := hn
  rw [ref03_May, ref03_May_top]
  unfold mayV
  simp only []
  by_cases c1 : (kd : Int) = 1
  · rw [decide_eq_true c1, cond_true, cond_true]
    by_cases n1 : (i : Int) = 1
    · have n0 : ¬ (i : Int) = 0 := fun h => by rw [n1] at h; exact absurd h (by decide)
      rw [decide_eq_true n1, decide_eq_false n0, cond_true, cond_false, n1]
      cases eqT TValue (kd, ((1 : Int), (f, (s, u)))) ((1 : Int), ((1 : Int), ((0 : Int), (zs, ())))) <;> rfl
    · rw [decide_eq_false n1, cond_false]
      by_cases n0 : (i : Int) = 0
      · rw [decide_eq_true n0, n0]
        cases eqT TValue (kd, ((0 : Int), (f, (s, u)))) ((1 : Int), ((0 : Int), ((0 : Int), (zs, ())))) <;> rfl
      · rw [decide_eq_false n0]
        have : eqT TValue (kd, (i, (f, (s, u)))) ((1 : Int), ((0 : Int), ((0 : Int), (zs, ())))) = false := by
          rw [Bool.eq_false_iff]
          intro h
          have := (eqV_iff _ _).1 h
          exact n0 (congrArg (fun z => z.2.1) this)
        rw [this]
        cases eqT TValue (kd, (i, (f, (s, u)))) ((1 : Int), (i, ((0 : Int), ((⟨#[]⟩ : ByteArray), ())))) <;> rfl
  rw [decide_eq_false c1, cond_false, cond_false]
  by_cases c2 : (kd : Int) = 2
  · rw [decide_eq_true c2]; rfl
  rw [decide_eq_false c2, cond_false, cond_false]
  by_cases c3 : (kd : Int) = 3
  · rw [decide_eq_true c3, cond_true, cond_true, ref03_none_spec n f h0 (by omega)]
    simp only [Option.bind_some]
    have hf : ((Int.toNat f : Nat) : Int) = f := Int.toNat_of_nonneg h0
    rw [hf]
    cases hnan : nanB f.toNat with
    | false =>
      rw [cond_false]
      cases eqT TValue (kd, (i, (f, (s, u)))) ((3 : Int), ((0 : Int), (f, ((⟨#[]⟩ : ByteArray), ())))) <;> rfl
    | true =>
      rw [cond_true]
      by_cases hf2 : (f : Int) = 9221120237041090560
      · rw [decide_eq_true hf2, hf2]
        cases eqT TValue (kd, (i, ((9221120237041090560 : Int), (s, u)))) ((3 : Int), ((0 : Int), ((9221120237041090560 : Int), (zs, ())))) <;> rfl
      · rw [decide_eq_false hf2]
        have : eqT TValue (kd, (i, (f, (s, u)))) ((3 : Int), ((0 : Int), ((9221120237041090560 : Int), (zs, ())))) = false := by
          rw [Bool.eq_false_iff]
          intro h
          have := (eqV_iff _ _).1 h
          exact hf2 (congrArg (fun z => z.2.2.1) this)
        rw [this]
        cases eqT TValue (kd, (i, (f, (s, u)))) ((3 : Int), ((0 : Int), (f, ((⟨#[]⟩ : ByteArray), ())))) <;> rfl
  rw [decide_eq_false c3, cond_false, cond_false]
  by_cases c4 : (kd : Int) = 4
  · rw [decide_eq_true c4, cond_true, cond_true]
    obtain ⟨lo, e⟩ := ref01_Read_spec n (bytesL s) (bytesL_ok s) (by rw [bytesL_len]; exact hs) (by rw [bytesL_len]; omega)
    rw [e]
    simp only [Option.bind_some]
    have : decide (((s : ByteArray).size : Int) ≤ 64) = decide ((s : ByteArray).size ≤ 64) := by
      rw [Bool.eq_iff_iff, decide_eq_true_eq, decide_eq_true_eq]; omega
    rw [this]
    cases eqT TValue (kd, (i, (f, (s, u)))) ((4 : Int), ((0 : Int), ((0 : Int), (s, ())))) <;> cases decide ((s : ByteArray).size ≤ 64) <;> cases valid (bytesL s) <;> rfl
  · rw [decide_eq_false c4]; rfl
#print axioms ref03_May_spec
end Go.Proofs.YtecangnmmbcbkaaDoor.Ab
