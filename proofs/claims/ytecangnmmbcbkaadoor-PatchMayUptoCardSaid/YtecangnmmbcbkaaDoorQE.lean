/- Values: the document's answer is the program's. -/
import Derived.Test.YtecangnmmbcbkaaDoorQD
set_option linter.unusedVariables false
set_option linter.unusedSimpArgs false
set_option maxRecDepth 100000
namespace Go.Proofs.YtecangnmmbcbkaaDoor.Ab
open Go
theorem w32 {n : Int} (h0 : -2147483648 ≤ n) (h1 : n < 2147483648) : IntKind.i32.wrap n = n := by
  simp only [IntKind.wrap, IntKind.bits, IntKind.signed, Bool.true_and]; by_cases g : n % 2 ^ 32 ≥ 2 ^ (32 - 1) <;> simp [g] <;> omega
theorem compare_self (x : Int) : compare x x = .eq := by simp
theorem nanB_iff (b : Nat) : nanB b = decide (9218868437227405312 < b % 9223372036854775808) := by
  have h1 : FloatKind.f64.format = Ieee.double := rfl
  have h2 : Ieee.double.signWeight = 9223372036854775808 := by decide
  have h3 : Ieee.double.infRung = 9218868437227405312 := by decide
  have h4 : Ieee.double.binade = 4503599627370496 := by decide
  unfold nanB Ieee.Format.order
  rw [h1]
  unfold Ieee.Format.read
  rw [h2, h3, h4]
  simp only []
  by_cases c1 : b % 9223372036854775808 < 4503599627370496
  · rw [if_pos c1, decide_eq_false (by omega)]
    simp [Ieee.Datum.order]
  rw [if_neg c1]
  by_cases c2 : b % 9223372036854775808 < 9218868437227405312
  · rw [if_pos c2, decide_eq_false (by omega)]
    simp [Ieee.Datum.order]
  rw [if_neg c2]
  by_cases c3 : b % 9223372036854775808 = 9218868437227405312
  · rw [if_pos c3, decide_eq_false (by omega)]
    simp [Ieee.Datum.order]
  · rw [if_neg c3, decide_eq_true (by omega)]
    simp [Ieee.Datum.order]
def mayR (r : Int) : Bool := (decide (0 ≤ r) && decide (r < 55296)) || (decide (57344 ≤ r) && decide (r ≤ 1114111))
def lenR (r : Int) : Nat := bif decide (r < 128) then 1 else bif decide (r < 2048) then 2 else bif decide (r < 65536) then 3 else 4
theorem ref01_May_spec (n : Nat) (r : Int) (hn : 1 ≤ n) : ref01_May n r = some (mayR r) := by
  obtain ⟨n, rfl⟩ : ∃ k, n = k + 1 := ⟨n - 1, by omega⟩
  rw [ref01_May, ref01_May_top]
  unfold mayR
  show (bif decide (0 ≤ r) then _ else _) = _
  cases decide (0 ≤ r) <;> cases decide (r < 55296) <;> cases decide (57344 ≤ r) <;> simp
theorem ref01_one_spec (n : Nat) (r : Int) (hn : 2 ≤ n) : ∃ l : den Lu8, ref01_one n r = some l ∧ l.length = lenR r := by
  obtain ⟨n, rfl⟩ : ∃ k, n = k + 2 := ⟨n - 2, by omega⟩
  rw [ref01_one, ref01_one_top]
  simp only [ref01_six, ref01_six_top, Option.bind_some]
  unfold lenR
  show ∃ l, (bif decide (r < 128) then _ else _) = some l ∧ _
  cases decide (r < 128) with
  | true => exact ⟨_, rfl, rfl⟩
  | false =>
  cases decide (r < 2048) with
  | true => exact ⟨_, rfl, rfl⟩
  | false =>
  cases decide (r < 65536) <;> exact ⟨_, rfl, rfl⟩
theorem next_fin (n N : Nat) (hn : 2 ≤ n) (m : Nat) (l : den Lu8) (k : Nat) (r : Int) : ref01_next_l17 (ref01_May n) (ref01_one n) N (m + 1) l (k : Int) r (k : Int) = some (bif mayR r && decide (lenR r = k) then (r, (k : Int)) else ((0 : Int), (0 : Int))) := by
  rw [ref01_next_l17, ref01_next_s17, decide_eq_false (Int.lt_irrefl _), cond_false, ref01_May_spec n r (by omega)]
  obtain ⟨o, e, hl⟩ := ref01_one_spec n r hn
  simp only [Option.bind_some, e, hl]
  cases mayR r with
  | false => rfl
  | true =>
    by_cases h : lenR r = k
    · have h' : ((lenR r : Nat) : Int) = (k : Int) := by omega
      rw [decide_eq_true h, decide_eq_true h']; rfl
    · have h' : ¬ ((lenR r : Nat) : Int) = (k : Int) := by omega
      rw [decide_eq_false h, decide_eq_false h']; rfl
theorem next_step (n N : Nat) (m : Nat) (l : den Lu8) (k i : Nat) (r : Int) (b : Nat) (hb : (l : List Int).getD i 0 = (b : Int)) (hb2 : b < 256) (hi : i < k) (hk : k ≤ l.length) (hkk : k ≤ 10) (h0 : 0 ≤ r) (h1 : r < 1000000) :
    ref01_next_l17 (ref01_May n) (ref01_one n) N (m + 1) l (k : Int) r (i : Int) = bif cont (b : Int) then ref01_next_l17 (ref01_May n) (ref01_one n) N m l (k : Int) (r * 64 + b - 128) ((i + 1 : Nat) : Int) else some ((0 : Int), (0 : Int)) := by
  rw [ref01_next_l17, ref01_next_s17]
  have e : (l : List Int).getD (Int.toNat (i : Int)) (dflt (.int .u8)) = (b : Int) := hb
  have g1 : (i : Int) < (k : Int) := by omega
  have g2 : (i : Int) < (l.length : Int) := by omega
  have g3 : (0 : Int) ≤ (i : Int) := by omega
  simp only [g1, g2, g3, decide_true, Bool.and_self, cond_true, e]
  unfold cont
  by_cases c1 : (b : Int) < 128
  · rw [decide_eq_true c1, decide_eq_false (by omega : ¬ (128 : Int) ≤ (b : Int))]; rfl
  by_cases c2 : (191 : Int) < (b : Int)
  · rw [decide_eq_false c1, decide_eq_true c2, decide_eq_true (by omega : (128 : Int) ≤ (b : Int)), decide_eq_false (by omega : ¬ (b : Int) ≤ 191)]; rfl
  rw [decide_eq_false c1, decide_eq_false c2, decide_eq_true (by omega : (128 : Int) ≤ (b : Int)), decide_eq_true (by omega : (b : Int) ≤ 191)]
  rw [w32 (n := r * 64) (by omega) (by omega), w32 (n := (b : Int)) (by omega) (by omega), w32 (n := r * 64 + (b : Int)) (by omega) (by omega), w32 (n := r * 64 + (b : Int) - 128) (by omega) (by omega)]
  rw [show IntKind.wrap .i64 ((i : Int) + 1) = ((i + 1 : Nat) : Int) from w64s (by omega)]
  rfl
theorem ref01_next_spec (n : Nat) (hn : 20 ≤ n) (l : den Lu8) (hb : Bytes l) (hl : l ≠ []) : ∃ r : Int, ref01_next n l = some (r, ((vstep l : Nat) : Int)) := by
  obtain ⟨n, rfl⟩ : ∃ k, n = k + 1 := ⟨n - 1, by omega⟩
  cases l with
  | nil => exact absurd rfl hl
  | cons x r =>
    obtain ⟨b, hx, hb2⟩ := hb.getD 0
    obtain rfl : x = (b : Int) := hx
    rw [ref01_next, ref01_next_top]
    have L0 : (0 : Int) < (((b : Int) :: r).length : Int) := by simp only [List.length_cons]; omega
    have E0 : ((b : Int) :: r).getD (Int.toNat (0 : Int)) (dflt (.int .u8)) = (b : Int) := rfl
    simp only [L0, E0, Int.le_refl, decide_true, Bool.and_self, cond_true]
    obtain ⟨b1, e1, hb1⟩ := hb.getD 1
    obtain ⟨b2, e2, hb2'⟩ := hb.getD 2
    obtain ⟨b3, e3, hb3⟩ := hb.getD 3
    have g0 : ((b : Int) :: r).getD 0 0 = (b : Int) := rfl
    have hv : vstep ((b : Int) :: r) = _ := rfl
    conv at hv => rhs; unfold vstep
    rw [g0, e1, e2, e3] at hv
    have hll : ((b : Int) :: r).length = r.length + 1 := rfl
    have wb : IntKind.wrap .i32 (b : Int) = (b : Int) := w32 (by omega) (by omega)
    generalize ((b : Int) :: r) = l at *
    obtain ⟨m, hm⟩ : ∃ m, n = m + 5 := ⟨n - 5, by omega⟩
    by_cases c4 : 240 ≤ b
    · rw [decide_eq_true (by omega : (240 : Int) ≤ (b : Int)), cond_true]
      rw [decide_eq_false (by omega : ¬ (b : Int) < 128), decide_eq_false (by omega : ¬ (b : Int) < 194), decide_eq_false (by omega : ¬ (b : Int) < 224), decide_eq_false (by omega : ¬ (b : Int) < 240), cond_false, cond_false, cond_false, cond_false] at hv
      by_cases k : l.length < 4
      · rw [decide_eq_true (by omega : (l.length : Int) < 4), cond_true]
        refine ⟨0, ?_⟩
        rw [hv, decide_eq_false (by omega : ¬ 4 ≤ l.length)]
        simp only [Bool.false_and, cond_false]
        cases decide ((b : Int) < 245) <;> rfl
      rw [decide_eq_false (by omega : ¬ (l.length : Int) < 4), cond_false, wb, w32 (n := (b : Int) - 240) (by omega) (by omega)]
      rw [decide_eq_true (by omega : 4 ≤ l.length), Bool.true_and] at hv
      rw [hm, show ref01_next_l17 (ref01_May (m + 5)) (ref01_one (m + 5)) (m + 5) (m + 5) l 4 ((b : Int) - 240) 1 = _ from next_step (m + 5) (m + 5) (m + 4) l 4 1 _ b1 e1 hb1 (by omega) (by omega) (by omega) (by omega) (by omega)]
      unfold lo1 hi1 at hv
      rw [decide_eq_false (by omega : ¬ (b : Int) = 224), decide_eq_false (by omega : ¬ (b : Int) = 237), cond_false, cond_false] at hv
      by_cases q1 : cont (b1 : Int) = true
      · have q1' := q1
        simp only [cont, Bool.and_eq_true, decide_eq_true_eq] at q1'
        rw [q1, cond_true, next_step (m + 5) (m + 5) (m + 3) l 4 2 _ b2 e2 hb2' (by omega) (by omega) (by omega) (by omega) (by omega)]
        by_cases q2 : cont (b2 : Int) = true
        · have q2' := q2
          simp only [cont, Bool.and_eq_true, decide_eq_true_eq] at q2'
          rw [q2, cond_true, next_step (m + 5) (m + 5) (m + 2) l 4 3 _ b3 e3 hb3 (by omega) (by omega) (by omega) (by omega) (by omega)]
          by_cases q3 : cont (b3 : Int) = true
          · have q3' := q3
            simp only [cont, Bool.and_eq_true, decide_eq_true_eq] at q3'
            rw [q3, cond_true, next_fin (m + 5) (m + 5) (by omega) (m + 1) l 4]
            rw [q2, q3, Bool.and_true, Bool.and_true] at hv
            rw [hv]
            generalize hr : (((b : Int) - 240) * 64 + b1 - 128) * 64 + b2 - 128 = r2
            have hres : (mayR (r2 * 64 + b3 - 128) && decide (lenR (r2 * 64 + b3 - 128) = 4)) = (decide ((b : Int) < 245) && (decide ((bif decide ((b : Int) = 240) then (144 : Int) else 128) ≤ (b1 : Int)) && decide ((b1 : Int) ≤ (bif decide ((b : Int) = 244) then (143 : Int) else 191)))) := by
              unfold mayR lenR
              simp only [cond_if, decide_eq_true_eq]
              rw [Bool.eq_iff_iff]
              simp only [Bool.and_eq_true, Bool.or_eq_true, decide_eq_true_eq]
              constructor
              · intro h
                split at h <;> split <;> split <;> (try split at h) <;> (try split at h) <;> omega
              · intro h
                split at h <;> split at h <;> split <;> (try split) <;> (try split) <;> omega
            rw [hres]
            cases decide ((b : Int) < 245) with
            | false => exact ⟨0, rfl⟩
            | true =>
              simp only [Bool.true_and, cond_true]
              generalize (decide ((bif decide ((b : Int) = 240) then (144 : Int) else 128) ≤ (b1 : Int)) && decide ((b1 : Int) ≤ (bif decide ((b : Int) = 244) then (143 : Int) else 191))) = z
              cases z
              · exact ⟨0, rfl⟩
              · exact ⟨_, rfl⟩
          · refine ⟨0, ?_⟩
            rw [hv]
            simp only [q3, Bool.and_false, cond_false]
            cases decide ((b : Int) < 245) <;> rfl
        · refine ⟨0, ?_⟩
          rw [hv]
          simp only [q2, Bool.and_false, Bool.false_and, cond_false]
          cases decide ((b : Int) < 245) <;> rfl
      · refine ⟨0, ?_⟩
        have q1' := q1
        simp only [cont, Bool.and_eq_true, decide_eq_true_eq, not_and] at q1'
        have : (decide ((bif decide ((b : Int) = 240) then (144 : Int) else 128) ≤ (b1 : Int)) && decide ((b1 : Int) ≤ (bif decide ((b : Int) = 244) then (143 : Int) else 191))) = false := by
          rw [Bool.eq_false_iff]
          simp only [cond_if, ne_eq, Bool.and_eq_true, decide_eq_true_eq, not_and]
          split <;> split <;> omega
        rw [hv, this]
        simp only [q1, Bool.false_and, cond_false]
        cases decide ((b : Int) < 245) <;> rfl
    rw [decide_eq_false (by omega : ¬ (240 : Int) ≤ (b : Int)), cond_false]
    by_cases c3 : 224 ≤ b
    · rw [decide_eq_true (by omega : (224 : Int) ≤ (b : Int)), cond_true]
      rw [decide_eq_false (by omega : ¬ (b : Int) < 128), decide_eq_false (by omega : ¬ (b : Int) < 194), decide_eq_false (by omega : ¬ (b : Int) < 224), decide_eq_true (by omega : (b : Int) < 240), cond_false, cond_false, cond_false, cond_true] at hv
      by_cases k : l.length < 3
      · rw [decide_eq_true (by omega : (l.length : Int) < 3), cond_true]
        refine ⟨0, ?_⟩
        rw [hv, decide_eq_false (by omega : ¬ 3 ≤ l.length)]
        rfl
      rw [decide_eq_false (by omega : ¬ (l.length : Int) < 3), cond_false, wb, w32 (n := (b : Int) - 224) (by omega) (by omega)]
      rw [decide_eq_true (by omega : 3 ≤ l.length), Bool.true_and] at hv
      rw [hm, show ref01_next_l17 (ref01_May (m + 5)) (ref01_one (m + 5)) (m + 5) (m + 5) l 3 ((b : Int) - 224) 1 = _ from next_step (m + 5) (m + 5) (m + 4) l 3 1 _ b1 e1 hb1 (by omega) (by omega) (by omega) (by omega) (by omega)]
      unfold lo1 hi1 at hv
      rw [decide_eq_false (by omega : ¬ (b : Int) = 240), decide_eq_false (by omega : ¬ (b : Int) = 244), cond_false, cond_false] at hv
      by_cases q1 : cont (b1 : Int) = true
      · have q1' := q1
        simp only [cont, Bool.and_eq_true, decide_eq_true_eq] at q1'
        rw [q1, cond_true, next_step (m + 5) (m + 5) (m + 3) l 3 2 _ b2 e2 hb2' (by omega) (by omega) (by omega) (by omega) (by omega)]
        by_cases q2 : cont (b2 : Int) = true
        · have q2' := q2
          simp only [cont, Bool.and_eq_true, decide_eq_true_eq] at q2'
          rw [q2, cond_true, next_fin (m + 5) (m + 5) (by omega) (m + 2) l 3]
          rw [q2, Bool.and_true] at hv
          rw [hv]
          have hres : (mayR ((((b : Int) - 224) * 64 + b1 - 128) * 64 + b2 - 128) && decide (lenR ((((b : Int) - 224) * 64 + b1 - 128) * 64 + b2 - 128) = 3)) = (decide ((bif decide ((b : Int) = 224) then (160 : Int) else 128) ≤ (b1 : Int)) && decide ((b1 : Int) ≤ (bif decide ((b : Int) = 237) then (159 : Int) else 191))) := by
            unfold mayR lenR
            simp only [cond_if, decide_eq_true_eq]
            rw [Bool.eq_iff_iff]
            simp only [Bool.and_eq_true, Bool.or_eq_true, decide_eq_true_eq]
            constructor
            · intro h
              split at h <;> split <;> split <;> (try split at h) <;> (try split at h) <;> omega
            · intro h
              split at h <;> split at h <;> split <;> (try split) <;> (try split) <;> omega
          rw [hres]
          generalize (decide ((bif decide ((b : Int) = 224) then (160 : Int) else 128) ≤ (b1 : Int)) && decide ((b1 : Int) ≤ (bif decide ((b : Int) = 237) then (159 : Int) else 191))) = z
          cases z
          · exact ⟨0, rfl⟩
          · exact ⟨_, rfl⟩
        · refine ⟨0, ?_⟩
          rw [hv]
          simp only [q2, Bool.and_false, cond_false]
          rfl
      · refine ⟨0, ?_⟩
        have q1' := q1
        simp only [cont, Bool.and_eq_true, decide_eq_true_eq, not_and] at q1'
        have : (decide ((bif decide ((b : Int) = 224) then (160 : Int) else 128) ≤ (b1 : Int)) && decide ((b1 : Int) ≤ (bif decide ((b : Int) = 237) then (159 : Int) else 191))) = false := by
          rw [Bool.eq_false_iff]
          simp only [cond_if, ne_eq, Bool.and_eq_true, decide_eq_true_eq, not_and]
          split <;> split <;> omega
        rw [hv, this]
        simp only [q1, Bool.false_and, cond_false]
        rfl
    rw [decide_eq_false (by omega : ¬ (224 : Int) ≤ (b : Int)), cond_false]
    by_cases c2 : 192 ≤ b
    · rw [decide_eq_true (by omega : (192 : Int) ≤ (b : Int)), cond_true]
      rw [decide_eq_false (by omega : ¬ (b : Int) < 128), decide_eq_true (by omega : (b : Int) < 224), cond_false, cond_true] at hv
      by_cases k : l.length < 2
      · rw [decide_eq_true (by omega : (l.length : Int) < 2), cond_true]
        refine ⟨0, ?_⟩
        rw [hv, decide_eq_false (by omega : ¬ 2 ≤ l.length)]
        simp only [Bool.false_and, cond_false]
        cases decide ((b : Int) < 194) <;> rfl
      rw [decide_eq_false (by omega : ¬ (l.length : Int) < 2), cond_false, wb, w32 (n := (b : Int) - 192) (by omega) (by omega)]
      rw [decide_eq_true (by omega : 2 ≤ l.length), Bool.true_and] at hv
      rw [hm, show ref01_next_l17 (ref01_May (m + 5)) (ref01_one (m + 5)) (m + 5) (m + 5) l 2 ((b : Int) - 192) 1 = _ from next_step (m + 5) (m + 5) (m + 4) l 2 1 _ b1 e1 hb1 (by omega) (by omega) (by omega) (by omega) (by omega)]
      unfold lo1 hi1 at hv
      rw [decide_eq_false (by omega : ¬ (b : Int) = 240), decide_eq_false (by omega : ¬ (b : Int) = 244), decide_eq_false (by omega : ¬ (b : Int) = 224), decide_eq_false (by omega : ¬ (b : Int) = 237), cond_false, cond_false, cond_false, cond_false] at hv
      have hc : (decide ((128 : Int) ≤ (b1 : Int)) && decide ((b1 : Int) ≤ 191)) = cont (b1 : Int) := rfl
      rw [hc] at hv
      by_cases q1 : cont (b1 : Int) = true
      · have q1' := q1
        simp only [cont, Bool.and_eq_true, decide_eq_true_eq] at q1'
        rw [q1, cond_true, next_fin (m + 5) (m + 5) (by omega) (m + 3) l 2]
        rw [q1, cond_true] at hv
        rw [hv]
        have hres : (mayR (((b : Int) - 192) * 64 + b1 - 128) && decide (lenR (((b : Int) - 192) * 64 + b1 - 128) = 2)) = !decide ((b : Int) < 194) := by
          unfold mayR lenR
          simp only [cond_if, decide_eq_true_eq]
          rw [Bool.eq_iff_iff]
          simp only [Bool.and_eq_true, Bool.or_eq_true, decide_eq_true_eq, Bool.not_eq_true', decide_eq_false_iff_not]
          constructor
          · intro h
            split at h <;> (try split at h) <;> (try split at h) <;> omega
          · intro h
            split <;> (try split) <;> (try split) <;> omega
        rw [hres]
        cases decide ((b : Int) < 194)
        · exact ⟨_, rfl⟩
        · exact ⟨0, rfl⟩
      · refine ⟨0, ?_⟩
        rw [hv]
        simp only [q1, cond_false]
        cases decide ((b : Int) < 194) <;> rfl
    rw [decide_eq_false (by omega : ¬ (192 : Int) ≤ (b : Int)), cond_false]
    by_cases c1 : 128 ≤ b
    · rw [decide_eq_true (by omega : (128 : Int) ≤ (b : Int)), cond_true]
      rw [decide_eq_false (by omega : ¬ (b : Int) < 128), decide_eq_true (by omega : (b : Int) < 194)] at hv
      exact ⟨0, by rw [hv]; rfl⟩
    · rw [decide_eq_false (by omega : ¬ (128 : Int) ≤ (b : Int)), cond_false, wb, decide_eq_false (by omega : ¬ (l.length : Int) < 1), cond_false]
      rw [decide_eq_true (by omega : (b : Int) < 128), cond_true] at hv
      rw [hm, show ref01_next_l17 (ref01_May (m + 5)) (ref01_one (m + 5)) (m + 5) (m + 5) l 1 (b : Int) 1 = _ from next_fin (m + 5) (m + 5) (by omega) (m + 4) l 1 (b : Int), hv]
      have hres : (mayR (b : Int) && decide (lenR (b : Int) = 1)) = true := by
        unfold mayR lenR
        rw [decide_eq_true (by omega : (b : Int) < 128), decide_eq_true (by omega : 0 ≤ (b : Int)), decide_eq_true (by omega : (b : Int) < 55296)]; rfl
      rw [hres]
      exact ⟨_, rfl⟩
theorem vstep_le {l : List Int} (h : l ≠ []) : vstep l ≤ l.length := by
  have hl : 1 ≤ l.length := by cases l with | nil => exact absurd rfl h | cons x r => simp
  unfold vstep
  simp only [cond_if, Bool.and_eq_true, decide_eq_true_eq]
  repeat' split
  all_goals omega
theorem ref01_Read_l3_spec (n N : Nat) (hn : 20 ≤ n) (bt : den Lu8) (hb : Bytes bt) (hl : bt.length ≤ 4194304) : ∀ (m i : Nat) (lo : den Li32), bt.length - i < m → i ≤ bt.length → lo.length ≤ i →
    ∃ lo' : den Li32, ref01_Read_l3 (ref01_next n) N m bt (i : Int) lo = some (lo', bif valid ((bt : List Int).drop i) then (0 : Int) else 3)
  | 0, _, _, h, _, _ => by omega
  | m + 1, i, lo, h, hi, hlo => by
    rw [ref01_Read_l3, ref01_Read_s3]
    by_cases hp : i < bt.length
    · have hne : (bt : List Int).drop i ≠ [] := by
        intro e
        have := congrArg List.length e
        simp only [List.length_drop, List.length_nil] at this
        omega
      have g1 : (i : Int) < (bt.length : Int) := by omega
      have g2 : (i : Int) ≤ (bt.length : Int) := by omega
      have g3 : (0 : Int) ≤ (i : Int) := by omega
      obtain ⟨r, e⟩ := ref01_next_spec n hn (bt.drop i) (hb.drop i) hne
      have e' : ref01_next n (bt.drop (Int.toNat (i : Int))) = some (r, ((vstep ((bt : List Int).drop i) : Nat) : Int)) := e
      simp only [g1, g2, g3, Int.le_refl, decide_true, Bool.and_self, cond_true, e', Option.bind_some]
      cases hv : vstep ((bt : List Int).drop i) with
      | zero =>
        rw [valid_bad hne hv]
        exact ⟨[], rfl⟩
      | succ k =>
        have hk := vstep_le hne
        rw [hv, List.length_drop] at hk
        have h0 : ¬ ((k + 1 : Nat) : Int) = 0 := by omega
        have hbd : decide ((lo.length + ([r] : List (den (.int .i32))).length) * 4 ≤ 140737488355328) = true := decide_eq_true (by simp only [List.length_cons, List.length_nil]; omega)
        rw [decide_eq_false h0, cond_false, hbd, cond_true]
        have hw : IntKind.wrap .i64 ((i : Int) + ((k + 1 : Nat) : Int)) = ((i + (k + 1) : Nat) : Int) := w64 (by omega) (by omega)
        rw [hw, valid_ok hne hv, List.drop_drop]
        exact ref01_Read_l3_spec n N hn bt hb hl m _ _ (by omega) (by omega) (by simp only [List.length_append, List.length_cons, List.length_nil]; omega)
    · have g1 : ¬ (i : Int) < (bt.length : Int) := by omega
      have : (bt : List Int).drop i = [] := List.drop_eq_nil_of_le (by omega)
      rw [decide_eq_false g1, cond_false, this]
      exact ⟨lo, rfl⟩
theorem ref01_Read_spec (n : Nat) (bt : den Lu8) (hb : Bytes bt) (hl : bt.length ≤ 4194304) (hn : bt.length + 30 ≤ n) : ∃ lo' : den Li32, ref01_Read n bt = some (lo', bif valid bt then (0 : Int) else 3) := by
  obtain ⟨n, rfl⟩ : ∃ k, n = k + 1 := ⟨n - 1, by omega⟩
  rw [ref01_Read, ref01_Read_top]
  exact ref01_Read_l3_spec n n (by omega) bt hb hl n 0 [] (by omega) (by omega) (by simp)
theorem ref03_none_spec (n : Nat) (f : Int) (h0 : 0 ≤ f) (hn : 1 ≤ n) : ref03_none n f = some (nanB f.toNat) := by
  obtain ⟨n, rfl⟩ : ∃ k, n = k + 1 := ⟨n - 1, by omega⟩
  obtain ⟨b, rfl⟩ : ∃ b : Nat, f = (b : Int) := ⟨f.toNat, by omega⟩
  rw [ref03_none, ref03_none_top]
  show some (decide ((9218868437227405312 : Int) < Int.tmod (b : Int) 9223372036854775808)) = some (nanB b)
  rw [nanB_iff, show Int.tmod (b : Int) 9223372036854775808 = ((b % 9223372036854775808 : Nat) : Int) from rfl]
  congr 1
  rw [Bool.eq_iff_iff, decide_eq_true_eq, decide_eq_true_eq]
  omega
#print axioms ref01_Read_spec
end Go.Proofs.YtecangnmmbcbkaaDoor.Ab
