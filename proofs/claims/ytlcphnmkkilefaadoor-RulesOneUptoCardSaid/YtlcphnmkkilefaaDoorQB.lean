/- utf8.Valid tells whether bytes are UTF-8. -/
import Derived.Test.YtlcphnmkkilefaaDoorQA
import Derived.KernelRfl
set_option linter.unusedVariables false
set_option linter.unusedSimpArgs false
set_option maxRecDepth 100000
namespace Go.Proofs.YtlcphnmkkilefaaDoor.Ab
open Go
theorem drop_getD' (l : List Int) (k i : Nat) : (l.drop k).getD i 0 = l.getD (k + i) 0 := by
  simp [List.getD_eq_getElem?_getD, List.getElem?_drop]
theorem utf8_Valid_l10_spec (n : Nat) (hn : 1 ≤ n) (N L : Nat) (LS2 : den Lu8 → Option (denR (.one .bool))) (hLS : ∀ l : den Lu8, Bytes l → l.length < L → LS2 l = some (valid l)) :
    ∀ (m : Nat) (l : den Lu8), l.length < m → l.length < L → Bytes l → utf8_Valid_l10 (utf8_word_ n) N LS2 m l = some (valid l)
  | 0, _, h, _, _ => by omega
  | m + 1, l, hm, hL, hb => by
    rw [utf8_Valid_l10, utf8_Valid_s10]
    by_cases h : 32 < l.length
    · obtain ⟨w4, e4, g4, k4⟩ := word_spec n l (by omega) hb hn
      obtain ⟨w5, e5, g5, k5⟩ := word_spec n (l.drop 8) (by rw [List.length_drop]; omega) (hb.drop 8) hn
      obtain ⟨w6, e6, g6, k6⟩ := word_spec n (l.drop 16) (by rw [List.length_drop]; omega) (hb.drop 16) hn
      obtain ⟨w7, e7, g7, k7⟩ := word_spec n (l.drop 24) (by rw [List.length_drop]; omega) (hb.drop 24) hn
      have h' : (32 : Int) < (l.length : Int) := by omega
      have q8 : (8 : Int) ≤ (l.length : Int) := by omega
      have q16 : (16 : Int) ≤ (l.length : Int) := by omega
      have q24 : (24 : Int) ≤ (l.length : Int) := by omega
      have q32 : (32 : Int) ≤ (l.length : Int) := by omega
      have d8 : Int.toNat (8 : Int) = 8 := rfl
      have d16 : Int.toNat (16 : Int) = 16 := rfl
      have d24 : Int.toNat (24 : Int) = 24 := rfl
      have d32 : Int.toNat (32 : Int) = 32 := rfl
      have z8 : (0 : Int) ≤ 8 := by decide
      have z16 : (0 : Int) ≤ 16 := by decide
      have z24 : (0 : Int) ≤ 24 := by decide
      have z32 : (0 : Int) ≤ 32 := by decide
      simp only [h', q8, q16, q24, q32, d8, d16, d24, d32, z8, z16, z24, z32, Int.le_refl, decide_true, Bool.and_self, cond_true, e4, e5, e6, e7, Option.bind_some]
      rw [orI_nat g4 g5, orI_nat g6 g7, orI_nat (Nat.or_lt_two_pow g4 g5) (Nat.or_lt_two_pow g6 g7)]
      have hM : (9259542123273814144 : Int) = ((MM : Nat) : Int) := rfl
      rw [hM, andI_nat (Nat.or_lt_two_pow (Nat.or_lt_two_pow g4 g5) (Nat.or_lt_two_pow g6 g7)) (by decide)]
      by_cases hz : ((w4 ||| w5 ||| (w6 ||| w7)) &&& MM) = 0
      · rw [hz]
        simp only [Int.natCast_zero, decide_true, cond_true]
        simp only [and_or] at hz
        obtain ⟨⟨a4, a5⟩, a6, a7⟩ := hz
        rw [valid_ascii 32 l (by omega)]
        · exact utf8_Valid_l10_spec n hn N L LS2 hLS m _ (by rw [List.length_drop]; omega) (by rw [List.length_drop]; omega) (hb.drop 32)
        · intro i hi
          rcases Nat.lt_or_ge i 8 with c | c
          · exact k4 a4 i c
          rcases Nat.lt_or_ge i 16 with c2 | c2
          · have := k5 a5 (i - 8) (by omega)
            rw [drop_getD', show 8 + (i - 8) = i by omega] at this; exact this
          rcases Nat.lt_or_ge i 24 with c3 | c3
          · have := k6 a6 (i - 16) (by omega)
            rw [drop_getD', show 16 + (i - 16) = i by omega] at this; exact this
          · have := k7 a7 (i - 24) (by omega)
            rw [drop_getD', show 24 + (i - 24) = i by omega] at this; exact this
      · have hz' : ¬ (((w4 ||| w5 ||| (w6 ||| w7)) &&& MM : Nat) : Int) = 0 := by omega
        simp only [hz', decide_false, cond_false]
        exact hLS l hb hL
    · have h' : ¬ (32 : Int) < (l.length : Int) := by omega
      simp only [h', decide_false, cond_false]
      exact hLS l hb hL
def sz (b : Nat) : Nat := bif decide (b < 194) then 1 else bif decide (b < 224) then 2 else bif decide (b < 240) then 3 else bif decide (b < 245) then 4 else 1
def fz (b : Nat) : Int := firstL.getD b (dflt (.int .u8))
def chk (b : Nat) : Bool := decide (b < 128) || (decide (0 ≤ Int.fdiv (fz b) (2 ^ (min (Int.toNat (4 : Int)) (IntKind.bits .u8)))) && decide (Int.fdiv (fz b) (2 ^ (min (Int.toNat (4 : Int)) (IntKind.bits .u8))) < (accL.length : Int)) &&
  decide (IntKind.wrap .i64 (andI .u8 (fz b) 7) = (sz b : Int)) && (decide (sz b = 1) ||
    (decide ((accL.getD (Int.toNat (Int.fdiv (fz b) (2 ^ (min (Int.toNat (4 : Int)) (IntKind.bits .u8))))) (dflt AccT)).1 = lo1 (b : Int)) && decide ((accL.getD (Int.toNat (Int.fdiv (fz b) (2 ^ (min (Int.toNat (4 : Int)) (IntKind.bits .u8))))) (dflt AccT)).2.1 = hi1 (b : Int)))))
theorem chk_all : (List.range 256).all chk = true := by kernel_rfl
theorem tab {b : Nat} (h1 : 128 ≤ b) (h2 : b < 256) : (decide (0 ≤ Int.fdiv (fz b) (2 ^ (min (Int.toNat (4 : Int)) (IntKind.bits .u8)))) && decide (Int.fdiv (fz b) (2 ^ (min (Int.toNat (4 : Int)) (IntKind.bits .u8))) < (accL.length : Int))) = true ∧
    IntKind.wrap .i64 (andI .u8 (fz b) 7) = (sz b : Int) ∧ (sz b ≠ 1 → (accL.getD (Int.toNat (Int.fdiv (fz b) (2 ^ (min (Int.toNat (4 : Int)) (IntKind.bits .u8))))) (dflt AccT)).1 = lo1 (b : Int) ∧ (accL.getD (Int.toNat (Int.fdiv (fz b) (2 ^ (min (Int.toNat (4 : Int)) (IntKind.bits .u8))))) (dflt AccT)).2.1 = hi1 (b : Int)) := by
  have h := List.all_eq_true.1 chk_all b (List.mem_range.2 h2)
  unfold chk at h
  rw [decide_eq_false (by omega : ¬ b < 128), Bool.false_or, Bool.and_eq_true, Bool.and_eq_true] at h
  obtain ⟨⟨a, b'⟩, c⟩ := h
  refine ⟨a, of_decide_eq_true b', fun hs => ?_⟩
  rw [decide_eq_false hs, Bool.false_or, Bool.and_eq_true] at c
  exact ⟨of_decide_eq_true c.1, of_decide_eq_true c.2⟩
end Go.Proofs.YtlcphnmkkilefaaDoor.Ab
