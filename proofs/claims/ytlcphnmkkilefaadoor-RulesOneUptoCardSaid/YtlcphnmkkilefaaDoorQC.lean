/- utf8.Valid tells whether bytes are UTF-8: its loop. -/
import Derived.Test.YtlcphnmkkilefaaDoorQB
set_option linter.unusedVariables false
set_option linter.unusedSimpArgs false
set_option maxRecDepth 100000
namespace Go.Proofs.YtlcphnmkkilefaaDoor.Ab
open Go
theorem toN1 : Int.toNat (1 : Int) = 1 := rfl
theorem toN2 : Int.toNat (2 : Int) = 2 := rfl
theorem toN3 : Int.toNat (3 : Int) = 3 := rfl
theorem toN4 : Int.toNat (4 : Int) = 4 := rfl
theorem toN8 : Int.toNat (8 : Int) = 8 := rfl
theorem toN16 : Int.toNat (16 : Int) = 16 := rfl
theorem drop1 {x : Int} {r : List Int} : (x :: r).drop 1 = r := rfl
set_option maxHeartbeats 1600000 in
theorem utf8_Valid_l2_spec (n : Nat) (hn : 1 ≤ n) (N : Nat) : ∀ (m : Nat) (l : den Lu8), Bytes l → l.length < m → l.length < N → utf8_Valid_l2 (utf8_word_ n) N m l = some (valid l)
  | 0, _, _, h, _ => by omega
  | m + 1, [], _, _, _ => rfl
  | m + 1, x :: r, hb, hm, hN => by
    have hm : (x :: r).length < m + 1 := hm
    have hN : (x :: r).length < N := hN
    have hb : Bytes (x :: r) := hb
    have IH : ∀ l : List Int, Bytes l → l.length < m → l.length < N → utf8_Valid_l2 (utf8_word_ n) N m l = some (valid l) := utf8_Valid_l2_spec n hn N m
    obtain ⟨b, hx, hb2⟩ := hb.getD 0
    obtain rfl : x = (b : Int) := hx
    have L0 : (0 : Int) < (((b : Int) :: r).length : Int) := by simp only [List.length_cons]; omega
    have E0 : ((b : Int) :: r).getD (Int.toNat (0 : Int)) (dflt (.int .u8)) = (b : Int) := rfl
    have hr : Bytes r := hb.drop 1
    simp only [List.length_cons] at hm hN
    rw [utf8_Valid_l2, utf8_Valid_s2]
    simp only [L0, E0, Int.le_refl, decide_true, Bool.and_self, cond_true]
    by_cases ha : b < 128
    · have ha' : (b : Int) < 128 := by omega
      have q1 : (1 : Int) ≤ (((b : Int) :: r).length : Int) := by simp only [List.length_cons]; omega
      have z1 : (0 : Int) ≤ 1 := by decide
      have z8 : (0 : Int) ≤ 8 := by decide
      have z16 : (0 : Int) ≤ 16 := by decide
      simp only [ha', q1, z1, Int.le_refl, decide_true, Bool.and_self, cond_true, toN1, drop1]
      rw [valid_ascii1 ha']
      by_cases h8 : 8 < r.length
      · have h8' : (8 : Int) < (r.length : Int) := by omega
        have q8 : (8 : Int) ≤ (r.length : Int) := by omega
        obtain ⟨w1, e1, g1, k1⟩ := word_spec n r (by omega) hr hn
        have hM : (9259542123273814144 : Int) = ((MM : Nat) : Int) := rfl
        simp only [h8', decide_true, cond_true, e1, Option.bind_some]
        rw [hM, andI_nat g1 (by decide)]
        by_cases hz : w1 &&& MM = 0
        · rw [hz]
          have hl8 : (r.drop 8).length = r.length - 8 := List.length_drop
          simp only [Int.natCast_zero, decide_true, cond_true, q8, z8, Int.le_refl, Bool.and_self, toN8]
          rw [valid_ascii 8 r (by omega) (k1 hz)]
          by_cases h16 : 16 < (r.drop 8).length
          · have h16' : (16 : Int) < ((r.drop 8).length : Int) := by omega
            have q8b : (8 : Int) ≤ ((r.drop 8).length : Int) := by omega
            have q16 : (16 : Int) ≤ ((r.drop 8).length : Int) := by omega
            obtain ⟨w2, e2, g2, k2⟩ := word_spec n (r.drop 8) (by omega) (hr.drop 8) hn
            obtain ⟨w3, e3, g3, k3⟩ := word_spec n ((r.drop 8).drop 8) (by rw [List.length_drop]; omega) ((hr.drop 8).drop 8) hn
            simp only [h16', q8b, q16, z8, z16, toN8, toN16, Int.le_refl, decide_true, Bool.and_self, cond_true, e2, e3, Option.bind_some]
            rw [orI_nat g2 g3, andI_nat (Nat.or_lt_two_pow g2 g3) (by decide)]
            by_cases hz2 : (w2 ||| w3) &&& MM = 0
            · rw [hz2]
              simp only [Int.natCast_zero, decide_true, cond_true]
              obtain ⟨a2, a3⟩ := and_or.1 hz2
              rw [valid_ascii 16 (r.drop 8) (by omega) fun i hi => by
                rcases Nat.lt_or_ge i 8 with c | c
                · exact k2 a2 i c
                · have := k3 a3 (i - 8) (by omega)
                  rw [drop_getD', show 8 + (i - 8) = i by omega] at this; exact this]
              have hl : ((r.drop 8).drop 16).length < m := by simp only [List.length_drop]; omega
              have hl2 : ((r.drop 8).drop 16).length < N := by simp only [List.length_drop]; omega
              exact utf8_Valid_l10_spec n hn N (min m N) _ (fun l hbl hl => IH l hbl (by omega) (by omega)) N _ hl2 (by omega) ((hr.drop 8).drop 16)
            · have hz2' : ¬ (((w2 ||| w3) &&& MM : Nat) : Int) = 0 := by omega
              simp only [hz2', decide_false, cond_false]
              exact IH _ (hr.drop 8) (by omega) (by omega)
          · have h16' : ¬ (16 : Int) < ((r.drop 8).length : Int) := by omega
            simp only [h16', decide_false, cond_false]
            exact IH _ (hr.drop 8) (by omega) (by omega)
        · have hz' : ¬ ((w1 &&& MM : Nat) : Int) = 0 := by omega
          simp only [hz', decide_false, cond_false]
          exact IH _ hr (by omega) (by omega)
      · have h8' : ¬ (8 : Int) < (r.length : Int) := by omega
        simp only [h8', decide_false, cond_false]
        exact IH _ hr (by omega) (by omega)
    · have ha' : ¬ (b : Int) < 128 := by omega
      obtain ⟨c1, c2, c3⟩ := tab (b := b) (by omega) hb2
      have hfl : (decide (0 ≤ (b : Int)) && decide ((b : Int) < (firstL.length : Int))) = true := by
        have : (firstL.length : Int) = 256 := rfl
        rw [this, decide_eq_true (by omega), decide_eq_true (by omega)]; rfl
      have ef : firstL.getD (Int.toNat (b : Int)) (dflt (.int .u8)) = fz b := rfl
      rw [hfl]
      simp only [ha', decide_false, cond_false, cond_true, ef, c1, c2]
      have hne : ((b : Int) :: r) ≠ [] := List.cons_ne_nil _ _
      obtain ⟨b1, e1, hb1⟩ := hb.getD 1
      obtain ⟨b2, e2, hb2'⟩ := hb.getD 2
      obtain ⟨b3, e3, hb3⟩ := hb.getD 3
      have g0 : ((b : Int) :: r).getD 0 0 = (b : Int) := rfl
      have E1 : ((b : Int) :: r).getD 1 (dflt (.int .u8)) = (b1 : Int) := e1
      have E2 : ((b : Int) :: r).getD 2 (dflt (.int .u8)) = (b2 : Int) := e2
      have E3 : ((b : Int) :: r).getD 3 (dflt (.int .u8)) = (b3 : Int) := e3
      have hv : vstep ((b : Int) :: r) = _ := rfl
      conv at hv => rhs; unfold vstep
      rw [g0, e1, e2, e3, decide_eq_false ha', cond_false] at hv
      generalize hl : ((b : Int) :: r) = l at *
      have hll : l.length = r.length + 1 := by rw [← hl]; rfl
      have z0 : (0 : Int) ≤ 1 := by decide
      have z2 : (0 : Int) ≤ 2 := by decide
      have z3 : (0 : Int) ≤ 3 := by decide
      have z4 : (0 : Int) ≤ 4 := by decide
      by_cases d1 : b < 194
      · have : sz b = 1 := by simp [sz, d1]
        rw [this, valid_bad hne (by rw [hv, decide_eq_true (by omega : (b : Int) < 194)]; rfl)]
        rfl
      by_cases d5 : 245 ≤ b
      · have : sz b = 1 := by simp [sz, d1, show ¬ b < 224 by omega, show ¬ b < 240 by omega, show ¬ b < 245 by omega]
        rw [this, valid_bad hne (by rw [hv, decide_eq_false (by omega : ¬ (b : Int) < 194), decide_eq_false (by omega : ¬ (b : Int) < 224), decide_eq_false (by omega : ¬ (b : Int) < 240), decide_eq_false (by omega : ¬ (b : Int) < 245)]; rfl)]
        rfl
      rw [decide_eq_false (by omega : ¬ (b : Int) < 194), cond_false] at hv
      by_cases d2 : b < 224
      · have hs : sz b = 2 := by simp [sz, d1, d2]
        obtain ⟨f1, f2⟩ := c3 (by omega)
        rw [decide_eq_true (by omega : (b : Int) < 224), cond_true] at hv
        rw [hs, f1, f2]
        by_cases k1 : l.length < 2
        · have k1' : (l.length : Int) < 2 := by omega
          rw [valid_bad hne (by rw [hv, decide_eq_false (by omega : ¬ 2 ≤ l.length)]; rfl)]
          simp [k1']
        have k1' : ¬ (l.length : Int) < 2 := by omega
        have i1 : (1 : Int) < (l.length : Int) := by omega
        have i2 : (2 : Int) ≤ (l.length : Int) := by omega
        rw [decide_eq_true (by omega : 2 ≤ l.length), Bool.true_and] at hv
        simp only [show ((2 : Nat) : Int) = 2 from rfl, k1', i1, i2, z0, z2, Int.le_refl, decide_true, decide_false, Bool.and_self, cond_true, cond_false, toN1, toN2, E1]
        by_cases p1 : (b1 : Int) < lo1 (b : Int)
        · rw [valid_bad hne (by rw [hv, decide_eq_false (by omega : ¬ lo1 (b : Int) ≤ (b1 : Int))]; rfl)]
          simp [p1]
        by_cases p2 : hi1 (b : Int) < (b1 : Int)
        · rw [valid_bad hne (by rw [hv, decide_eq_false (by omega : ¬ (b1 : Int) ≤ hi1 (b : Int)), Bool.and_false]; rfl)]
          simp [p1, p2]
        rw [decide_eq_true (by omega : lo1 (b : Int) ≤ (b1 : Int)), decide_eq_true (by omega : (b1 : Int) ≤ hi1 (b : Int))] at hv
        rw [valid_ok hne hv]
        simp only [p1, p2, decide_false, cond_false]
        exact IH _ (hb.drop 2) (by rw [List.length_drop]; omega) (by rw [List.length_drop]; omega)
      rw [decide_eq_false (by omega : ¬ (b : Int) < 224), cond_false] at hv
      by_cases d3 : b < 240
      · have hs : sz b = 3 := by simp [sz, d1, d2, d3]
        obtain ⟨f1, f2⟩ := c3 (by omega)
        rw [decide_eq_true (by omega : (b : Int) < 240), cond_true] at hv
        rw [hs, f1, f2]
        by_cases k1 : l.length < 3
        · have k1' : (l.length : Int) < 3 := by omega
          rw [valid_bad hne (by rw [hv, decide_eq_false (by omega : ¬ 3 ≤ l.length)]; rfl)]
          simp [k1']
        have k1' : ¬ (l.length : Int) < 3 := by omega
        have i1 : (1 : Int) < (l.length : Int) := by omega
        have i2 : (2 : Int) < (l.length : Int) := by omega
        have i3 : (3 : Int) ≤ (l.length : Int) := by omega
        have n32 : ¬ (3 : Int) = 2 := by decide
        rw [decide_eq_true (by omega : 3 ≤ l.length), Bool.true_and] at hv
        simp only [show ((3 : Nat) : Int) = 3 from rfl, n32, k1', i1, i2, i3, z0, z2, z3, Int.le_refl, decide_true, decide_false, Bool.and_self, cond_true, cond_false, toN1, toN2, toN3, E1, E2]
        by_cases p1 : (b1 : Int) < lo1 (b : Int)
        · rw [valid_bad hne (by rw [hv, decide_eq_false (by omega : ¬ lo1 (b : Int) ≤ (b1 : Int))]; rfl)]
          simp [p1]
        by_cases p2 : hi1 (b : Int) < (b1 : Int)
        · rw [valid_bad hne (by rw [hv, decide_eq_false (by omega : ¬ (b1 : Int) ≤ hi1 (b : Int)), Bool.and_false]; rfl)]
          simp [p1, p2]
        rw [decide_eq_true (by omega : lo1 (b : Int) ≤ (b1 : Int)), decide_eq_true (by omega : (b1 : Int) ≤ hi1 (b : Int)), Bool.true_and, Bool.true_and] at hv
        by_cases p3 : (b2 : Int) < 128
        · rw [valid_bad hne (by rw [hv, cont, decide_eq_false (by omega : ¬ (128 : Int) ≤ (b2 : Int))]; rfl)]
          simp [p1, p2, p3]
        by_cases p4 : (191 : Int) < (b2 : Int)
        · rw [valid_bad hne (by rw [hv, cont, decide_eq_false (by omega : ¬ (b2 : Int) ≤ 191), Bool.and_false]; rfl)]
          simp [p1, p2, p3, p4]
        rw [cont, decide_eq_true (by omega : (128 : Int) ≤ (b2 : Int)), decide_eq_true (by omega : (b2 : Int) ≤ 191)] at hv
        rw [valid_ok hne hv]
        simp only [p1, p2, p3, p4, decide_false, cond_false]
        exact IH _ (hb.drop 3) (by rw [List.length_drop]; omega) (by rw [List.length_drop]; omega)
      · have hs : sz b = 4 := by simp [sz, d1, d2, d3, show b < 245 by omega]
        obtain ⟨f1, f2⟩ := c3 (by omega)
        rw [decide_eq_false (by omega : ¬ (b : Int) < 240), cond_false, decide_eq_true (by omega : (b : Int) < 245), cond_true] at hv
        rw [hs, f1, f2]
        by_cases k1 : l.length < 4
        · have k1' : (l.length : Int) < 4 := by omega
          rw [valid_bad hne (by rw [hv, decide_eq_false (by omega : ¬ 4 ≤ l.length)]; rfl)]
          simp [k1']
        have k1' : ¬ (l.length : Int) < 4 := by omega
        have i1 : (1 : Int) < (l.length : Int) := by omega
        have i2 : (2 : Int) < (l.length : Int) := by omega
        have i3 : (3 : Int) < (l.length : Int) := by omega
        have i4 : (4 : Int) ≤ (l.length : Int) := by omega
        have n42 : ¬ (4 : Int) = 2 := by decide
        have n43 : ¬ (4 : Int) = 3 := by decide
        rw [decide_eq_true (by omega : 4 ≤ l.length), Bool.true_and] at hv
        simp only [show ((4 : Nat) : Int) = 4 from rfl, n42, n43, k1', i1, i2, i3, i4, z0, z2, z3, z4, Int.le_refl, decide_true, decide_false, Bool.and_self, cond_true, cond_false, toN1, toN2, toN3, toN4, E1, E2, E3]
        by_cases p1 : (b1 : Int) < lo1 (b : Int)
        · rw [valid_bad hne (by rw [hv, decide_eq_false (by omega : ¬ lo1 (b : Int) ≤ (b1 : Int))]; rfl)]
          simp [p1]
        by_cases p2 : hi1 (b : Int) < (b1 : Int)
        · rw [valid_bad hne (by rw [hv, decide_eq_false (by omega : ¬ (b1 : Int) ≤ hi1 (b : Int)), Bool.and_false]; rfl)]
          simp [p1, p2]
        rw [decide_eq_true (by omega : lo1 (b : Int) ≤ (b1 : Int)), decide_eq_true (by omega : (b1 : Int) ≤ hi1 (b : Int)), Bool.true_and, Bool.true_and] at hv
        by_cases p3 : (b2 : Int) < 128
        · rw [valid_bad hne (by rw [hv, cont, decide_eq_false (by omega : ¬ (128 : Int) ≤ (b2 : Int))]; rfl)]
          simp [p1, p2, p3]
        by_cases p4 : (191 : Int) < (b2 : Int)
        · rw [valid_bad hne (by rw [hv, cont, decide_eq_false (by omega : ¬ (b2 : Int) ≤ 191), Bool.and_false]; rfl)]
          simp [p1, p2, p3, p4]
        rw [cont, cont, decide_eq_true (by omega : (128 : Int) ≤ (b2 : Int)), decide_eq_true (by omega : (b2 : Int) ≤ 191), Bool.true_and, Bool.true_and] at hv
        by_cases p5 : (b3 : Int) < 128
        · rw [valid_bad hne (by rw [hv, decide_eq_false (by omega : ¬ (128 : Int) ≤ (b3 : Int))]; rfl)]
          simp [p1, p2, p3, p4, p5]
        by_cases p6 : (191 : Int) < (b3 : Int)
        · rw [valid_bad hne (by rw [hv, decide_eq_false (by omega : ¬ (b3 : Int) ≤ 191), Bool.and_false]; rfl)]
          simp [p1, p2, p3, p4, p5, p6]
        rw [decide_eq_true (by omega : (128 : Int) ≤ (b3 : Int)), decide_eq_true (by omega : (b3 : Int) ≤ 191)] at hv
        rw [valid_ok hne hv]
        simp only [p1, p2, p3, p4, p5, p6, decide_false, cond_false]
        exact IH _ (hb.drop 4) (by rw [List.length_drop]; omega) (by rw [List.length_drop]; omega)
theorem utf8_Valid_spec (n : Nat) (l : den Lu8) (hb : Bytes l) (hn : l.length + 3 ≤ n) : utf8_Valid n l = some (valid l) := by
  obtain ⟨n, rfl⟩ : ∃ k, n = k + 1 := ⟨n - 1, by omega⟩
  rw [utf8_Valid, utf8_Valid_top]
  have e : (l.take (Int.toNat (l.length : Int))).drop (Int.toNat (0 : Int)) = l := by
    show (l.take l.length).drop 0 = l
    simp
  have h0 : (0 : Int) ≤ (l.length : Int) := by omega
  simp only [h0, Int.le_refl, decide_true, Bool.and_self, cond_true]
  rw [e]
  exact utf8_Valid_l2_spec n (by omega) n n l hb (by omega) (by omega)
#print axioms utf8_Valid_spec
end Go.Proofs.YtlcphnmkkilefaaDoor.Ab
