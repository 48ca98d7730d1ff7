/- UTF-8: what utf8.Valid tells, by a plain step. -/
import Derived.Test.YtlcphnmkkilefaaDoorPL
import Derived.Test.YtlcphnmkkilefaaDoorG
set_option linter.unusedVariables false
set_option linter.unusedSimpArgs false
set_option maxRecDepth 100000
namespace Go.Proofs.YtlcphnmkkilefaaDoor.Ab
open Go
def lo1 (b : Int) : Int := bif decide (b = 224) then 160 else bif decide (b = 240) then 144 else 128
def hi1 (b : Int) : Int := bif decide (b = 237) then 159 else bif decide (b = 244) then 143 else 191
def cont (b : Int) : Bool := decide (128 ≤ b) && decide (b ≤ 191)
def vstep (l : List Int) : Nat :=
  bif decide (l.getD 0 0 < 128) then 1 else
  bif decide (l.getD 0 0 < 194) then 0 else
  bif decide (l.getD 0 0 < 224) then (bif decide (2 ≤ l.length) && (decide (lo1 (l.getD 0 0) ≤ l.getD 1 0) && decide (l.getD 1 0 ≤ hi1 (l.getD 0 0))) then 2 else 0) else
  bif decide (l.getD 0 0 < 240) then (bif decide (3 ≤ l.length) && (decide (lo1 (l.getD 0 0) ≤ l.getD 1 0) && decide (l.getD 1 0 ≤ hi1 (l.getD 0 0))) && cont (l.getD 2 0) then 3 else 0) else
  bif decide (l.getD 0 0 < 245) then (bif decide (4 ≤ l.length) && (decide (lo1 (l.getD 0 0) ≤ l.getD 1 0) && decide (l.getD 1 0 ≤ hi1 (l.getD 0 0))) && cont (l.getD 2 0) && cont (l.getD 3 0) then 4 else 0) else 0
def validF : Nat → List Int → Bool
  | 0, _ => true
  | _ + 1, [] => true
  | n + 1, x :: r => bif Nat.beq (vstep (x :: r)) 0 then false else validF n ((x :: r).drop (vstep (x :: r)))
def valid (l : List Int) : Bool := validF (l.length + 1) l
theorem validF_any : ∀ (n m : Nat) (l : List Int), l.length < n → l.length < m → validF n l = validF m l
  | 0, _, _, h, _ => by omega
  | _ + 1, 0, _, _, h => by omega
  | n + 1, m + 1, [], _, _ => rfl
  | n + 1, m + 1, x :: r, h1, h2 => by
    simp only [validF]
    cases h : Nat.beq (vstep (x :: r)) 0 with
    | true => rfl
    | false =>
      have hv : vstep (x :: r) ≠ 0 := fun e => by rw [e] at h; simp at h
      simp only [cond_false]
      refine validF_any n m _ ?_ ?_ <;> simp only [List.length_drop, List.length_cons] at * <;> omega
theorem valid_nil : valid [] = true := rfl
theorem valid_bad {l : List Int} (h : l ≠ []) (hv : vstep l = 0) : valid l = false := by
  cases l with
  | nil => exact absurd rfl h
  | cons x r => simp only [valid, validF, hv]; rfl
theorem valid_ok {l : List Int} (h : l ≠ []) {k : Nat} (hv : vstep l = k + 1) : valid l = valid (l.drop (k + 1)) := by
  cases l with
  | nil => exact absurd rfl h
  | cons x r =>
    simp only [valid, validF, hv]
    show validF _ _ = _
    refine validF_any _ _ _ ?_ ?_ <;> simp only [List.length_drop, List.length_cons] <;> omega
theorem valid_ascii1 {x : Int} {r : List Int} (h : x < 128) : valid (x :: r) = valid r := by
  rw [valid_ok (k := 0) (List.cons_ne_nil x r) (by simp [vstep, h])]
  rfl
theorem valid_ascii : ∀ (k : Nat) (l : List Int), k ≤ l.length → (∀ i, i < k → l.getD i 0 < 128) → valid l = valid (l.drop k)
  | 0, _, _, _ => rfl
  | k + 1, [], h, _ => by simp at h
  | k + 1, x :: r, h1, h2 => by
    have := h2 0 (by omega)
    simp only [List.getD_cons_zero] at this
    rw [valid_ascii1 this, List.drop_succ_cons]
    exact valid_ascii k r (by simpa using h1) fun i hi => by have := h2 (i + 1) (by omega); simpa using this

/-! words -/
abbrev MM : Nat := 9259542123273814144
theorem wrapu64 {n : Nat} (h : n < 2 ^ 64) : IntKind.u64.wrap (n : Int) = (n : Int) := wu64 (by omega) (by omega)
theorem orI_nat {a b : Nat} (ha : a < 2 ^ 64) (hb : b < 2 ^ 64) : orI .u64 (a : Int) (b : Int) = ((a ||| b : Nat) : Int) := by
  have h : (BitVec.ofInt IntKind.u64.bits (a : Int) ||| BitVec.ofInt IntKind.u64.bits (b : Int)).toNat = a ||| b := by
    show (BitVec.ofInt 64 (a : Int) ||| BitVec.ofInt 64 (b : Int)).toNat = a ||| b
    rw [BitVec.ofInt_natCast, BitVec.ofInt_natCast, BitVec.toNat_or, BitVec.toNat_ofNat, BitVec.toNat_ofNat, Nat.mod_eq_of_lt ha, Nat.mod_eq_of_lt hb]
  unfold orI
  rw [h]
  exact wrapu64 (Nat.or_lt_two_pow ha hb)
theorem andI_nat {a b : Nat} (ha : a < 2 ^ 64) (hb : b < 2 ^ 64) : andI .u64 (a : Int) (b : Int) = ((a &&& b : Nat) : Int) := by
  have h : (BitVec.ofInt IntKind.u64.bits (a : Int) &&& BitVec.ofInt IntKind.u64.bits (b : Int)).toNat = a &&& b := by
    show (BitVec.ofInt 64 (a : Int) &&& BitVec.ofInt 64 (b : Int)).toNat = a &&& b
    rw [BitVec.ofInt_natCast, BitVec.ofInt_natCast, BitVec.toNat_and, BitVec.toNat_ofNat, BitVec.toNat_ofNat, Nat.mod_eq_of_lt ha, Nat.mod_eq_of_lt hb]
  unfold andI
  rw [h]
  exact wrapu64 (Nat.and_lt_two_pow _ hb)
theorem and_or {a b : Nat} : ((a ||| b) &&& MM = 0) ↔ (a &&& MM = 0 ∧ b &&& MM = 0) := by
  rw [Nat.and_or_distrib_right]
  constructor
  · intro h
    have := Nat.or_eq_zero_iff.1 h
    exact this
  · rintro ⟨h1, h2⟩
    rw [h1, h2]; rfl
theorem shl_nat {b : Nat} (hb : b < 256) (i : Nat) (hi : i < 8) : IntKind.wrap .u64 ((IntKind.wrap .u64 (b : Int)) * 2 ^ (8 * i)) = ((b <<< (8 * i) : Nat) : Int) ∧ b <<< (8 * i) < 2 ^ 64 := by
  have h1 : b <<< (8 * i) < 2 ^ 64 := by
    rw [Nat.shiftLeft_eq]
    have h2 : 2 ^ (8 * i) ≤ 2 ^ 56 := Nat.pow_le_pow_right (by omega) (by omega)
    calc b * 2 ^ (8 * i) ≤ 255 * 2 ^ 56 := Nat.mul_le_mul (by omega) h2
      _ < 2 ^ 64 := by decide
  refine ⟨?_, h1⟩
  rw [wrapu64 (by omega)]
  have : ((b : Int) * 2 ^ (8 * i)) = ((b <<< (8 * i) : Nat) : Int) := by rw [Nat.shiftLeft_eq]; push_cast; rfl
  rw [this, wrapu64 h1]
theorem hi_bit {b i : Nat} (hb : b < 256) (hi : i < 8) (h : (b <<< (8 * i)) &&& MM = 0) : b < 128 := by
  have h1 : ((b <<< (8 * i)) &&& MM).testBit (8 * i + 7) = false := by rw [h]; exact Nat.zero_testBit _
  rw [Nat.testBit_and, Nat.testBit_shiftLeft] at h1
  have h2 : MM.testBit (8 * i + 7) = true := by
    have : ∀ j, j < 8 → MM.testBit (8 * j + 7) = true := by decide
    exact this i hi
  rw [h2] at h1
  have h3 : b.testBit 7 = false := by simpa using h1
  rw [Nat.testBit_eq_decide_div_mod_eq] at h3
  have : ¬ b / 2 ^ 7 % 2 = 1 := by simpa using h3
  omega
def Bytes (l : List Int) : Prop := ∀ x ∈ l, 0 ≤ x ∧ x < 256
theorem Bytes.drop {l : List Int} (h : Bytes l) (k : Nat) : Bytes (l.drop k) := fun x hx => h x (List.mem_of_mem_drop hx)
theorem Bytes.getD {l : List Int} (h : Bytes l) (i : Nat) : ∃ b : Nat, l.getD i 0 = (b : Int) ∧ b < 256 := by
  by_cases hi : i < l.length
  · obtain ⟨h1, h2⟩ := h _ (List.getElem_mem hi)
    refine ⟨(l.getD i 0).toNat, ?_, ?_⟩ <;> simp only [List.getD_eq_getElem?_getD, List.getElem?_eq_getElem hi, Option.getD_some] <;> omega
  · exact ⟨0, by simp [List.getD_eq_getElem?_getD, List.getElem?_eq_none (by omega : l.length ≤ i)], by omega⟩
theorem word_spec (n : Nat) (l : den Lu8) (hl : 8 ≤ l.length) (hb : Bytes l) (hn : 1 ≤ n) : ∃ W : Nat, utf8_word_ n l = some (W : Int) ∧ W < 2 ^ 64 ∧ (W &&& MM = 0 → ∀ i, i < 8 → l.getD i 0 < 128) := by
  obtain ⟨n, rfl⟩ : ∃ k, n = k + 1 := ⟨n - 1, by omega⟩
  obtain ⟨b0, e0, h0⟩ := hb.getD 0
  obtain ⟨b1, e1, h1⟩ := hb.getD 1
  obtain ⟨b2, e2, h2⟩ := hb.getD 2
  obtain ⟨b3, e3, h3⟩ := hb.getD 3
  obtain ⟨b4, e4, h4⟩ := hb.getD 4
  obtain ⟨b5, e5, h5⟩ := hb.getD 5
  obtain ⟨b6, e6, h6⟩ := hb.getD 6
  obtain ⟨b7, e7, h7⟩ := hb.getD 7
  obtain ⟨s0, t0⟩ := shl_nat h0 0 (by omega)
  obtain ⟨s1, t1⟩ := shl_nat h1 1 (by omega)
  obtain ⟨s2, t2⟩ := shl_nat h2 2 (by omega)
  obtain ⟨s3, t3⟩ := shl_nat h3 3 (by omega)
  obtain ⟨s4, t4⟩ := shl_nat h4 4 (by omega)
  obtain ⟨s5, t5⟩ := shl_nat h5 5 (by omega)
  obtain ⟨s6, t6⟩ := shl_nat h6 6 (by omega)
  obtain ⟨s7, t7⟩ := shl_nat h7 7 (by omega)
  have s0' : IntKind.wrap .u64 (b0 : Int) = ((b0 <<< (8 * 0) : Nat) : Int) := by rw [wrapu64 (by omega)]; simp
  have g : ∀ k : Nat, k < 8 → (decide (0 ≤ (k : Int)) && decide ((k : Int) < (l.length : Int))) = true := fun k hk => by simp only [Bool.and_eq_true, decide_eq_true_eq]; omega
  have u1 := Nat.or_lt_two_pow t0 t1
  have u2 := Nat.or_lt_two_pow u1 t2
  have u3 := Nat.or_lt_two_pow u2 t3
  have u4 := Nat.or_lt_two_pow u3 t4
  have u5 := Nat.or_lt_two_pow u4 t5
  have u6 := Nat.or_lt_two_pow u5 t6
  have u7 := Nat.or_lt_two_pow u6 t7
  refine ⟨_, ?_, u7, ?_⟩
  · rw [utf8_word_, utf8_word__top]
    have q0 := g 0 (by omega)
    have q1 := g 1 (by omega)
    have q2 := g 2 (by omega)
    have q3 := g 3 (by omega)
    have q4 := g 4 (by omega)
    have q5 := g 5 (by omega)
    have q6 := g 6 (by omega)
    have q7 := g 7 (by omega)
    simp only [Int.natCast_zero, Int.cast_ofNat_Int] at q0 q1 q2 q3 q4 q5 q6 q7
    rw [q0, q1, q2, q3, q4, q5, q6, q7]
    simp only [cond_true]
    refine congrArg some ?_
    have E0 : l.getD (Int.toNat (0 : Int)) (dflt (.int .u8)) = (b0 : Int) := e0
    have E1 : l.getD (Int.toNat (1 : Int)) (dflt (.int .u8)) = (b1 : Int) := e1
    have E2 : l.getD (Int.toNat (2 : Int)) (dflt (.int .u8)) = (b2 : Int) := e2
    have E3 : l.getD (Int.toNat (3 : Int)) (dflt (.int .u8)) = (b3 : Int) := e3
    have E4 : l.getD (Int.toNat (4 : Int)) (dflt (.int .u8)) = (b4 : Int) := e4
    have E5 : l.getD (Int.toNat (5 : Int)) (dflt (.int .u8)) = (b5 : Int) := e5
    have E6 : l.getD (Int.toNat (6 : Int)) (dflt (.int .u8)) = (b6 : Int) := e6
    have E7 : l.getD (Int.toNat (7 : Int)) (dflt (.int .u8)) = (b7 : Int) := e7
    have p1 : (2 : Int) ^ (min (Int.toNat (8 : Int)) (IntKind.bits .u64)) = 2 ^ (8 * 1) := congrArg (fun k : Nat => (2 : Int) ^ k) (rfl : min (Int.toNat (8 : Int)) (IntKind.bits .u64) = 8 * 1)
    have p2 : (2 : Int) ^ (min (Int.toNat (16 : Int)) (IntKind.bits .u64)) = 2 ^ (8 * 2) := congrArg (fun k : Nat => (2 : Int) ^ k) (rfl : min (Int.toNat (16 : Int)) (IntKind.bits .u64) = 8 * 2)
    have p3 : (2 : Int) ^ (min (Int.toNat (24 : Int)) (IntKind.bits .u64)) = 2 ^ (8 * 3) := congrArg (fun k : Nat => (2 : Int) ^ k) (rfl : min (Int.toNat (24 : Int)) (IntKind.bits .u64) = 8 * 3)
    have p4 : (2 : Int) ^ (min (Int.toNat (32 : Int)) (IntKind.bits .u64)) = 2 ^ (8 * 4) := congrArg (fun k : Nat => (2 : Int) ^ k) (rfl : min (Int.toNat (32 : Int)) (IntKind.bits .u64) = 8 * 4)
    have p5 : (2 : Int) ^ (min (Int.toNat (40 : Int)) (IntKind.bits .u64)) = 2 ^ (8 * 5) := congrArg (fun k : Nat => (2 : Int) ^ k) (rfl : min (Int.toNat (40 : Int)) (IntKind.bits .u64) = 8 * 5)
    have p6 : (2 : Int) ^ (min (Int.toNat (48 : Int)) (IntKind.bits .u64)) = 2 ^ (8 * 6) := congrArg (fun k : Nat => (2 : Int) ^ k) (rfl : min (Int.toNat (48 : Int)) (IntKind.bits .u64) = 8 * 6)
    have p7 : (2 : Int) ^ (min (Int.toNat (56 : Int)) (IntKind.bits .u64)) = 2 ^ (8 * 7) := congrArg (fun k : Nat => (2 : Int) ^ k) (rfl : min (Int.toNat (56 : Int)) (IntKind.bits .u64) = 8 * 7)
    rw [E0, E1, E2, E3, E4, E5, E6, E7, p1, p2, p3, p4, p5, p6, p7, s0', s1, s2, s3, s4, s5, s6, s7, orI_nat t0 t1, orI_nat u1 t2, orI_nat u2 t3, orI_nat u3 t4, orI_nat u4 t5, orI_nat u5 t6, orI_nat u6 t7]
  · intro hz i hi
    simp only [and_or] at hz
    obtain ⟨⟨⟨⟨⟨⟨⟨z0, z1⟩, z2⟩, z3⟩, z4⟩, z5⟩, z6⟩, z7⟩ := hz
    have k0 := hi_bit h0 (i := 0) (by omega) z0
    have k1 := hi_bit h1 (i := 1) (by omega) z1
    have k2 := hi_bit h2 (i := 2) (by omega) z2
    have k3 := hi_bit h3 (i := 3) (by omega) z3
    have k4 := hi_bit h4 (i := 4) (by omega) z4
    have k5 := hi_bit h5 (i := 5) (by omega) z5
    have k6 := hi_bit h6 (i := 6) (by omega) z6
    have k7 := hi_bit h7 (i := 7) (by omega) z7
    match i, hi with
    | 0, _ => rw [e0]; exact Int.ofNat_lt.2 k0
    | 1, _ => rw [e1]; exact Int.ofNat_lt.2 k1
    | 2, _ => rw [e2]; exact Int.ofNat_lt.2 k2
    | 3, _ => rw [e3]; exact Int.ofNat_lt.2 k3
    | 4, _ => rw [e4]; exact Int.ofNat_lt.2 k4
    | 5, _ => rw [e5]; exact Int.ofNat_lt.2 k5
    | 6, _ => rw [e6]; exact Int.ofNat_lt.2 k6
    | 7, _ => rw [e7]; exact Int.ofNat_lt.2 k7
end Go.Proofs.YtlcphnmkkilefaaDoor.Ab
