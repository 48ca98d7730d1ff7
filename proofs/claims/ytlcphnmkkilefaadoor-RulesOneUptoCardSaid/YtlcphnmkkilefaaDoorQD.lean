/- Values: what value.May tells. -/
import Derived.Test.YtlcphnmkkilefaaDoorQC
import Derived.Lib.RuneCount
set_option linter.unusedVariables false
set_option linter.unusedSimpArgs false
set_option maxRecDepth 100000
namespace Go.Proofs.YtlcphnmkkilefaaDoor.Ab
open Go
theorem bytesL_len (s : ByteArray) : (bytesL s).length = s.size := by
  show (s.data.toList.map fun b => ((b.toNat : Nat) : Int)).length = s.data.size
  rw [List.length_map, Array.length_toList]
theorem bytesL_ok (s : ByteArray) : Bytes (bytesL s) := by
  intro x hx
  simp only [bytesL, List.mem_map] at hx
  obtain ⟨b, _, rfl⟩ := hx
  have := b.toNat_lt
  omega
theorem strL_size_go : ∀ (l : List Int) (r : ByteArray), (l.foldl (fun r n => r.push (UInt8.ofNat n.toNat)) r).size = r.size + l.length
  | [], r => by simp
  | x :: l, r => by
    rw [List.foldl_cons, strL_size_go l, ByteArray.size_push, List.length_cons]; omega
theorem strL_size (l : List Int) : (strL l).size = l.length := by
  rw [strL, strL_size_go]; simp
theorem runes_Read_l5_spec (C : den Lu8 → Option (denR (.one .bool))) (N : Nat) (s : ByteArray) (hs : s.size ≤ 4194304) : ∀ (m : Nat) (lo : den Li32) (pos : Nat), s.size - pos < m → lo.length ≤ pos →
    ∃ lo' : den Li32, runes_Read_l5 C N m lo (s, (pos : Int)) = some (lo', (0 : Int))
  | 0, _, _, h, _ => by omega
  | m + 1, lo, pos, h, hl => by
    rw [runes_Read_l5, runes_Read_s5]
    have h0 : (0 : Int) ≤ (pos : Int) := by omega
    by_cases hp : pos < s.size
    · have hp' : (pos : Int) < (s.size : Int) := by omega
      have hw := Lib.decode_width_pos s pos hp
      have hbd : decide ((lo.length + ([((Utf8.decode s (Int.toNat (pos : Int))).1 : Int)] : List (den (.int .i32))).length) * 4 ≤ 140737488355328) = true := decide_eq_true (by simp only [List.length_cons, List.length_nil]; omega)
      simp only [h0, hp', decide_true, Bool.and_self, cond_true]
      rw [hbd]
      simp only [cond_true]
      have e : ((pos : Int) + ((Utf8.decode s (Int.toNat (pos : Int))).2 : Int)) = ((pos + (Utf8.decode s pos).2 : Nat) : Int) := by
        show (pos : Int) + ((Utf8.decode s pos).2 : Int) = _
        omega
      rw [e]
      exact runes_Read_l5_spec C N s hs m _ _ (by omega) (by simp only [List.length_append, List.length_cons, List.length_nil]; omega)
    · have hp' : ¬ (pos : Int) < (s.size : Int) := by omega
      simp only [h0, hp', decide_true, decide_false, Bool.and_false, cond_false, cond_true]
      exact ⟨lo, rfl⟩
theorem runes_Read_spec (n : Nat) (s : ByteArray) (hs : s.size ≤ 4194304) (hn : s.size + 4 ≤ n) : ∃ lo' : den Li32, runes_Read n (bytesL s) = some (lo', bif valid (bytesL s) then (0 : Int) else 3) := by
  obtain ⟨n, rfl⟩ : ∃ k, n = k + 1 := ⟨n - 1, by omega⟩
  have hl := bytesL_len s
  rw [runes_Read, runes_Read_top, utf8_Valid_spec n (bytesL s) (bytesL_ok s) (by omega)]
  simp only [Option.bind_some]
  cases valid (bytesL s) with
  | false => exact ⟨[], rfl⟩
  | true =>
    simp only [Bool.not_true, cond_false, cond_true]
    have hz := strL_size (bytesL s)
    exact runes_Read_l5_spec (utf8_Valid n) n (strL (bytesL s)) (by omega) n [] 0 (by omega) (by simp)
abbrev zs : ByteArray := ⟨#[]⟩
def nanB (b : Nat) : Bool := FloatKind.f64.format.order b b != some .eq
noncomputable def mayV (v : den TValue) : Bool :=
  bif decide ((v.1 : Int) = 1) then eqT TValue v (bif decide ((v.2.1 : Int) = 1) then ((1 : Int), ((1 : Int), ((0 : Int), (zs, ())))) else ((1 : Int), ((0 : Int), ((0 : Int), (zs, ()))))) else
  bif decide ((v.1 : Int) = 2) then eqT TValue v ((2 : Int), (v.2.1, ((0 : Int), (zs, ())))) else
  bif decide ((v.1 : Int) = 3) then eqT TValue v (bif nanB (Int.toNat v.2.2.1) then ((3 : Int), ((0 : Int), ((9221120237041090560 : Int), (zs, ())))) else ((3 : Int), ((0 : Int), (((Int.toNat v.2.2.1 : Nat) : Int), (zs, ()))))) else
  bif decide ((v.1 : Int) = 4) then decide ((v.2.2.2.1 : ByteArray).size ≤ 64) && valid (bytesL v.2.2.2.1) && eqT TValue v ((4 : Int), ((0 : Int), ((0 : Int), (v.2.2.2.1, ())))) else false
theorem value_May_spec (n : Nat) (v : den TValue) (hn : 100 ≤ n) : value_May n v = some (mayV v) := by
  obtain ⟨n, rfl⟩ : ∃ k, n = k + 3 := ⟨n - 3, by omega⟩
  rw [value_May, value_May_top]
  unfold mayV
  cases decide ((v.1 : Int) = 1) with
  | true =>
    simp only [cond_true, value_Flag, value_Flag_top]
    cases decide ((v.2.1 : Int) = 1) <;> rfl
  | false =>
  cases decide ((v.1 : Int) = 2) with
  | true => rfl
  | false =>
  cases decide ((v.1 : Int) = 3) with
  | true =>
    simp only [cond_true, cond_false, value_Float, value_Float_top, math_IsNaN, math_IsNaN_top, Option.bind_some]
    show Option.bind (bif nanB (Int.toNat v.2.2.1) then _ else _) _ = _
    cases nanB (Int.toNat v.2.2.1) <;> rfl
  | false =>
  cases decide ((v.1 : Int) = 4) with
  | true =>
    simp only [cond_true, cond_false, value_Text, value_Text_top]
    by_cases h : 64 < (v.2.2.2.1 : ByteArray).size
    · have h' : (64 : Int) < ((v.2.2.2.1 : ByteArray).size : Int) := by omega
      rw [decide_eq_true h', decide_eq_false (by omega : ¬ (v.2.2.2.1 : ByteArray).size ≤ 64)]
      rfl
    · have h' : ¬ (64 : Int) < ((v.2.2.2.1 : ByteArray).size : Int) := by omega
      obtain ⟨lo, e⟩ := runes_Read_spec (n + 1) v.2.2.2.1 (by omega) (by omega)
      rw [decide_eq_false h', decide_eq_true (by omega : (v.2.2.2.1 : ByteArray).size ≤ 64), cond_false, e]
      cases valid (bytesL v.2.2.2.1) <;> rfl
  | false => rfl
#print axioms value_May_spec
end Go.Proofs.YtlcphnmkkilefaaDoor.Ab
