/- The seat's functions as plain Lean functions, each shown to be what the abstract interpreter comes to (printed by try3.py). -/
import Derived.Test.YtecangnmmbcbkaaDoorG0
import Derived.Test.YtecangnmmbcbkaaDoorP0
import Derived.Test.YtecangnmmbcbkaaDoorProg
import Derived.KernelRfl
set_option linter.unusedVariables false
set_option linter.unusedSimpArgs false
set_option maxRecDepth 100000
namespace Go.Proofs.YtecangnmmbcbkaaDoor.Ab
open Go
noncomputable def B19 : Code := (Go.Proofs.Tryd.f19.body).getD .skip
noncomputable def ref04_May_sh10 (t0 : den (LKey)) (t3 : den (.int .i64)) (t5 : den (.int .i64)) (o4 : den (TKey)) : St := ⟨[.s (.val (LKey) t0), U, U, .s (.val (.int .i64) t3), .s (.ref 4 []), .s (.val (.int .i64) t5), U, U, U, U, U, U, U, U, U, U, U, U, U, U, U, U, U, U, U, U, U, U, U, U, U, U, U, U, U, U, U, U, U, U, U, U, U, U, U, U, U, U, U, U, U, U, U, U, U, U, U, U, U, U, U, U, U, U, U, U, U, U, U, U, U, U, U, U, U, U, U, U], [(4, .box (TKey) o4)]⟩
noncomputable def ref04_May_sh4 (t0 : den (LKey)) (t3 : den (.int .i64)) : St := ⟨[.s (.val (LKey) t0), U, U, .s (.val (.int .i64) t3), U, U, U, U, U, U, U, U, U, U, U, U, U, U, U, U, U, U, U, U, U, U, U, U, U, U, U, U, U, U, U, U, U, U, U, U, U, U, U, U, U, U, U, U, U, U, U, U, U, U, U, U, U, U, U, U, U, U, U, U, U, U, U, U, U, U, U, U, U, U, U, U, U, U], []⟩
noncomputable def ref04_May_s10   (LS4 : den (LKey) → den (.int .i64) → Option (denR (.one (.bool)))) (LS10 : den (LKey) → den (.int .i64) → den (.int .i64) → den (TKey) → Option (denR (.one (.bool)))) (t0 : den (LKey)) (t3 : den (.int .i64)) (t5 : den (.int .i64)) (o4 : den (TKey)) : Option (denR (.one (.bool))) := (bif (decide (t5 < t3)) then (bif decide (0 ≤ t5) && decide (t5 < (t0.length : Int)) then (bif (decide ((t0.getD (Int.toNat t5) (dflt (TKey))).1 = o4.1)) then some false else LS10 t0 t3 (IntKind.wrap .i64 (t5 + (1 : Int))) o4) else none) else LS4 t0 (IntKind.wrap .i64 (t3 + (1 : Int))))
noncomputable def ref04_May_l10  (n : Nat) (LS4 : den (LKey) → den (.int .i64) → Option (denR (.one (.bool)))) : Nat → den (LKey) → den (.int .i64) → den (.int .i64) → den (TKey) → Option (denR (.one (.bool)))
  | 0, _, _, _, _ => none
  | m + 1, t0, t3, t5, o4 => ref04_May_s10   LS4 (fun (t0 : den (LKey)) (t3 : den (.int .i64)) (t5 : den (.int .i64)) (o4 : den (TKey)) => ref04_May_l10  n LS4 m t0 t3 t5 o4) t0 t3 t5 o4
noncomputable def ref04_May_F10 (call : Call0) (n : Nat) (r4 : St → Option (denR (.one (.bool)))) : (St → Option (denR (.one (.bool)))) → St → Option (denR (.one (.bool))) := fun rec => exec cfg call n 19 (cat B19 [1, 1, 0, 1, 0, 0, 1, 0, 0, 1, 1, 1, 0, 0]) (kLoop rec (lk2 19 10 cfg.keep) (kBlock 2 (kBlock 1 (kSq (exec cfg call n 19 (cat B19 [1, 1, 0, 1, 0, 0, 1, 1])) (kLoop r4 (lk2 19 4 cfg.keep) (kBlock 0 (kSq (exec cfg call n 19 (cat B19 [1, 1, 1])) (kret cfg Go.Proofs.Tryd.f19 (.one (.bool))))))))))
theorem ref04_May_l10_eq (call : Call0) (n : Nat) (r4 : St → Option (denR (.one (.bool)))) : ∀ (m : Nat) (t0 : den (LKey)) (t3 : den (.int .i64)) (t5 : den (.int .i64)) (o4 : den (TKey)), loopN (ref04_May_F10 call n r4) m (ref04_May_sh10 t0 t3 t5 o4) = ref04_May_l10  n (fun (t0 : den (LKey)) (t3 : den (.int .i64)) => r4 (ref04_May_sh4 t0 t3)) m t0 t3 t5 o4 := by
  intro m
  induction m with
  | zero => intros; rfl
  | succ m ih =>
    intro t0 t3 t5 o4
    have h : loopN (ref04_May_F10 call n r4) (m + 1) (ref04_May_sh10 t0 t3 t5 o4) = ref04_May_s10   (fun (t0 : den (LKey)) (t3 : den (.int .i64)) => r4 (ref04_May_sh4 t0 t3)) (fun (t0 : den (LKey)) (t3 : den (.int .i64)) (t5 : den (.int .i64)) (o4 : den (TKey)) => loopN (ref04_May_F10 call n r4) m (ref04_May_sh10 t0 t3 t5 o4)) t0 t3 t5 o4 := by kernel_rfl
    have e0 : (fun (t0 : den (LKey)) (t3 : den (.int .i64)) (t5 : den (.int .i64)) (o4 : den (TKey)) => loopN (ref04_May_F10 call n r4) m (ref04_May_sh10 t0 t3 t5 o4)) = (fun (t0 : den (LKey)) (t3 : den (.int .i64)) (t5 : den (.int .i64)) (o4 : den (TKey)) => ref04_May_l10  n (fun (t0 : den (LKey)) (t3 : den (.int .i64)) => r4 (ref04_May_sh4 t0 t3)) m t0 t3 t5 o4) := by funext t0 t3 t5 o4; exact ih t0 t3 t5 o4
    rw [h, e0]; rfl
noncomputable def ref04_May_s4  (LL10 : den (LKey) → den (.int .i64) → den (.int .i64) → den (TKey) → Option (denR (.one (.bool))))  (LS4 : den (LKey) → den (.int .i64) → Option (denR (.one (.bool)))) (t0 : den (LKey)) (t3 : den (.int .i64)) : Option (denR (.one (.bool))) := (bif (decide (t3 < (t0.length : Int))) then (bif decide (0 ≤ t3) && decide (t3 < (t0.length : Int)) then (bif (decide ((t0.getD (Int.toNat t3) (dflt (TKey))).1 < (1 : Int))) then some false else (bif (decide ((1000 : Int) < (t0.getD (Int.toNat t3) (dflt (TKey))).1)) then some false else (bif (decide ((((t0.getD (Int.toNat t3) (dflt (TKey))).2).2).1 < (1 : Int))) then some false else (bif (decide ((4 : Int) < (((t0.getD (Int.toNat t3) (dflt (TKey))).2).2).1)) then some false else (bif (decide (((((((t0.getD (Int.toNat t3) (dflt (TKey))).2).2).2).2).2).1 < (0 : Int))) then some false else (bif (decide ((8 : Int) < ((((((t0.getD (Int.toNat t3) (dflt (TKey))).2).2).2).2).2).1)) then some false else (bif (!((t0.getD (Int.toNat t3) (dflt (TKey))).2).1) then (bif ((!decide (((((((t0.getD (Int.toNat t3) (dflt (TKey))).2).2).2).2).2).1 = (0 : Int)))) then some false else (bif ((t0.getD (Int.toNat t3) (dflt (TKey))).2).1 then (bif (((((t0.getD (Int.toNat t3) (dflt (TKey))).2).2).2).2).1 then some false else LL10 t0 t3 (0 : Int) (t0.getD (Int.toNat t3) (dflt (TKey)))) else LL10 t0 t3 (0 : Int) (t0.getD (Int.toNat t3) (dflt (TKey))))) else (bif ((t0.getD (Int.toNat t3) (dflt (TKey))).2).1 then (bif (((((t0.getD (Int.toNat t3) (dflt (TKey))).2).2).2).2).1 then some false else LL10 t0 t3 (0 : Int) (t0.getD (Int.toNat t3) (dflt (TKey)))) else LL10 t0 t3 (0 : Int) (t0.getD (Int.toNat t3) (dflt (TKey))))))))))) else none) else some true)
noncomputable def ref04_May_l4  (n : Nat)  : Nat → den (LKey) → den (.int .i64) → Option (denR (.one (.bool)))
  | 0, _, _ => none
  | m + 1, t0, t3 => ref04_May_s4  (ref04_May_l10  n (fun (t0 : den (LKey)) (t3 : den (.int .i64)) => ref04_May_l4  n  m t0 t3) n)  (fun (t0 : den (LKey)) (t3 : den (.int .i64)) => ref04_May_l4  n  m t0 t3) t0 t3
noncomputable def ref04_May_F4 (call : Call0) (n : Nat)  : (St → Option (denR (.one (.bool)))) → St → Option (denR (.one (.bool))) := fun rec => exec cfg call n 19 (cat B19 [1, 1, 0, 1, 0, 0]) (kLoop rec (lk2 19 4 cfg.keep) (kBlock 0 (kSq (exec cfg call n 19 (cat B19 [1, 1, 1])) (kret cfg Go.Proofs.Tryd.f19 (.one (.bool))))))
theorem ref04_May_l4_eq (call : Call0) (n : Nat)  : ∀ (m : Nat) (t0 : den (LKey)) (t3 : den (.int .i64)), loopN (ref04_May_F4 call n ) m (ref04_May_sh4 t0 t3) = ref04_May_l4  n  m t0 t3 := by
  intro m
  induction m with
  | zero => intros; rfl
  | succ m ih =>
    intro t0 t3
    have h : loopN (ref04_May_F4 call n ) (m + 1) (ref04_May_sh4 t0 t3) = ref04_May_s4  (fun (t0 : den (LKey)) (t3 : den (.int .i64)) (t5 : den (.int .i64)) (o4 : den (TKey)) => loopN (ref04_May_F10 call n (loopN (ref04_May_F4 call n ) m)) n (ref04_May_sh10 t0 t3 t5 o4))  (fun (t0 : den (LKey)) (t3 : den (.int .i64)) => loopN (ref04_May_F4 call n ) m (ref04_May_sh4 t0 t3)) t0 t3 := by kernel_rfl
    have e10 : (fun (t0 : den (LKey)) (t3 : den (.int .i64)) (t5 : den (.int .i64)) (o4 : den (TKey)) => loopN (ref04_May_F10 call n (loopN (ref04_May_F4 call n ) m)) n (ref04_May_sh10 t0 t3 t5 o4)) = ref04_May_l10  n (fun (t0 : den (LKey)) (t3 : den (.int .i64)) => (loopN (ref04_May_F4 call n ) m) (ref04_May_sh4 t0 t3)) n := by funext t0 t3 t5 o4; exact ref04_May_l10_eq call n (loopN (ref04_May_F4 call n ) m) n t0 t3 t5 o4
    have e0 : (fun (t0 : den (LKey)) (t3 : den (.int .i64)) => loopN (ref04_May_F4 call n ) m (ref04_May_sh4 t0 t3)) = (fun (t0 : den (LKey)) (t3 : den (.int .i64)) => ref04_May_l4  n  m t0 t3) := by funext t0 t3; exact ih t0 t3
    rw [h, e10, e0]; rfl
noncomputable def ref04_May_top  (LL4 : den (LKey) → den (.int .i64) → Option (denR (.one (.bool)))) (a0 : den (LKey)) : Option (denR (.one (.bool))) := (bif (decide ((64 : Int) < (a0.length : Int))) then some false else LL4 a0 (0 : Int))
noncomputable def ref04_May : Nat → den (LKey) → Option (denR (.one (.bool)))
  | 0, _ => none
  | n + 1, a0 => ref04_May_top  (ref04_May_l4  n n) a0
theorem ref04_May_eq (n : Nat) (a0 : den (LKey)) : (acalls cfg intr intrI n).p 19 [.s (.val (LKey) a0)] (.one (.bool)) = ref04_May n a0 := by
  cases n with
  | zero => rfl
  | succ n =>
    have h : (acalls cfg intr intrI (n + 1)).p 19 [.s (.val (LKey) a0)] (.one (.bool)) = ref04_May_top  (fun (t0 : den (LKey)) (t3 : den (.int .i64)) => loopN (ref04_May_F4 (acalls cfg intr intrI n) n) n (ref04_May_sh4 t0 t3)) a0 := by kernel_rfl
    have e4 : (fun (t0 : den (LKey)) (t3 : den (.int .i64)) => loopN (ref04_May_F4 (acalls cfg intr intrI n) n) n (ref04_May_sh4 t0 t3)) = ref04_May_l4  n n := by funext t0 t3; exact ref04_May_l4_eq (acalls cfg intr intrI n) n n t0 t3
    rw [h, e4]; rfl

noncomputable def B24 : Code := (Go.Proofs.Tryd.f24.body).getD .skip
noncomputable def ref06_Rising_sh2 (pt0 : den (LChange)) (it3 : den (.int .i64)) : St := ⟨[.s (.val (LChange) pt0), U, U, .s (.val (.int .i64) it3), U, U, U, U, U, U, U, U, U, U, U, U, U, U, U, U, U, U], []⟩
noncomputable def ref06_Rising_s2    (LS2 : den (LChange) → den (.int .i64) → Option (denR (.one (.bool)))) (pt0 : den (LChange)) (it3 : den (.int .i64)) : Option (denR (.one (.bool))) := (bif (decide (it3 < (pt0.length : Int))) then (bif decide (0 ≤ (IntKind.wrap .i64 (it3 - (1 : Int)))) && decide ((IntKind.wrap .i64 (it3 - (1 : Int))) < (pt0.length : Int)) then (bif decide (0 ≤ it3) && decide (it3 < (pt0.length : Int)) then (bif (decide ((pt0.getD (Int.toNat it3) (dflt (TChange))).1 ≤ (pt0.getD (Int.toNat (IntKind.wrap .i64 (it3 - (1 : Int)))) (dflt (TChange))).1)) then some false else LS2 pt0 (IntKind.wrap .i64 (it3 + (1 : Int)))) else none) else none) else some true)
noncomputable def ref06_Rising_l2  (n : Nat)  : Nat → den (LChange) → den (.int .i64) → Option (denR (.one (.bool)))
  | 0, _, _ => none
  | m + 1, pt0, it3 => ref06_Rising_s2    (fun (pt0 : den (LChange)) (it3 : den (.int .i64)) => ref06_Rising_l2  n  m pt0 it3) pt0 it3
noncomputable def ref06_Rising_g2    : List (den (TChange)) → den (LChange) → den (.int .i64) → Option (denR (.one (.bool)))
  | [], pt0, it3 => some true
  | x :: r, pt0, it3 => (bif decide (0 ≤ (IntKind.wrap .i64 (it3 - (1 : Int)))) && decide ((IntKind.wrap .i64 (it3 - (1 : Int))) < (pt0.length : Int)) then (bif (decide (x.1 ≤ (pt0.getD (Int.toNat (IntKind.wrap .i64 (it3 - (1 : Int)))) (dflt (TChange))).1)) then some false else ref06_Rising_g2    r pt0 (it3 + (1 : Int))) else none)
theorem ref06_Rising_l2_list  (n : Nat)  : ∀ (m i : Nat) (pt0 : den (LChange)), pt0.length - i < m → i ≤ pt0.length → pt0.length < 4611686018427387904 → ref06_Rising_l2  n  m pt0 (i : Int) = ref06_Rising_g2    (pt0.drop i) pt0 (i : Int) := by
  intro m
  induction m with
  | zero => intro i pt0 h1; omega
  | succ m ih =>
    intro i pt0 h1 h2 h3
    show ref06_Rising_s2    (fun (pt0 : den (LChange)) (it3 : den (.int .i64)) => ref06_Rising_l2  n  m pt0 it3) pt0 (i : Int) = _
    unfold ref06_Rising_s2
    have b0 : decide ((0 : Int) ≤ (i : Int)) = true := decide_eq_true (by omega)
    rcases Nat.lt_or_ge i pt0.length with hi | hi
    · have b1 : decide ((i : Int) < (pt0.length : Int)) = true := decide_eq_true (by omega)
      have bw : IntKind.i64.wrap ((i : Int) + (1 : Int)) = ((i + 1 : Nat) : Int) := w64s (by omega)
      have ih' : ∀ (_u : Unit), ref06_Rising_l2  n  m pt0 ((i + 1 : Nat) : Int) = ref06_Rising_g2    (pt0.drop (i + 1)) pt0 ((i + 1 : Nat) : Int) := fun _u => ih (i + 1) pt0 (by omega) (by omega) h3
      simp only [b0, b1, bw, Bool.and_true, Bool.true_and, cond_true, Int.toNat_natCast, ih' ()]
      rw [drop_getD hi (dflt (TChange))]
      rfl
    · have b1 : decide ((i : Int) < (pt0.length : Int)) = false := decide_eq_false (by omega)
      simp only [b1, cond_false]
      rw [List.drop_eq_nil_of_le hi]
      rfl
noncomputable def ref06_Rising_F2 (call : Call0) (n : Nat)  : (St → Option (denR (.one (.bool)))) → St → Option (denR (.one (.bool))) := fun rec => exec cfg call n 24 (cat B24 [1, 0, 1, 0, 0]) (kLoop rec (lk2 24 2 cfg.keep) (kBlock 0 (kSq (exec cfg call n 24 (cat B24 [1, 1])) (kret cfg Go.Proofs.Tryd.f24 (.one (.bool))))))
theorem ref06_Rising_l2_eq (call : Call0) (n : Nat)  : ∀ (m : Nat) (pt0 : den (LChange)) (it3 : den (.int .i64)), loopN (ref06_Rising_F2 call n ) m (ref06_Rising_sh2 pt0 it3) = ref06_Rising_l2  n  m pt0 it3 := by
  intro m
  induction m with
  | zero => intros; rfl
  | succ m ih =>
    intro pt0 it3
    have h : loopN (ref06_Rising_F2 call n ) (m + 1) (ref06_Rising_sh2 pt0 it3) = ref06_Rising_s2    (fun (pt0 : den (LChange)) (it3 : den (.int .i64)) => loopN (ref06_Rising_F2 call n ) m (ref06_Rising_sh2 pt0 it3)) pt0 it3 := by kernel_rfl
    have e0 : (fun (pt0 : den (LChange)) (it3 : den (.int .i64)) => loopN (ref06_Rising_F2 call n ) m (ref06_Rising_sh2 pt0 it3)) = (fun (pt0 : den (LChange)) (it3 : den (.int .i64)) => ref06_Rising_l2  n  m pt0 it3) := by funext pt0 it3; exact ih pt0 it3
    rw [h, e0]; rfl
noncomputable def ref06_Rising_top  (LL2 : den (LChange) → den (.int .i64) → Option (denR (.one (.bool)))) (a0 : den (LChange)) : Option (denR (.one (.bool))) := LL2 a0 (1 : Int)
noncomputable def ref06_Rising : Nat → den (LChange) → Option (denR (.one (.bool)))
  | 0, _ => none
  | n + 1, a0 => ref06_Rising_top  (ref06_Rising_l2  n n) a0
theorem ref06_Rising_eq (n : Nat) (a0 : den (LChange)) : (acalls cfg intr intrI n).p 24 [.s (.val (LChange) a0)] (.one (.bool)) = ref06_Rising n a0 := by
  cases n with
  | zero => rfl
  | succ n =>
    have h : (acalls cfg intr intrI (n + 1)).p 24 [.s (.val (LChange) a0)] (.one (.bool)) = ref06_Rising_top  (fun (pt0 : den (LChange)) (it3 : den (.int .i64)) => loopN (ref06_Rising_F2 (acalls cfg intr intrI n) n) n (ref06_Rising_sh2 pt0 it3)) a0 := by kernel_rfl
    have e2 : (fun (pt0 : den (LChange)) (it3 : den (.int .i64)) => loopN (ref06_Rising_F2 (acalls cfg intr intrI n) n) n (ref06_Rising_sh2 pt0 it3)) = ref06_Rising_l2  n n := by funext pt0 it3; exact ref06_Rising_l2_eq (acalls cfg intr intrI n) n n pt0 it3
    rw [h, e2]; rfl

noncomputable def ref03_none_top   (a0 : den (.int .u64)) : Option (denR (.one (.bool))) := some (decide ((9218868437227405312 : Int) < (Int.tmod a0 (9223372036854775808 : Int))))
noncomputable def ref03_none : Nat → den (.int .u64) → Option (denR (.one (.bool)))
  | 0, _ => none
  | n + 1, a0 => ref03_none_top   a0
theorem ref03_none_eq (n : Nat) (a0 : den (.int .u64)) : (acalls cfg intr intrI n).p 79 [.s (.val (.int .u64) a0)] (.one (.bool)) = ref03_none n a0 := by
  cases n with
  | zero => rfl
  | succ n =>
    have h : (acalls cfg intr intrI (n + 1)).p 79 [.s (.val (.int .u64) a0)] (.one (.bool)) = ref03_none_top   a0 := by kernel_rfl
    rw [h]; rfl

noncomputable def ref01_May_top   (a0 : den (.int .i32)) : Option (denR (.one (.bool))) := (bif (decide ((0 : Int) ≤ a0)) then (bif (decide (a0 < (55296 : Int))) then some true else (bif (decide ((57344 : Int) ≤ a0)) then some (decide (a0 ≤ (1114111 : Int))) else some false)) else (bif (decide ((57344 : Int) ≤ a0)) then some (decide (a0 ≤ (1114111 : Int))) else some false))
noncomputable def ref01_May : Nat → den (.int .i32) → Option (denR (.one (.bool)))
  | 0, _ => none
  | n + 1, a0 => ref01_May_top   a0
theorem ref01_May_eq (n : Nat) (a0 : den (.int .i32)) : (acalls cfg intr intrI n).p 107 [.s (.val (.int .i32) a0)] (.one (.bool)) = ref01_May n a0 := by
  cases n with
  | zero => rfl
  | succ n =>
    have h : (acalls cfg intr intrI (n + 1)).p 107 [.s (.val (.int .i32) a0)] (.one (.bool)) = ref01_May_top   a0 := by kernel_rfl
    rw [h]; rfl

noncomputable def ref01_six_top   (a0 : den (.int .i32)) : Option (denR (.one (.int .u8))) := some (IntKind.wrap .u8 (IntKind.wrap .i32 ((128 : Int) + (Int.tmod a0 (64 : Int)))))
noncomputable def ref01_six : Nat → den (.int .i32) → Option (denR (.one (.int .u8)))
  | 0, _ => none
  | n + 1, a0 => ref01_six_top   a0
theorem ref01_six_eq (n : Nat) (a0 : den (.int .i32)) : (acalls cfg intr intrI n).p 112 [.s (.val (.int .i32) a0)] (.one (.int .u8)) = ref01_six n a0 := by
  cases n with
  | zero => rfl
  | succ n =>
    have h : (acalls cfg intr intrI (n + 1)).p 112 [.s (.val (.int .i32) a0)] (.one (.int .u8)) = ref01_six_top   a0 := by kernel_rfl
    rw [h]; rfl

noncomputable def ref01_one_top (C_ref01_six : den (.int .i32) → Option (denR (.one (.int .u8))))  (a0 : den (.int .i32)) : Option (denR (.one (Lu8))) := (bif (decide (a0 < (128 : Int))) then some [(IntKind.wrap .u8 a0)] else (bif (decide (a0 < (2048 : Int))) then ((C_ref01_six a0).bind fun r1 => some [(IntKind.wrap .u8 (IntKind.wrap .i32 ((192 : Int) + (IntKind.wrap .i32 (Int.tdiv a0 (64 : Int)))))), r1]) else (bif (decide (a0 < (65536 : Int))) then ((C_ref01_six (IntKind.wrap .i32 (Int.tdiv a0 (64 : Int)))).bind fun r2 => ((C_ref01_six a0).bind fun r3 => some [(IntKind.wrap .u8 (IntKind.wrap .i32 ((224 : Int) + (IntKind.wrap .i32 (Int.tdiv a0 (4096 : Int)))))), r2, r3])) else ((C_ref01_six (IntKind.wrap .i32 (Int.tdiv a0 (4096 : Int)))).bind fun r4 => ((C_ref01_six (IntKind.wrap .i32 (Int.tdiv a0 (64 : Int)))).bind fun r5 => ((C_ref01_six a0).bind fun r6 => some [(IntKind.wrap .u8 (IntKind.wrap .i32 ((240 : Int) + (IntKind.wrap .i32 (Int.tdiv a0 (262144 : Int)))))), r4, r5, r6]))))))
noncomputable def ref01_one : Nat → den (.int .i32) → Option (denR (.one (Lu8)))
  | 0, _ => none
  | n + 1, a0 => ref01_one_top (ref01_six n)  a0
theorem ref01_one_eq (n : Nat) (a0 : den (.int .i32)) : (acalls cfg intr intrI n).p 108 [.s (.val (.int .i32) a0)] (.one (Lu8)) = ref01_one n a0 := by
  cases n with
  | zero => rfl
  | succ n =>
    have h : (acalls cfg intr intrI (n + 1)).p 108 [.s (.val (.int .i32) a0)] (.one (Lu8)) = ref01_one_top (fun (a0 : den (.int .i32)) => (acalls cfg intr intrI n).p 112 [.s (.val (.int .i32) a0)] (.one (.int .u8)))  a0 := by kernel_rfl
    have c_ref01_six : (fun (a0 : den (.int .i32)) => (acalls cfg intr intrI n).p 112 [.s (.val (.int .i32) a0)] (.one (.int .u8))) = ref01_six n := by funext a0; exact ref01_six_eq n a0
    rw [h, c_ref01_six]; rfl

noncomputable def B99 : Code := (Go.Proofs.Tryd.f99.body).getD .skip
noncomputable def ref01_next_sh17 (t0 : den (Lu8)) (t4 : den (.int .i64)) (t5 : den (.int .i32)) (t6 : den (.int .i64)) : St := ⟨[.s (.val (Lu8) t0), U, U, U, .s (.val (.int .i64) t4), .s (.val (.int .i32) t5), .s (.val (.int .i64) t6), U, U, U, U, U, U, U, U, U, U, U, U, U, U, U, U, U, U, U, U, U, U, U, U, U, U, U, U, U, U, U, U, U, U, U, U, U, U, U, U, U, U, U, U, U, U, U, U, U, U, U, U, U, U, U, U, U, U, U, U, U, U, U, U, U, U, U, U, U, U, U, U, U, U, U, U, U, U, U, U, U], []⟩
noncomputable def ref01_next_s17 (C_ref01_May : den (.int .i32) → Option (denR (.one (.bool)))) (C_ref01_one : den (.int .i32) → Option (denR (.one (Lu8))))   (LS17 : den (Lu8) → den (.int .i64) → den (.int .i32) → den (.int .i64) → Option (denR (.two (.int .i32) (.int .i64)))) (t0 : den (Lu8)) (t4 : den (.int .i64)) (t5 : den (.int .i32)) (t6 : den (.int .i64)) : Option (denR (.two (.int .i32) (.int .i64))) := (bif (decide (t6 < t4)) then (bif decide (0 ≤ t6) && decide (t6 < (t0.length : Int)) then (bif (decide ((t0.getD (Int.toNat t6) (dflt (.int .u8))) < (128 : Int))) then some ((0 : Int), (0 : Int)) else (bif decide (0 ≤ t6) && decide (t6 < (t0.length : Int)) then (bif (decide ((191 : Int) < (t0.getD (Int.toNat t6) (dflt (.int .u8))))) then some ((0 : Int), (0 : Int)) else (bif decide (0 ≤ t6) && decide (t6 < (t0.length : Int)) then LS17 t0 t4 (IntKind.wrap .i32 ((IntKind.wrap .i32 ((IntKind.wrap .i32 (t5 * (64 : Int))) + (IntKind.wrap .i32 (t0.getD (Int.toNat t6) (dflt (.int .u8)))))) - (128 : Int))) (IntKind.wrap .i64 (t6 + (1 : Int))) else none)) else none)) else none) else ((C_ref01_May t5).bind fun r1 => (bif (!r1) then some ((0 : Int), (0 : Int)) else ((C_ref01_one t5).bind fun r2 => (bif ((!decide ((r2.length : Int) = t4))) then some ((0 : Int), (0 : Int)) else some (t5, t4))))))
noncomputable def ref01_next_l17 (C_ref01_May : den (.int .i32) → Option (denR (.one (.bool)))) (C_ref01_one : den (.int .i32) → Option (denR (.one (Lu8)))) (n : Nat)  : Nat → den (Lu8) → den (.int .i64) → den (.int .i32) → den (.int .i64) → Option (denR (.two (.int .i32) (.int .i64)))
  | 0, _, _, _, _ => none
  | m + 1, t0, t4, t5, t6 => ref01_next_s17 C_ref01_May C_ref01_one   (fun (t0 : den (Lu8)) (t4 : den (.int .i64)) (t5 : den (.int .i32)) (t6 : den (.int .i64)) => ref01_next_l17 C_ref01_May C_ref01_one n  m t0 t4 t5 t6) t0 t4 t5 t6
noncomputable def ref01_next_F17 (call : Call0) (n : Nat)  : (St → Option (denR (.two (.int .i32) (.int .i64)))) → St → Option (denR (.two (.int .i32) (.int .i64))) := fun rec => exec cfg call n 99 (cat B99 [1, 1, 1, 1, 1, 0, 1, 0, 0]) (kLoop rec (lk2 99 17 cfg.keep) (kBlock 1 (kSq (exec cfg call n 99 (cat B99 [1, 1, 1, 1, 1, 1])) (kret cfg Go.Proofs.Tryd.f99 (.two (.int .i32) (.int .i64))))))
theorem ref01_next_l17_eq (call : Call0) (n : Nat)  : ∀ (m : Nat) (t0 : den (Lu8)) (t4 : den (.int .i64)) (t5 : den (.int .i32)) (t6 : den (.int .i64)), loopN (ref01_next_F17 call n ) m (ref01_next_sh17 t0 t4 t5 t6) = ref01_next_l17 (fun (a0 : den (.int .i32)) => call.p 107 [.s (.val (.int .i32) a0)] (.one (.bool))) (fun (a0 : den (.int .i32)) => call.p 108 [.s (.val (.int .i32) a0)] (.one (Lu8))) n  m t0 t4 t5 t6 := by
  intro m
  induction m with
  | zero => intros; rfl
  | succ m ih =>
    intro t0 t4 t5 t6
    have h : loopN (ref01_next_F17 call n ) (m + 1) (ref01_next_sh17 t0 t4 t5 t6) = ref01_next_s17 (fun (a0 : den (.int .i32)) => call.p 107 [.s (.val (.int .i32) a0)] (.one (.bool))) (fun (a0 : den (.int .i32)) => call.p 108 [.s (.val (.int .i32) a0)] (.one (Lu8)))   (fun (t0 : den (Lu8)) (t4 : den (.int .i64)) (t5 : den (.int .i32)) (t6 : den (.int .i64)) => loopN (ref01_next_F17 call n ) m (ref01_next_sh17 t0 t4 t5 t6)) t0 t4 t5 t6 := by kernel_rfl
    have e0 : (fun (t0 : den (Lu8)) (t4 : den (.int .i64)) (t5 : den (.int .i32)) (t6 : den (.int .i64)) => loopN (ref01_next_F17 call n ) m (ref01_next_sh17 t0 t4 t5 t6)) = (fun (t0 : den (Lu8)) (t4 : den (.int .i64)) (t5 : den (.int .i32)) (t6 : den (.int .i64)) => ref01_next_l17 (fun (a0 : den (.int .i32)) => call.p 107 [.s (.val (.int .i32) a0)] (.one (.bool))) (fun (a0 : den (.int .i32)) => call.p 108 [.s (.val (.int .i32) a0)] (.one (Lu8))) n  m t0 t4 t5 t6) := by funext t0 t4 t5 t6; exact ih t0 t4 t5 t6
    rw [h, e0]; rfl
noncomputable def ref01_next_top (C_ref01_May : den (.int .i32) → Option (denR (.one (.bool)))) (C_ref01_one : den (.int .i32) → Option (denR (.one (Lu8)))) (LL17 : den (Lu8) → den (.int .i64) → den (.int .i32) → den (.int .i64) → Option (denR (.two (.int .i32) (.int .i64)))) (a0 : den (Lu8)) : Option (denR (.two (.int .i32) (.int .i64))) := (bif decide (0 ≤ (0 : Int)) && decide ((0 : Int) < (a0.length : Int)) then (bif decide (0 ≤ (0 : Int)) && decide ((0 : Int) < (a0.length : Int)) then (bif (decide ((240 : Int) ≤ (a0.getD (Int.toNat (0 : Int)) (dflt (.int .u8))))) then (bif decide (0 ≤ (0 : Int)) && decide ((0 : Int) < (a0.length : Int)) then (bif (decide ((a0.length : Int) < (4 : Int))) then some ((0 : Int), (0 : Int)) else LL17 a0 (4 : Int) (IntKind.wrap .i32 ((IntKind.wrap .i32 (a0.getD (Int.toNat (0 : Int)) (dflt (.int .u8)))) - (240 : Int))) (1 : Int)) else none) else (bif decide (0 ≤ (0 : Int)) && decide ((0 : Int) < (a0.length : Int)) then (bif (decide ((224 : Int) ≤ (a0.getD (Int.toNat (0 : Int)) (dflt (.int .u8))))) then (bif decide (0 ≤ (0 : Int)) && decide ((0 : Int) < (a0.length : Int)) then (bif (decide ((a0.length : Int) < (3 : Int))) then some ((0 : Int), (0 : Int)) else LL17 a0 (3 : Int) (IntKind.wrap .i32 ((IntKind.wrap .i32 (a0.getD (Int.toNat (0 : Int)) (dflt (.int .u8)))) - (224 : Int))) (1 : Int)) else none) else (bif decide (0 ≤ (0 : Int)) && decide ((0 : Int) < (a0.length : Int)) then (bif (decide ((192 : Int) ≤ (a0.getD (Int.toNat (0 : Int)) (dflt (.int .u8))))) then (bif decide (0 ≤ (0 : Int)) && decide ((0 : Int) < (a0.length : Int)) then (bif (decide ((a0.length : Int) < (2 : Int))) then some ((0 : Int), (0 : Int)) else LL17 a0 (2 : Int) (IntKind.wrap .i32 ((IntKind.wrap .i32 (a0.getD (Int.toNat (0 : Int)) (dflt (.int .u8)))) - (192 : Int))) (1 : Int)) else none) else (bif decide (0 ≤ (0 : Int)) && decide ((0 : Int) < (a0.length : Int)) then (bif (decide ((128 : Int) ≤ (a0.getD (Int.toNat (0 : Int)) (dflt (.int .u8))))) then some ((0 : Int), (0 : Int)) else (bif (decide ((a0.length : Int) < (1 : Int))) then some ((0 : Int), (0 : Int)) else LL17 a0 (1 : Int) (IntKind.wrap .i32 (a0.getD (Int.toNat (0 : Int)) (dflt (.int .u8)))) (1 : Int))) else none)) else none)) else none)) else none) else none)
noncomputable def ref01_next : Nat → den (Lu8) → Option (denR (.two (.int .i32) (.int .i64)))
  | 0, _ => none
  | n + 1, a0 => ref01_next_top (ref01_May n) (ref01_one n) (ref01_next_l17 (ref01_May n) (ref01_one n) n n) a0
theorem ref01_next_eq (n : Nat) (a0 : den (Lu8)) : (acalls cfg intr intrI n).p 99 [.s (.val (Lu8) a0)] (.two (.int .i32) (.int .i64)) = ref01_next n a0 := by
  cases n with
  | zero => rfl
  | succ n =>
    have h : (acalls cfg intr intrI (n + 1)).p 99 [.s (.val (Lu8) a0)] (.two (.int .i32) (.int .i64)) = ref01_next_top (fun (a0 : den (.int .i32)) => (acalls cfg intr intrI n).p 107 [.s (.val (.int .i32) a0)] (.one (.bool))) (fun (a0 : den (.int .i32)) => (acalls cfg intr intrI n).p 108 [.s (.val (.int .i32) a0)] (.one (Lu8))) (fun (t0 : den (Lu8)) (t4 : den (.int .i64)) (t5 : den (.int .i32)) (t6 : den (.int .i64)) => loopN (ref01_next_F17 (acalls cfg intr intrI n) n) n (ref01_next_sh17 t0 t4 t5 t6)) a0 := by kernel_rfl
    have e17 : (fun (t0 : den (Lu8)) (t4 : den (.int .i64)) (t5 : den (.int .i32)) (t6 : den (.int .i64)) => loopN (ref01_next_F17 (acalls cfg intr intrI n) n) n (ref01_next_sh17 t0 t4 t5 t6)) = ref01_next_l17 (fun (a0 : den (.int .i32)) => (acalls cfg intr intrI n).p 107 [.s (.val (.int .i32) a0)] (.one (.bool))) (fun (a0 : den (.int .i32)) => (acalls cfg intr intrI n).p 108 [.s (.val (.int .i32) a0)] (.one (Lu8))) n n := by funext t0 t4 t5 t6; exact ref01_next_l17_eq (acalls cfg intr intrI n) n n t0 t4 t5 t6
    have c_ref01_May : (fun (a0 : den (.int .i32)) => (acalls cfg intr intrI n).p 107 [.s (.val (.int .i32) a0)] (.one (.bool))) = ref01_May n := by funext a0; exact ref01_May_eq n a0
    have c_ref01_one : (fun (a0 : den (.int .i32)) => (acalls cfg intr intrI n).p 108 [.s (.val (.int .i32) a0)] (.one (Lu8))) = ref01_one n := by funext a0; exact ref01_one_eq n a0
    rw [h, e17, c_ref01_May, c_ref01_one]; rfl

noncomputable def B80 : Code := (Go.Proofs.Tryd.f80.body).getD .skip
noncomputable def ref01_Read_sh3 (bt0 : den (Lu8)) (it5 : den (.int .i64)) (lo4 : den (Li32)) : St := ⟨[.s (.val (Lu8) bt0), U, U, U, .s (.arr 4), .s (.val (.int .i64) it5), U, U, U, U, U, U, U, U, U, U, U, U, U, U, U, U, U, U, U, U, U, U, U], [(4, .arr 21 (.int .i32) lo4)]⟩
noncomputable def ref01_Read_s3 (C_ref01_next : den (Lu8) → Option (denR (.two (.int .i32) (.int .i64))))   (LS3 : den (Lu8) → den (.int .i64) → den (Li32) → Option (denR (.two (Li32) (.int .i64)))) (bt0 : den (Lu8)) (it5 : den (.int .i64)) (lo4 : den (Li32)) : Option (denR (.two (Li32) (.int .i64))) := (bif (decide (it5 < (bt0.length : Int))) then (bif decide (0 ≤ it5) && decide (it5 ≤ (bt0.length : Int)) && decide ((bt0.length : Int) ≤ (bt0.length : Int)) then ((C_ref01_next (bt0.drop (Int.toNat it5))).bind fun r1 => (bif (decide (r1.2 = (0 : Int))) then some ([], (3 : Int)) else (bif decide ((lo4.length + ([r1.1] : List (den (.int .i32))).length) * 4 ≤ 140737488355328) then LS3 bt0 (IntKind.wrap .i64 (it5 + r1.2)) (lo4 ++ ([r1.1] : List (den (.int .i32)))) else none))) else none) else some (lo4, (0 : Int)))
noncomputable def ref01_Read_l3 (C_ref01_next : den (Lu8) → Option (denR (.two (.int .i32) (.int .i64)))) (n : Nat)  : Nat → den (Lu8) → den (.int .i64) → den (Li32) → Option (denR (.two (Li32) (.int .i64)))
  | 0, _, _, _ => none
  | m + 1, bt0, it5, lo4 => ref01_Read_s3 C_ref01_next   (fun (bt0 : den (Lu8)) (it5 : den (.int .i64)) (lo4 : den (Li32)) => ref01_Read_l3 C_ref01_next n  m bt0 it5 lo4) bt0 it5 lo4
noncomputable def ref01_Read_F3 (call : Call0) (n : Nat)  : (St → Option (denR (.two (Li32) (.int .i64)))) → St → Option (denR (.two (Li32) (.int .i64))) := fun rec => exec cfg call n 80 (cat B80 [1, 1, 0, 1, 0, 0]) (kLoop rec (lk2 80 3 cfg.keep) (kBlock 0 (kSq (exec cfg call n 80 (cat B80 [1, 1, 1])) (kret cfg Go.Proofs.Tryd.f80 (.two (Li32) (.int .i64))))))
theorem ref01_Read_l3_eq (call : Call0) (n : Nat)  : ∀ (m : Nat) (bt0 : den (Lu8)) (it5 : den (.int .i64)) (lo4 : den (Li32)), loopN (ref01_Read_F3 call n ) m (ref01_Read_sh3 bt0 it5 lo4) = ref01_Read_l3 (fun (a0 : den (Lu8)) => call.p 99 [.s (.val (Lu8) a0)] (.two (.int .i32) (.int .i64))) n  m bt0 it5 lo4 := by
  intro m
  induction m with
  | zero => intros; rfl
  | succ m ih =>
    intro bt0 it5 lo4
    have h : loopN (ref01_Read_F3 call n ) (m + 1) (ref01_Read_sh3 bt0 it5 lo4) = ref01_Read_s3 (fun (a0 : den (Lu8)) => call.p 99 [.s (.val (Lu8) a0)] (.two (.int .i32) (.int .i64)))   (fun (bt0 : den (Lu8)) (it5 : den (.int .i64)) (lo4 : den (Li32)) => loopN (ref01_Read_F3 call n ) m (ref01_Read_sh3 bt0 it5 lo4)) bt0 it5 lo4 := by kernel_rfl
    have e0 : (fun (bt0 : den (Lu8)) (it5 : den (.int .i64)) (lo4 : den (Li32)) => loopN (ref01_Read_F3 call n ) m (ref01_Read_sh3 bt0 it5 lo4)) = (fun (bt0 : den (Lu8)) (it5 : den (.int .i64)) (lo4 : den (Li32)) => ref01_Read_l3 (fun (a0 : den (Lu8)) => call.p 99 [.s (.val (Lu8) a0)] (.two (.int .i32) (.int .i64))) n  m bt0 it5 lo4) := by funext bt0 it5 lo4; exact ih bt0 it5 lo4
    rw [h, e0]; rfl
noncomputable def ref01_Read_top (C_ref01_next : den (Lu8) → Option (denR (.two (.int .i32) (.int .i64)))) (LL3 : den (Lu8) → den (.int .i64) → den (Li32) → Option (denR (.two (Li32) (.int .i64)))) (a0 : den (Lu8)) : Option (denR (.two (Li32) (.int .i64))) := LL3 a0 (0 : Int) []
noncomputable def ref01_Read : Nat → den (Lu8) → Option (denR (.two (Li32) (.int .i64)))
  | 0, _ => none
  | n + 1, a0 => ref01_Read_top (ref01_next n) (ref01_Read_l3 (ref01_next n) n n) a0
theorem ref01_Read_eq (n : Nat) (a0 : den (Lu8)) : (acalls cfg intr intrI n).p 80 [.s (.val (Lu8) a0)] (.two (Li32) (.int .i64)) = ref01_Read n a0 := by
  cases n with
  | zero => rfl
  | succ n =>
    have h : (acalls cfg intr intrI (n + 1)).p 80 [.s (.val (Lu8) a0)] (.two (Li32) (.int .i64)) = ref01_Read_top (fun (a0 : den (Lu8)) => (acalls cfg intr intrI n).p 99 [.s (.val (Lu8) a0)] (.two (.int .i32) (.int .i64))) (fun (bt0 : den (Lu8)) (it5 : den (.int .i64)) (lo4 : den (Li32)) => loopN (ref01_Read_F3 (acalls cfg intr intrI n) n) n (ref01_Read_sh3 bt0 it5 lo4)) a0 := by kernel_rfl
    have e3 : (fun (bt0 : den (Lu8)) (it5 : den (.int .i64)) (lo4 : den (Li32)) => loopN (ref01_Read_F3 (acalls cfg intr intrI n) n) n (ref01_Read_sh3 bt0 it5 lo4)) = ref01_Read_l3 (fun (a0 : den (Lu8)) => (acalls cfg intr intrI n).p 99 [.s (.val (Lu8) a0)] (.two (.int .i32) (.int .i64))) n n := by funext bt0 it5 lo4; exact ref01_Read_l3_eq (acalls cfg intr intrI n) n n bt0 it5 lo4
    have c_ref01_next : (fun (a0 : den (Lu8)) => (acalls cfg intr intrI n).p 99 [.s (.val (Lu8) a0)] (.two (.int .i32) (.int .i64))) = ref01_next n := by funext a0; exact ref01_next_eq n a0
    rw [h, e3, c_ref01_next]; rfl

noncomputable def ref03_May_top (C_ref03_none : den (.int .u64) → Option (denR (.one (.bool)))) (C_ref01_Read : den (Lu8) → Option (denR (.two (Li32) (.int .i64))))  (a0 : den (TValue)) : Option (denR (.one (.bool))) := (bif (decide (a0.1 = (1 : Int))) then (bif (eqT (TValue) a0 ((1 : Int), (a0.2.1, ((0 : Int), ((⟨#[]⟩ : ByteArray), ()))))) then (bif (decide (a0.2.1 = (0 : Int))) then some true else some (decide (a0.2.1 = (1 : Int)))) else some false) else (bif (decide (a0.1 = (2 : Int))) then some (eqT (TValue) a0 ((2 : Int), (a0.2.1, ((0 : Int), ((⟨#[]⟩ : ByteArray), ()))))) else (bif (decide (a0.1 = (3 : Int))) then (bif (eqT (TValue) a0 ((3 : Int), ((0 : Int), (a0.2.2.1, ((⟨#[]⟩ : ByteArray), ()))))) then ((C_ref03_none a0.2.2.1).bind fun r1 => (bif (!r1) then some true else some (decide (a0.2.2.1 = (9221120237041090560 : Int))))) else some false) else (bif (decide (a0.1 = (4 : Int))) then ((C_ref01_Read (bytesL a0.2.2.2.1)).bind fun r2 => (bif (eqT (TValue) a0 ((4 : Int), ((0 : Int), ((0 : Int), (a0.2.2.2.1, ()))))) then (bif (decide ((ByteArray.size a0.2.2.2.1 : Int) ≤ (64 : Int))) then some (decide (r2.2 = (0 : Int))) else some false) else some false)) else some false))))
noncomputable def ref03_May : Nat → den (TValue) → Option (denR (.one (.bool)))
  | 0, _ => none
  | n + 1, a0 => ref03_May_top (ref03_none n) (ref01_Read n)  a0
theorem ref03_May_eq (n : Nat) (a0 : den (TValue)) : (acalls cfg intr intrI n).p 55 [.s (.val (TValue) a0)] (.one (.bool)) = ref03_May n a0 := by
  cases n with
  | zero => rfl
  | succ n =>
    have h : (acalls cfg intr intrI (n + 1)).p 55 [.s (.val (TValue) a0)] (.one (.bool)) = ref03_May_top (fun (a0 : den (.int .u64)) => (acalls cfg intr intrI n).p 79 [.s (.val (.int .u64) a0)] (.one (.bool))) (fun (a0 : den (Lu8)) => (acalls cfg intr intrI n).p 80 [.s (.val (Lu8) a0)] (.two (Li32) (.int .i64)))  a0 := by kernel_rfl
    have c_ref03_none : (fun (a0 : den (.int .u64)) => (acalls cfg intr intrI n).p 79 [.s (.val (.int .u64) a0)] (.one (.bool))) = ref03_none n := by funext a0; exact ref03_none_eq n a0
    have c_ref01_Read : (fun (a0 : den (Lu8)) => (acalls cfg intr intrI n).p 80 [.s (.val (Lu8) a0)] (.two (Li32) (.int .i64))) = ref01_Read n := by funext a0; exact ref01_Read_eq n a0
    rw [h, c_ref03_none, c_ref01_Read]; rfl

noncomputable def B56 : Code := (Go.Proofs.Tryd.f56.body).getD .skip
noncomputable def ref04_Find_sh2 (keyst0 : den (LKey)) (idt1 : den (.int .i64)) (it6 : den (.int .i64)) (o4 : den (TKey)) : St := ⟨[.s (.val (LKey) keyst0), .s (.val (.int .i64) idt1), U, U, .s (.ref 4 []), U, .s (.val (.int .i64) it6), U, U, U, U, U, U, U, U, U, U, U, U, U, U, U, U, U, U], [(4, .box (TKey) o4)]⟩
noncomputable def ref04_Find_s2    (LS2 : den (LKey) → den (.int .i64) → den (.int .i64) → den (TKey) → Option (denR (.two (TKey) (.bool)))) (keyst0 : den (LKey)) (idt1 : den (.int .i64)) (it6 : den (.int .i64)) (o4 : den (TKey)) : Option (denR (.two (TKey) (.bool))) := (bif (decide (it6 < (keyst0.length : Int))) then (bif decide (0 ≤ it6) && decide (it6 < (keyst0.length : Int)) then (bif (decide ((keyst0.getD (Int.toNat it6) (dflt (TKey))).1 = idt1)) then (bif decide (0 ≤ it6) && decide (it6 < (keyst0.length : Int)) then some ((keyst0.getD (Int.toNat it6) (dflt (TKey))), true) else none) else LS2 keyst0 idt1 (IntKind.wrap .i64 (it6 + (1 : Int))) o4) else none) else some (((0 : Int), (false, ((0 : Int), (false, (false, ((0 : Int), ())))))), false))
noncomputable def ref04_Find_l2  (n : Nat)  : Nat → den (LKey) → den (.int .i64) → den (.int .i64) → den (TKey) → Option (denR (.two (TKey) (.bool)))
  | 0, _, _, _, _ => none
  | m + 1, keyst0, idt1, it6, o4 => ref04_Find_s2    (fun (keyst0 : den (LKey)) (idt1 : den (.int .i64)) (it6 : den (.int .i64)) (o4 : den (TKey)) => ref04_Find_l2  n  m keyst0 idt1 it6 o4) keyst0 idt1 it6 o4
noncomputable def ref04_Find_g2    : List (den (TKey)) → den (.int .i64) → den (TKey) → Option (denR (.two (TKey) (.bool)))
  | [], idt1, o4 => some (((0 : Int), (false, ((0 : Int), (false, (false, ((0 : Int), ())))))), false)
  | x :: r, idt1, o4 => (bif (decide (x.1 = idt1)) then some (x, true) else ref04_Find_g2    r idt1 o4)
theorem ref04_Find_l2_list  (n : Nat)  : ∀ (m i : Nat) (keyst0 : den (LKey)) (idt1 : den (.int .i64)) (o4 : den (TKey)), keyst0.length - i < m → i ≤ keyst0.length → keyst0.length < 4611686018427387904 → ref04_Find_l2  n  m keyst0 idt1 (i : Int) o4 = ref04_Find_g2    (keyst0.drop i) idt1 o4 := by
  intro m
  induction m with
  | zero => intro i keyst0 idt1 o4 h1; omega
  | succ m ih =>
    intro i keyst0 idt1 o4 h1 h2 h3
    show ref04_Find_s2    (fun (keyst0 : den (LKey)) (idt1 : den (.int .i64)) (it6 : den (.int .i64)) (o4 : den (TKey)) => ref04_Find_l2  n  m keyst0 idt1 it6 o4) keyst0 idt1 (i : Int) o4 = _
    unfold ref04_Find_s2
    have b0 : decide ((0 : Int) ≤ (i : Int)) = true := decide_eq_true (by omega)
    rcases Nat.lt_or_ge i keyst0.length with hi | hi
    · have b1 : decide ((i : Int) < (keyst0.length : Int)) = true := decide_eq_true (by omega)
      have bw : IntKind.i64.wrap ((i : Int) + (1 : Int)) = ((i + 1 : Nat) : Int) := w64s (by omega)
      have ih' : ∀ (idt1 : den (.int .i64)) (o4 : den (TKey)), ref04_Find_l2  n  m keyst0 idt1 ((i + 1 : Nat) : Int) o4 = ref04_Find_g2    (keyst0.drop (i + 1)) idt1 o4 := fun idt1 o4 => ih (i + 1) keyst0 idt1 o4 (by omega) (by omega) h3
      simp only [b0, b1, bw, Bool.and_true, Bool.true_and, cond_true, Int.toNat_natCast, ih']
      rw [drop_getD hi (dflt (TKey))]
      rfl
    · have b1 : decide ((i : Int) < (keyst0.length : Int)) = false := decide_eq_false (by omega)
      simp only [b1, cond_false]
      rw [List.drop_eq_nil_of_le hi]
      rfl
noncomputable def ref04_Find_F2 (call : Call0) (n : Nat)  : (St → Option (denR (.two (TKey) (.bool)))) → St → Option (denR (.two (TKey) (.bool))) := fun rec => exec cfg call n 56 (cat B56 [1, 0, 1, 0, 0]) (kLoop rec (lk2 56 2 cfg.keep) (kBlock 0 (kSq (exec cfg call n 56 (cat B56 [1, 1])) (kret cfg Go.Proofs.Tryd.f56 (.two (TKey) (.bool))))))
theorem ref04_Find_l2_eq (call : Call0) (n : Nat)  : ∀ (m : Nat) (keyst0 : den (LKey)) (idt1 : den (.int .i64)) (it6 : den (.int .i64)) (o4 : den (TKey)), loopN (ref04_Find_F2 call n ) m (ref04_Find_sh2 keyst0 idt1 it6 o4) = ref04_Find_l2  n  m keyst0 idt1 it6 o4 := by
  intro m
  induction m with
  | zero => intros; rfl
  | succ m ih =>
    intro keyst0 idt1 it6 o4
    have h : loopN (ref04_Find_F2 call n ) (m + 1) (ref04_Find_sh2 keyst0 idt1 it6 o4) = ref04_Find_s2    (fun (keyst0 : den (LKey)) (idt1 : den (.int .i64)) (it6 : den (.int .i64)) (o4 : den (TKey)) => loopN (ref04_Find_F2 call n ) m (ref04_Find_sh2 keyst0 idt1 it6 o4)) keyst0 idt1 it6 o4 := by kernel_rfl
    have e0 : (fun (keyst0 : den (LKey)) (idt1 : den (.int .i64)) (it6 : den (.int .i64)) (o4 : den (TKey)) => loopN (ref04_Find_F2 call n ) m (ref04_Find_sh2 keyst0 idt1 it6 o4)) = (fun (keyst0 : den (LKey)) (idt1 : den (.int .i64)) (it6 : den (.int .i64)) (o4 : den (TKey)) => ref04_Find_l2  n  m keyst0 idt1 it6 o4) := by funext keyst0 idt1 it6 o4; exact ih keyst0 idt1 it6 o4
    rw [h, e0]; rfl
noncomputable def ref04_Find_top  (LL2 : den (LKey) → den (.int .i64) → den (.int .i64) → den (TKey) → Option (denR (.two (TKey) (.bool)))) (a0 : den (LKey)) (a1 : den (.int .i64)) : Option (denR (.two (TKey) (.bool))) := LL2 a0 a1 (0 : Int) ((0 : Int), (false, ((0 : Int), (false, (false, ((0 : Int), ()))))))
noncomputable def ref04_Find : Nat → den (LKey) → den (.int .i64) → Option (denR (.two (TKey) (.bool)))
  | 0, _, _ => none
  | n + 1, a0, a1 => ref04_Find_top  (ref04_Find_l2  n n) a0 a1
theorem ref04_Find_eq (n : Nat) (a0 : den (LKey)) (a1 : den (.int .i64)) : (acalls cfg intr intrI n).p 56 [.s (.val (LKey) a0), .s (.val (.int .i64) a1)] (.two (TKey) (.bool)) = ref04_Find n a0 a1 := by
  cases n with
  | zero => rfl
  | succ n =>
    have h : (acalls cfg intr intrI (n + 1)).p 56 [.s (.val (LKey) a0), .s (.val (.int .i64) a1)] (.two (TKey) (.bool)) = ref04_Find_top  (fun (keyst0 : den (LKey)) (idt1 : den (.int .i64)) (it6 : den (.int .i64)) (o4 : den (TKey)) => loopN (ref04_Find_F2 (acalls cfg intr intrI n) n) n (ref04_Find_sh2 keyst0 idt1 it6 o4)) a0 a1 := by kernel_rfl
    have e2 : (fun (keyst0 : den (LKey)) (idt1 : den (.int .i64)) (it6 : den (.int .i64)) (o4 : den (TKey)) => loopN (ref04_Find_F2 (acalls cfg intr intrI n) n) n (ref04_Find_sh2 keyst0 idt1 it6 o4)) = ref04_Find_l2  n n := by funext keyst0 idt1 it6 o4; exact ref04_Find_l2_eq (acalls cfg intr intrI n) n n keyst0 idt1 it6 o4
    rw [h, e2]; rfl

noncomputable def ref04_Fits_top (C_ref04_Find : den (LKey) → den (.int .i64) → Option (denR (.two (TKey) (.bool)))) (C_ref03_May : den (TValue) → Option (denR (.one (.bool))))  (a0 : den (LKey)) (a1 : den (.int .i64)) (a2 : den (TValue)) : Option (denR (.one (.bool))) := ((C_ref04_Find a0 a1).bind fun r1 => (bif r1.2 then ((C_ref03_May a2).bind fun r2 => (bif r2 then some (decide (a2.1 = r1.1.2.2.1)) else some false)) else some false))
noncomputable def ref04_Fits : Nat → den (LKey) → den (.int .i64) → den (TValue) → Option (denR (.one (.bool)))
  | 0, _, _, _ => none
  | n + 1, a0, a1, a2 => ref04_Fits_top (ref04_Find n) (ref03_May n)  a0 a1 a2
theorem ref04_Fits_eq (n : Nat) (a0 : den (LKey)) (a1 : den (.int .i64)) (a2 : den (TValue)) : (acalls cfg intr intrI n).p 57 [.s (.val (LKey) a0), .s (.val (.int .i64) a1), .s (.val (TValue) a2)] (.one (.bool)) = ref04_Fits n a0 a1 a2 := by
  cases n with
  | zero => rfl
  | succ n =>
    have h : (acalls cfg intr intrI (n + 1)).p 57 [.s (.val (LKey) a0), .s (.val (.int .i64) a1), .s (.val (TValue) a2)] (.one (.bool)) = ref04_Fits_top (fun (a0 : den (LKey)) (a1 : den (.int .i64)) => (acalls cfg intr intrI n).p 56 [.s (.val (LKey) a0), .s (.val (.int .i64) a1)] (.two (TKey) (.bool))) (fun (a0 : den (TValue)) => (acalls cfg intr intrI n).p 55 [.s (.val (TValue) a0)] (.one (.bool)))  a0 a1 a2 := by kernel_rfl
    have c_ref04_Find : (fun (a0 : den (LKey)) (a1 : den (.int .i64)) => (acalls cfg intr intrI n).p 56 [.s (.val (LKey) a0), .s (.val (.int .i64) a1)] (.two (TKey) (.bool))) = ref04_Find n := by funext a0 a1; exact ref04_Find_eq n a0 a1
    have c_ref03_May : (fun (a0 : den (TValue)) => (acalls cfg intr intrI n).p 55 [.s (.val (TValue) a0)] (.one (.bool))) = ref03_May n := by funext a0; exact ref03_May_eq n a0
    rw [h, c_ref04_Find, c_ref03_May]; rfl

noncomputable def B20 : Code := (Go.Proofs.Tryd.f20.body).getD .skip
noncomputable def ref06_May_sh9 (t0 : den (LKey)) (t1 : den (LChange)) (t6 : den (.int .i64)) : St := ⟨[.s (.val (LKey) t0), .s (.val (LChange) t1), U, U, U, U, .s (.val (.int .i64) t6), U, U, U, U, U, U, U, U, U, U, U, U, U, U, U, U, U, U, U, U, U, U, U, U, U, U, U, U, U, U, U, U, U, U, U, U, U, U, U, U, U, U, U, U, U, U, U, U, U, U, U, U, U, U, U, U, U, U, U, U, U, U, U, U, U, U, U, U, U, U, U, U, U, U, U, U, U, U, U, U, U, U, U, U, U, U, U, U], []⟩
noncomputable def ref06_May_sh4 (t0 : den (LKey)) (t1 : den (LChange)) (t5 : den (.int .i64)) : St := ⟨[.s (.val (LKey) t0), .s (.val (LChange) t1), U, U, U, .s (.val (.int .i64) t5), U, U, U, U, U, U, U, U, U, U, U, U, U, U, U, U, U, U, U, U, U, U, U, U, U, U, U, U, U, U, U, U, U, U, U, U, U, U, U, U, U, U, U, U, U, U, U, U, U, U, U, U, U, U, U, U, U, U, U, U, U, U, U, U, U, U, U, U, U, U, U, U, U, U, U, U, U, U, U, U, U, U, U, U, U, U, U, U, U], []⟩
noncomputable def ref06_May_s9 (C_ref06_Rising : den (LChange) → Option (denR (.one (.bool)))) (C_ref03_May : den (TValue) → Option (denR (.one (.bool)))) (C_ref04_Find : den (LKey) → den (.int .i64) → Option (denR (.two (TKey) (.bool)))) (C_ref04_Fits : den (LKey) → den (.int .i64) → den (TValue) → Option (denR (.one (.bool))))   (LS9 : den (LKey) → den (LChange) → den (.int .i64) → Option (denR (.one (.int .i64)))) (t0 : den (LKey)) (t1 : den (LChange)) (t6 : den (.int .i64)) : Option (denR (.one (.int .i64))) := (bif (decide (t6 < (t1.length : Int))) then (bif decide (0 ≤ t6) && decide (t6 < (t1.length : Int)) then ((C_ref04_Find t0 ((t1.getD (Int.toNat t6) (dflt (TChange))).1)).bind fun r4 => (bif (!r4.2) then some (4 : Int) else (bif decide (0 ≤ t6) && decide (t6 < (t1.length : Int)) then (bif (!((t1.getD (Int.toNat t6) (dflt (TChange))).2).1) then (bif decide (0 ≤ t6) && decide (t6 < (t1.length : Int)) then (bif decide (0 ≤ t6) && decide (t6 < (t1.length : Int)) then ((C_ref04_Fits t0 ((t1.getD (Int.toNat t6) (dflt (TChange))).1) ((((t1.getD (Int.toNat t6) (dflt (TChange))).2).2).1)).bind fun r5 => (bif (!r5) then some (4 : Int) else LS9 t0 t1 (IntKind.wrap .i64 (t6 + (1 : Int))))) else none) else none) else LS9 t0 t1 (IntKind.wrap .i64 (t6 + (1 : Int)))) else none))) else none) else some (0 : Int))
noncomputable def ref06_May_l9 (C_ref06_Rising : den (LChange) → Option (denR (.one (.bool)))) (C_ref03_May : den (TValue) → Option (denR (.one (.bool)))) (C_ref04_Find : den (LKey) → den (.int .i64) → Option (denR (.two (TKey) (.bool)))) (C_ref04_Fits : den (LKey) → den (.int .i64) → den (TValue) → Option (denR (.one (.bool)))) (n : Nat)  : Nat → den (LKey) → den (LChange) → den (.int .i64) → Option (denR (.one (.int .i64)))
  | 0, _, _, _ => none
  | m + 1, t0, t1, t6 => ref06_May_s9 C_ref06_Rising C_ref03_May C_ref04_Find C_ref04_Fits   (fun (t0 : den (LKey)) (t1 : den (LChange)) (t6 : den (.int .i64)) => ref06_May_l9 C_ref06_Rising C_ref03_May C_ref04_Find C_ref04_Fits n  m t0 t1 t6) t0 t1 t6
noncomputable def ref06_May_g9 (C_ref06_Rising : den (LChange) → Option (denR (.one (.bool)))) (C_ref03_May : den (TValue) → Option (denR (.one (.bool)))) (C_ref04_Find : den (LKey) → den (.int .i64) → Option (denR (.two (TKey) (.bool)))) (C_ref04_Fits : den (LKey) → den (.int .i64) → den (TValue) → Option (denR (.one (.bool))))   : List (den (TChange)) → den (LKey) → Option (denR (.one (.int .i64)))
  | [], t0 => some (0 : Int)
  | x :: r, t0 => ((C_ref04_Find t0 x.1).bind fun r6 => (bif (!r6.2) then some (4 : Int) else (bif (!x.2.1) then ((C_ref04_Fits t0 x.1 x.2.2.1).bind fun r7 => (bif (!r7) then some (4 : Int) else ref06_May_g9 C_ref06_Rising C_ref03_May C_ref04_Find C_ref04_Fits   r t0)) else ref06_May_g9 C_ref06_Rising C_ref03_May C_ref04_Find C_ref04_Fits   r t0)))
theorem ref06_May_l9_list (C_ref06_Rising : den (LChange) → Option (denR (.one (.bool)))) (C_ref03_May : den (TValue) → Option (denR (.one (.bool)))) (C_ref04_Find : den (LKey) → den (.int .i64) → Option (denR (.two (TKey) (.bool)))) (C_ref04_Fits : den (LKey) → den (.int .i64) → den (TValue) → Option (denR (.one (.bool)))) (n : Nat)  : ∀ (m i : Nat) (t0 : den (LKey)) (t1 : den (LChange)), t1.length - i < m → i ≤ t1.length → t1.length < 4611686018427387904 → ref06_May_l9 C_ref06_Rising C_ref03_May C_ref04_Find C_ref04_Fits n  m t0 t1 (i : Int) = ref06_May_g9 C_ref06_Rising C_ref03_May C_ref04_Find C_ref04_Fits   (t1.drop i) t0 := by
  intro m
  induction m with
  | zero => intro i t0 t1 h1; omega
  | succ m ih =>
    intro i t0 t1 h1 h2 h3
    show ref06_May_s9 C_ref06_Rising C_ref03_May C_ref04_Find C_ref04_Fits   (fun (t0 : den (LKey)) (t1 : den (LChange)) (t6 : den (.int .i64)) => ref06_May_l9 C_ref06_Rising C_ref03_May C_ref04_Find C_ref04_Fits n  m t0 t1 t6) t0 t1 (i : Int) = _
    unfold ref06_May_s9
    have b0 : decide ((0 : Int) ≤ (i : Int)) = true := decide_eq_true (by omega)
    rcases Nat.lt_or_ge i t1.length with hi | hi
    · have b1 : decide ((i : Int) < (t1.length : Int)) = true := decide_eq_true (by omega)
      have bw : IntKind.i64.wrap ((i : Int) + (1 : Int)) = ((i + 1 : Nat) : Int) := w64s (by omega)
      have ih' : ∀ (t0 : den (LKey)), ref06_May_l9 C_ref06_Rising C_ref03_May C_ref04_Find C_ref04_Fits n  m t0 t1 ((i + 1 : Nat) : Int) = ref06_May_g9 C_ref06_Rising C_ref03_May C_ref04_Find C_ref04_Fits   (t1.drop (i + 1)) t0 := fun t0 => ih (i + 1) t0 t1 (by omega) (by omega) h3
      simp only [b0, b1, bw, Bool.and_true, Bool.true_and, cond_true, Int.toNat_natCast, ih']
      rw [drop_getD hi (dflt (TChange))]
      rfl
    · have b1 : decide ((i : Int) < (t1.length : Int)) = false := decide_eq_false (by omega)
      simp only [b1, cond_false]
      rw [List.drop_eq_nil_of_le hi]
      rfl
noncomputable def ref06_May_F9 (call : Call0) (n : Nat)  : (St → Option (denR (.one (.int .i64)))) → St → Option (denR (.one (.int .i64))) := fun rec => exec cfg call n 20 (cat B20 [1, 1, 1, 0, 1, 0, 0]) (kLoop rec (lk2 20 9 cfg.keep) (kBlock 2 (kSq (exec cfg call n 20 (cat B20 [1, 1, 1, 1])) (kret cfg Go.Proofs.Tryd.f20 (.one (.int .i64))))))
theorem ref06_May_l9_eq (call : Call0) (n : Nat)  : ∀ (m : Nat) (t0 : den (LKey)) (t1 : den (LChange)) (t6 : den (.int .i64)), loopN (ref06_May_F9 call n ) m (ref06_May_sh9 t0 t1 t6) = ref06_May_l9 (fun (a0 : den (LChange)) => call.p 24 [.s (.val (LChange) a0)] (.one (.bool))) (fun (a0 : den (TValue)) => call.p 55 [.s (.val (TValue) a0)] (.one (.bool))) (fun (a0 : den (LKey)) (a1 : den (.int .i64)) => call.p 56 [.s (.val (LKey) a0), .s (.val (.int .i64) a1)] (.two (TKey) (.bool))) (fun (a0 : den (LKey)) (a1 : den (.int .i64)) (a2 : den (TValue)) => call.p 57 [.s (.val (LKey) a0), .s (.val (.int .i64) a1), .s (.val (TValue) a2)] (.one (.bool))) n  m t0 t1 t6 := by
  intro m
  induction m with
  | zero => intros; rfl
  | succ m ih =>
    intro t0 t1 t6
    have h : loopN (ref06_May_F9 call n ) (m + 1) (ref06_May_sh9 t0 t1 t6) = ref06_May_s9 (fun (a0 : den (LChange)) => call.p 24 [.s (.val (LChange) a0)] (.one (.bool))) (fun (a0 : den (TValue)) => call.p 55 [.s (.val (TValue) a0)] (.one (.bool))) (fun (a0 : den (LKey)) (a1 : den (.int .i64)) => call.p 56 [.s (.val (LKey) a0), .s (.val (.int .i64) a1)] (.two (TKey) (.bool))) (fun (a0 : den (LKey)) (a1 : den (.int .i64)) (a2 : den (TValue)) => call.p 57 [.s (.val (LKey) a0), .s (.val (.int .i64) a1), .s (.val (TValue) a2)] (.one (.bool)))   (fun (t0 : den (LKey)) (t1 : den (LChange)) (t6 : den (.int .i64)) => loopN (ref06_May_F9 call n ) m (ref06_May_sh9 t0 t1 t6)) t0 t1 t6 := by kernel_rfl
    have e0 : (fun (t0 : den (LKey)) (t1 : den (LChange)) (t6 : den (.int .i64)) => loopN (ref06_May_F9 call n ) m (ref06_May_sh9 t0 t1 t6)) = (fun (t0 : den (LKey)) (t1 : den (LChange)) (t6 : den (.int .i64)) => ref06_May_l9 (fun (a0 : den (LChange)) => call.p 24 [.s (.val (LChange) a0)] (.one (.bool))) (fun (a0 : den (TValue)) => call.p 55 [.s (.val (TValue) a0)] (.one (.bool))) (fun (a0 : den (LKey)) (a1 : den (.int .i64)) => call.p 56 [.s (.val (LKey) a0), .s (.val (.int .i64) a1)] (.two (TKey) (.bool))) (fun (a0 : den (LKey)) (a1 : den (.int .i64)) (a2 : den (TValue)) => call.p 57 [.s (.val (LKey) a0), .s (.val (.int .i64) a1), .s (.val (TValue) a2)] (.one (.bool))) n  m t0 t1 t6) := by funext t0 t1 t6; exact ih t0 t1 t6
    rw [h, e0]; rfl
noncomputable def ref06_May_s4 (C_ref06_Rising : den (LChange) → Option (denR (.one (.bool)))) (C_ref03_May : den (TValue) → Option (denR (.one (.bool)))) (C_ref04_Find : den (LKey) → den (.int .i64) → Option (denR (.two (TKey) (.bool)))) (C_ref04_Fits : den (LKey) → den (.int .i64) → den (TValue) → Option (denR (.one (.bool)))) (LL9 : den (LKey) → den (LChange) → den (.int .i64) → Option (denR (.one (.int .i64))))  (LS4 : den (LKey) → den (LChange) → den (.int .i64) → Option (denR (.one (.int .i64)))) (t0 : den (LKey)) (t1 : den (LChange)) (t5 : den (.int .i64)) : Option (denR (.one (.int .i64))) := (bif (decide (t5 < (t1.length : Int))) then (bif decide (0 ≤ t5) && decide (t5 < (t1.length : Int)) then (bif ((t1.getD (Int.toNat t5) (dflt (TChange))).2).1 then (bif decide (0 ≤ t5) && decide (t5 < (t1.length : Int)) then (bif (!eqT (TValue) ((((t1.getD (Int.toNat t5) (dflt (TChange))).2).2).1) ((0 : Int), ((0 : Int), ((0 : Int), ((⟨#[]⟩ : ByteArray), ()))))) then some (3 : Int) else (bif decide (0 ≤ t5) && decide (t5 < (t1.length : Int)) then (bif (!((t1.getD (Int.toNat t5) (dflt (TChange))).2).1) then (bif decide (0 ≤ t5) && decide (t5 < (t1.length : Int)) then ((C_ref03_May ((((t1.getD (Int.toNat t5) (dflt (TChange))).2).2).1)).bind fun r2 => (bif (!r2) then some (3 : Int) else LS4 t0 t1 (IntKind.wrap .i64 (t5 + (1 : Int))))) else none) else LS4 t0 t1 (IntKind.wrap .i64 (t5 + (1 : Int)))) else none)) else none) else (bif decide (0 ≤ t5) && decide (t5 < (t1.length : Int)) then (bif (!((t1.getD (Int.toNat t5) (dflt (TChange))).2).1) then (bif decide (0 ≤ t5) && decide (t5 < (t1.length : Int)) then ((C_ref03_May ((((t1.getD (Int.toNat t5) (dflt (TChange))).2).2).1)).bind fun r3 => (bif (!r3) then some (3 : Int) else LS4 t0 t1 (IntKind.wrap .i64 (t5 + (1 : Int))))) else none) else LS4 t0 t1 (IntKind.wrap .i64 (t5 + (1 : Int)))) else none)) else none) else LL9 t0 t1 (0 : Int))
noncomputable def ref06_May_l4 (C_ref06_Rising : den (LChange) → Option (denR (.one (.bool)))) (C_ref03_May : den (TValue) → Option (denR (.one (.bool)))) (C_ref04_Find : den (LKey) → den (.int .i64) → Option (denR (.two (TKey) (.bool)))) (C_ref04_Fits : den (LKey) → den (.int .i64) → den (TValue) → Option (denR (.one (.bool)))) (n : Nat)  : Nat → den (LKey) → den (LChange) → den (.int .i64) → Option (denR (.one (.int .i64)))
  | 0, _, _, _ => none
  | m + 1, t0, t1, t5 => ref06_May_s4 C_ref06_Rising C_ref03_May C_ref04_Find C_ref04_Fits (ref06_May_l9 C_ref06_Rising C_ref03_May C_ref04_Find C_ref04_Fits n  n)  (fun (t0 : den (LKey)) (t1 : den (LChange)) (t5 : den (.int .i64)) => ref06_May_l4 C_ref06_Rising C_ref03_May C_ref04_Find C_ref04_Fits n  m t0 t1 t5) t0 t1 t5
noncomputable def ref06_May_g4 (C_ref06_Rising : den (LChange) → Option (denR (.one (.bool)))) (C_ref03_May : den (TValue) → Option (denR (.one (.bool)))) (C_ref04_Find : den (LKey) → den (.int .i64) → Option (denR (.two (TKey) (.bool)))) (C_ref04_Fits : den (LKey) → den (.int .i64) → den (TValue) → Option (denR (.one (.bool)))) (LL9 : den (LKey) → den (LChange) → den (.int .i64) → Option (denR (.one (.int .i64))))  : List (den (TChange)) → den (LKey) → den (LChange) → Option (denR (.one (.int .i64)))
  | [], t0, t1 => LL9 t0 t1 (0 : Int)
  | x :: r, t0, t1 => (bif x.2.1 then (bif (!eqT (TValue) x.2.2.1 ((0 : Int), ((0 : Int), ((0 : Int), ((⟨#[]⟩ : ByteArray), ()))))) then some (3 : Int) else (bif (!x.2.1) then ((C_ref03_May x.2.2.1).bind fun r6 => (bif (!r6) then some (3 : Int) else ref06_May_g4 C_ref06_Rising C_ref03_May C_ref04_Find C_ref04_Fits LL9  r t0 t1)) else ref06_May_g4 C_ref06_Rising C_ref03_May C_ref04_Find C_ref04_Fits LL9  r t0 t1)) else (bif (!x.2.1) then ((C_ref03_May x.2.2.1).bind fun r7 => (bif (!r7) then some (3 : Int) else ref06_May_g4 C_ref06_Rising C_ref03_May C_ref04_Find C_ref04_Fits LL9  r t0 t1)) else ref06_May_g4 C_ref06_Rising C_ref03_May C_ref04_Find C_ref04_Fits LL9  r t0 t1))
theorem ref06_May_l4_list (C_ref06_Rising : den (LChange) → Option (denR (.one (.bool)))) (C_ref03_May : den (TValue) → Option (denR (.one (.bool)))) (C_ref04_Find : den (LKey) → den (.int .i64) → Option (denR (.two (TKey) (.bool)))) (C_ref04_Fits : den (LKey) → den (.int .i64) → den (TValue) → Option (denR (.one (.bool)))) (n : Nat)  : ∀ (m i : Nat) (t0 : den (LKey)) (t1 : den (LChange)), t1.length - i < m → i ≤ t1.length → t1.length < 4611686018427387904 → ref06_May_l4 C_ref06_Rising C_ref03_May C_ref04_Find C_ref04_Fits n  m t0 t1 (i : Int) = ref06_May_g4 C_ref06_Rising C_ref03_May C_ref04_Find C_ref04_Fits (ref06_May_l9 C_ref06_Rising C_ref03_May C_ref04_Find C_ref04_Fits n  n)  (t1.drop i) t0 t1 := by
  intro m
  induction m with
  | zero => intro i t0 t1 h1; omega
  | succ m ih =>
    intro i t0 t1 h1 h2 h3
    show ref06_May_s4 C_ref06_Rising C_ref03_May C_ref04_Find C_ref04_Fits (ref06_May_l9 C_ref06_Rising C_ref03_May C_ref04_Find C_ref04_Fits n  n)  (fun (t0 : den (LKey)) (t1 : den (LChange)) (t5 : den (.int .i64)) => ref06_May_l4 C_ref06_Rising C_ref03_May C_ref04_Find C_ref04_Fits n  m t0 t1 t5) t0 t1 (i : Int) = _
    unfold ref06_May_s4
    have b0 : decide ((0 : Int) ≤ (i : Int)) = true := decide_eq_true (by omega)
    rcases Nat.lt_or_ge i t1.length with hi | hi
    · have b1 : decide ((i : Int) < (t1.length : Int)) = true := decide_eq_true (by omega)
      have bw : IntKind.i64.wrap ((i : Int) + (1 : Int)) = ((i + 1 : Nat) : Int) := w64s (by omega)
      have ih' : ∀ (t0 : den (LKey)), ref06_May_l4 C_ref06_Rising C_ref03_May C_ref04_Find C_ref04_Fits n  m t0 t1 ((i + 1 : Nat) : Int) = ref06_May_g4 C_ref06_Rising C_ref03_May C_ref04_Find C_ref04_Fits (ref06_May_l9 C_ref06_Rising C_ref03_May C_ref04_Find C_ref04_Fits n  n)  (t1.drop (i + 1)) t0 t1 := fun t0 => ih (i + 1) t0 t1 (by omega) (by omega) h3
      simp only [b0, b1, bw, Bool.and_true, Bool.true_and, cond_true, Int.toNat_natCast, ih']
      rw [drop_getD hi (dflt (TChange))]
      rfl
    · have b1 : decide ((i : Int) < (t1.length : Int)) = false := decide_eq_false (by omega)
      simp only [b1, cond_false]
      rw [List.drop_eq_nil_of_le hi]
      rfl
noncomputable def ref06_May_F4 (call : Call0) (n : Nat)  : (St → Option (denR (.one (.int .i64)))) → St → Option (denR (.one (.int .i64))) := fun rec => exec cfg call n 20 (cat B20 [1, 1, 0, 1, 0, 0]) (kLoop rec (lk2 20 4 cfg.keep) (kBlock 0 (kSq (exec cfg call n 20 (cat B20 [1, 1, 1])) (kret cfg Go.Proofs.Tryd.f20 (.one (.int .i64))))))
theorem ref06_May_l4_eq (call : Call0) (n : Nat)  : ∀ (m : Nat) (t0 : den (LKey)) (t1 : den (LChange)) (t5 : den (.int .i64)), loopN (ref06_May_F4 call n ) m (ref06_May_sh4 t0 t1 t5) = ref06_May_l4 (fun (a0 : den (LChange)) => call.p 24 [.s (.val (LChange) a0)] (.one (.bool))) (fun (a0 : den (TValue)) => call.p 55 [.s (.val (TValue) a0)] (.one (.bool))) (fun (a0 : den (LKey)) (a1 : den (.int .i64)) => call.p 56 [.s (.val (LKey) a0), .s (.val (.int .i64) a1)] (.two (TKey) (.bool))) (fun (a0 : den (LKey)) (a1 : den (.int .i64)) (a2 : den (TValue)) => call.p 57 [.s (.val (LKey) a0), .s (.val (.int .i64) a1), .s (.val (TValue) a2)] (.one (.bool))) n  m t0 t1 t5 := by
  intro m
  induction m with
  | zero => intros; rfl
  | succ m ih =>
    intro t0 t1 t5
    have h : loopN (ref06_May_F4 call n ) (m + 1) (ref06_May_sh4 t0 t1 t5) = ref06_May_s4 (fun (a0 : den (LChange)) => call.p 24 [.s (.val (LChange) a0)] (.one (.bool))) (fun (a0 : den (TValue)) => call.p 55 [.s (.val (TValue) a0)] (.one (.bool))) (fun (a0 : den (LKey)) (a1 : den (.int .i64)) => call.p 56 [.s (.val (LKey) a0), .s (.val (.int .i64) a1)] (.two (TKey) (.bool))) (fun (a0 : den (LKey)) (a1 : den (.int .i64)) (a2 : den (TValue)) => call.p 57 [.s (.val (LKey) a0), .s (.val (.int .i64) a1), .s (.val (TValue) a2)] (.one (.bool))) (fun (t0 : den (LKey)) (t1 : den (LChange)) (t6 : den (.int .i64)) => loopN (ref06_May_F9 call n ) n (ref06_May_sh9 t0 t1 t6))  (fun (t0 : den (LKey)) (t1 : den (LChange)) (t5 : den (.int .i64)) => loopN (ref06_May_F4 call n ) m (ref06_May_sh4 t0 t1 t5)) t0 t1 t5 := by kernel_rfl
    have e9 : (fun (t0 : den (LKey)) (t1 : den (LChange)) (t6 : den (.int .i64)) => loopN (ref06_May_F9 call n ) n (ref06_May_sh9 t0 t1 t6)) = ref06_May_l9 (fun (a0 : den (LChange)) => call.p 24 [.s (.val (LChange) a0)] (.one (.bool))) (fun (a0 : den (TValue)) => call.p 55 [.s (.val (TValue) a0)] (.one (.bool))) (fun (a0 : den (LKey)) (a1 : den (.int .i64)) => call.p 56 [.s (.val (LKey) a0), .s (.val (.int .i64) a1)] (.two (TKey) (.bool))) (fun (a0 : den (LKey)) (a1 : den (.int .i64)) (a2 : den (TValue)) => call.p 57 [.s (.val (LKey) a0), .s (.val (.int .i64) a1), .s (.val (TValue) a2)] (.one (.bool))) n  n := by funext t0 t1 t6; exact ref06_May_l9_eq call n  n t0 t1 t6
    have e0 : (fun (t0 : den (LKey)) (t1 : den (LChange)) (t5 : den (.int .i64)) => loopN (ref06_May_F4 call n ) m (ref06_May_sh4 t0 t1 t5)) = (fun (t0 : den (LKey)) (t1 : den (LChange)) (t5 : den (.int .i64)) => ref06_May_l4 (fun (a0 : den (LChange)) => call.p 24 [.s (.val (LChange) a0)] (.one (.bool))) (fun (a0 : den (TValue)) => call.p 55 [.s (.val (TValue) a0)] (.one (.bool))) (fun (a0 : den (LKey)) (a1 : den (.int .i64)) => call.p 56 [.s (.val (LKey) a0), .s (.val (.int .i64) a1)] (.two (TKey) (.bool))) (fun (a0 : den (LKey)) (a1 : den (.int .i64)) (a2 : den (TValue)) => call.p 57 [.s (.val (LKey) a0), .s (.val (.int .i64) a1), .s (.val (TValue) a2)] (.one (.bool))) n  m t0 t1 t5) := by funext t0 t1 t5; exact ih t0 t1 t5
    rw [h, e9, e0]; rfl
noncomputable def ref06_May_top (C_ref06_Rising : den (LChange) → Option (denR (.one (.bool)))) (C_ref03_May : den (TValue) → Option (denR (.one (.bool)))) (C_ref04_Find : den (LKey) → den (.int .i64) → Option (denR (.two (TKey) (.bool)))) (C_ref04_Fits : den (LKey) → den (.int .i64) → den (TValue) → Option (denR (.one (.bool)))) (LL4 : den (LKey) → den (LChange) → den (.int .i64) → Option (denR (.one (.int .i64)))) (a0 : den (LKey)) (a1 : den (LChange)) : Option (denR (.one (.int .i64))) := ((C_ref06_Rising a1).bind fun r1 => (bif (!r1) then some (3 : Int) else (bif (decide ((64 : Int) < (a1.length : Int))) then some (3 : Int) else LL4 a0 a1 (0 : Int))))
noncomputable def ref06_May : Nat → den (LKey) → den (LChange) → Option (denR (.one (.int .i64)))
  | 0, _, _ => none
  | n + 1, a0, a1 => ref06_May_top (ref06_Rising n) (ref03_May n) (ref04_Find n) (ref04_Fits n) (ref06_May_l4 (ref06_Rising n) (ref03_May n) (ref04_Find n) (ref04_Fits n) n n) a0 a1
theorem ref06_May_eq (n : Nat) (a0 : den (LKey)) (a1 : den (LChange)) : (acalls cfg intr intrI n).p 20 [.s (.val (LKey) a0), .s (.val (LChange) a1)] (.one (.int .i64)) = ref06_May n a0 a1 := by
  cases n with
  | zero => rfl
  | succ n =>
    have h : (acalls cfg intr intrI (n + 1)).p 20 [.s (.val (LKey) a0), .s (.val (LChange) a1)] (.one (.int .i64)) = ref06_May_top (fun (a0 : den (LChange)) => (acalls cfg intr intrI n).p 24 [.s (.val (LChange) a0)] (.one (.bool))) (fun (a0 : den (TValue)) => (acalls cfg intr intrI n).p 55 [.s (.val (TValue) a0)] (.one (.bool))) (fun (a0 : den (LKey)) (a1 : den (.int .i64)) => (acalls cfg intr intrI n).p 56 [.s (.val (LKey) a0), .s (.val (.int .i64) a1)] (.two (TKey) (.bool))) (fun (a0 : den (LKey)) (a1 : den (.int .i64)) (a2 : den (TValue)) => (acalls cfg intr intrI n).p 57 [.s (.val (LKey) a0), .s (.val (.int .i64) a1), .s (.val (TValue) a2)] (.one (.bool))) (fun (t0 : den (LKey)) (t1 : den (LChange)) (t5 : den (.int .i64)) => loopN (ref06_May_F4 (acalls cfg intr intrI n) n) n (ref06_May_sh4 t0 t1 t5)) a0 a1 := by kernel_rfl
    have e4 : (fun (t0 : den (LKey)) (t1 : den (LChange)) (t5 : den (.int .i64)) => loopN (ref06_May_F4 (acalls cfg intr intrI n) n) n (ref06_May_sh4 t0 t1 t5)) = ref06_May_l4 (fun (a0 : den (LChange)) => (acalls cfg intr intrI n).p 24 [.s (.val (LChange) a0)] (.one (.bool))) (fun (a0 : den (TValue)) => (acalls cfg intr intrI n).p 55 [.s (.val (TValue) a0)] (.one (.bool))) (fun (a0 : den (LKey)) (a1 : den (.int .i64)) => (acalls cfg intr intrI n).p 56 [.s (.val (LKey) a0), .s (.val (.int .i64) a1)] (.two (TKey) (.bool))) (fun (a0 : den (LKey)) (a1 : den (.int .i64)) (a2 : den (TValue)) => (acalls cfg intr intrI n).p 57 [.s (.val (LKey) a0), .s (.val (.int .i64) a1), .s (.val (TValue) a2)] (.one (.bool))) n n := by funext t0 t1 t5; exact ref06_May_l4_eq (acalls cfg intr intrI n) n n t0 t1 t5
    have c_ref06_Rising : (fun (a0 : den (LChange)) => (acalls cfg intr intrI n).p 24 [.s (.val (LChange) a0)] (.one (.bool))) = ref06_Rising n := by funext a0; exact ref06_Rising_eq n a0
    have c_ref03_May : (fun (a0 : den (TValue)) => (acalls cfg intr intrI n).p 55 [.s (.val (TValue) a0)] (.one (.bool))) = ref03_May n := by funext a0; exact ref03_May_eq n a0
    have c_ref04_Find : (fun (a0 : den (LKey)) (a1 : den (.int .i64)) => (acalls cfg intr intrI n).p 56 [.s (.val (LKey) a0), .s (.val (.int .i64) a1)] (.two (TKey) (.bool))) = ref04_Find n := by funext a0 a1; exact ref04_Find_eq n a0 a1
    have c_ref04_Fits : (fun (a0 : den (LKey)) (a1 : den (.int .i64)) (a2 : den (TValue)) => (acalls cfg intr intrI n).p 57 [.s (.val (LKey) a0), .s (.val (.int .i64) a1), .s (.val (TValue) a2)] (.one (.bool))) = ref04_Fits n := by funext a0 a1 a2; exact ref04_Fits_eq n a0 a1 a2
    rw [h, e4, c_ref06_Rising, c_ref03_May, c_ref04_Find, c_ref04_Fits]; rfl

noncomputable def B22 : Code := (Go.Proofs.Tryd.f22.body).getD .skip
noncomputable def ref06_Same_sh4 (pt0 : den (LChange)) (qt1 : den (LChange)) (it5 : den (.int .i64)) : St := ⟨[.s (.val (LChange) pt0), .s (.val (LChange) qt1), U, U, U, .s (.val (.int .i64) it5), U, U, U, U, U, U, U, U, U, U, U, U, U, U, U, U, U, U, U, U], []⟩
noncomputable def ref06_Same_s4    (LS4 : den (LChange) → den (LChange) → den (.int .i64) → Option (denR (.one (.bool)))) (pt0 : den (LChange)) (qt1 : den (LChange)) (it5 : den (.int .i64)) : Option (denR (.one (.bool))) := (bif (decide (it5 < (pt0.length : Int))) then (bif decide (0 ≤ it5) && decide (it5 < (pt0.length : Int)) then (bif decide (0 ≤ it5) && decide (it5 < (qt1.length : Int)) then (bif (!eqT (TChange) (pt0.getD (Int.toNat it5) (dflt (TChange))) (qt1.getD (Int.toNat it5) (dflt (TChange)))) then some false else LS4 pt0 qt1 (IntKind.wrap .i64 (it5 + (1 : Int)))) else none) else none) else some true)
noncomputable def ref06_Same_l4  (n : Nat)  : Nat → den (LChange) → den (LChange) → den (.int .i64) → Option (denR (.one (.bool)))
  | 0, _, _, _ => none
  | m + 1, pt0, qt1, it5 => ref06_Same_s4    (fun (pt0 : den (LChange)) (qt1 : den (LChange)) (it5 : den (.int .i64)) => ref06_Same_l4  n  m pt0 qt1 it5) pt0 qt1 it5
noncomputable def ref06_Same_g4    : List (den (TChange)) → den (LChange) → den (.int .i64) → Option (denR (.one (.bool)))
  | [], qt1, it5 => some true
  | x :: r, qt1, it5 => (bif decide (0 ≤ it5) && decide (it5 < (qt1.length : Int)) then (bif (!eqT (TChange) x (qt1.getD (Int.toNat it5) (dflt (TChange)))) then some false else ref06_Same_g4    r qt1 (it5 + (1 : Int))) else none)
theorem ref06_Same_l4_list  (n : Nat)  : ∀ (m i : Nat) (pt0 : den (LChange)) (qt1 : den (LChange)), pt0.length - i < m → i ≤ pt0.length → pt0.length < 4611686018427387904 → ref06_Same_l4  n  m pt0 qt1 (i : Int) = ref06_Same_g4    (pt0.drop i) qt1 (i : Int) := by
  intro m
  induction m with
  | zero => intro i pt0 qt1 h1; omega
  | succ m ih =>
    intro i pt0 qt1 h1 h2 h3
    show ref06_Same_s4    (fun (pt0 : den (LChange)) (qt1 : den (LChange)) (it5 : den (.int .i64)) => ref06_Same_l4  n  m pt0 qt1 it5) pt0 qt1 (i : Int) = _
    unfold ref06_Same_s4
    have b0 : decide ((0 : Int) ≤ (i : Int)) = true := decide_eq_true (by omega)
    rcases Nat.lt_or_ge i pt0.length with hi | hi
    · have b1 : decide ((i : Int) < (pt0.length : Int)) = true := decide_eq_true (by omega)
      have bw : IntKind.i64.wrap ((i : Int) + (1 : Int)) = ((i + 1 : Nat) : Int) := w64s (by omega)
      have ih' : ∀ (qt1 : den (LChange)), ref06_Same_l4  n  m pt0 qt1 ((i + 1 : Nat) : Int) = ref06_Same_g4    (pt0.drop (i + 1)) qt1 ((i + 1 : Nat) : Int) := fun qt1 => ih (i + 1) pt0 qt1 (by omega) (by omega) h3
      simp only [b0, b1, bw, Bool.and_true, Bool.true_and, cond_true, Int.toNat_natCast, ih']
      rw [drop_getD hi (dflt (TChange))]
      rfl
    · have b1 : decide ((i : Int) < (pt0.length : Int)) = false := decide_eq_false (by omega)
      simp only [b1, cond_false]
      rw [List.drop_eq_nil_of_le hi]
      rfl
noncomputable def ref06_Same_F4 (call : Call0) (n : Nat)  : (St → Option (denR (.one (.bool)))) → St → Option (denR (.one (.bool))) := fun rec => exec cfg call n 22 (cat B22 [1, 1, 0, 1, 0, 0]) (kLoop rec (lk2 22 4 cfg.keep) (kBlock 0 (kSq (exec cfg call n 22 (cat B22 [1, 1, 1])) (kret cfg Go.Proofs.Tryd.f22 (.one (.bool))))))
theorem ref06_Same_l4_eq (call : Call0) (n : Nat)  : ∀ (m : Nat) (pt0 : den (LChange)) (qt1 : den (LChange)) (it5 : den (.int .i64)), loopN (ref06_Same_F4 call n ) m (ref06_Same_sh4 pt0 qt1 it5) = ref06_Same_l4  n  m pt0 qt1 it5 := by
  intro m
  induction m with
  | zero => intros; rfl
  | succ m ih =>
    intro pt0 qt1 it5
    have h : loopN (ref06_Same_F4 call n ) (m + 1) (ref06_Same_sh4 pt0 qt1 it5) = ref06_Same_s4    (fun (pt0 : den (LChange)) (qt1 : den (LChange)) (it5 : den (.int .i64)) => loopN (ref06_Same_F4 call n ) m (ref06_Same_sh4 pt0 qt1 it5)) pt0 qt1 it5 := by kernel_rfl
    have e0 : (fun (pt0 : den (LChange)) (qt1 : den (LChange)) (it5 : den (.int .i64)) => loopN (ref06_Same_F4 call n ) m (ref06_Same_sh4 pt0 qt1 it5)) = (fun (pt0 : den (LChange)) (qt1 : den (LChange)) (it5 : den (.int .i64)) => ref06_Same_l4  n  m pt0 qt1 it5) := by funext pt0 qt1 it5; exact ih pt0 qt1 it5
    rw [h, e0]; rfl
noncomputable def ref06_Same_top  (LL4 : den (LChange) → den (LChange) → den (.int .i64) → Option (denR (.one (.bool)))) (a0 : den (LChange)) (a1 : den (LChange)) : Option (denR (.one (.bool))) := (bif ((!decide ((a0.length : Int) = (a1.length : Int)))) then some false else LL4 a0 a1 (0 : Int))
noncomputable def ref06_Same : Nat → den (LChange) → den (LChange) → Option (denR (.one (.bool)))
  | 0, _, _ => none
  | n + 1, a0, a1 => ref06_Same_top  (ref06_Same_l4  n n) a0 a1
theorem ref06_Same_eq (n : Nat) (a0 : den (LChange)) (a1 : den (LChange)) : (acalls cfg intr intrI n).p 22 [.s (.val (LChange) a0), .s (.val (LChange) a1)] (.one (.bool)) = ref06_Same n a0 a1 := by
  cases n with
  | zero => rfl
  | succ n =>
    have h : (acalls cfg intr intrI (n + 1)).p 22 [.s (.val (LChange) a0), .s (.val (LChange) a1)] (.one (.bool)) = ref06_Same_top  (fun (pt0 : den (LChange)) (qt1 : den (LChange)) (it5 : den (.int .i64)) => loopN (ref06_Same_F4 (acalls cfg intr intrI n) n) n (ref06_Same_sh4 pt0 qt1 it5)) a0 a1 := by kernel_rfl
    have e4 : (fun (pt0 : den (LChange)) (qt1 : den (LChange)) (it5 : den (.int .i64)) => loopN (ref06_Same_F4 (acalls cfg intr intrI n) n) n (ref06_Same_sh4 pt0 qt1 it5)) = ref06_Same_l4  n n := by funext pt0 qt1 it5; exact ref06_Same_l4_eq (acalls cfg intr intrI n) n n pt0 qt1 it5
    rw [h, e4]; rfl

noncomputable def patch_Copy_top (C_slices_Clone_Change : den (LChange) → Option (denS (⟨.row 40 (TChange), []⟩ : Sig)))  (a0 : den (LChange)) : Option (denR (.one (LChange))) := ((C_slices_Clone_Change a0).bind fun r1 => some r1.1)
noncomputable def patch_Copy : Nat → den (LChange) → Option (denR (.one (LChange)))
  | 0, _ => none
  | n + 1, a0 => patch_Copy_top (slices_Clone_Change n)  a0
theorem patch_Copy_eq (n : Nat) (a0 : den (LChange)) : (acalls cfg intr intrI n).p 23 [.s (.val (LChange) a0)] (.one (LChange)) = patch_Copy n a0 := by
  cases n with
  | zero => rfl
  | succ n =>
    have h : (acalls cfg intr intrI (n + 1)).p 23 [.s (.val (LChange) a0)] (.one (LChange)) = patch_Copy_top (fun (a0 : den (LChange)) => (acalls cfg intr intrI n).i 53 [.s (.val (LChange) a0)] [] (⟨.row 40 (TChange), []⟩ : Sig))  a0 := by kernel_rfl
    have c_slices_Clone_Change : (fun (a0 : den (LChange)) => (acalls cfg intr intrI n).i 53 [.s (.val (LChange) a0)] [] (⟨.row 40 (TChange), []⟩ : Sig)) = slices_Clone_Change n := by funext a0; exact slices_Clone_Change_eq n a0
    rw [h, c_slices_Clone_Change]; rfl

noncomputable def B25 : Code := (Go.Proofs.Tryd.f25.body).getD .skip
noncomputable def ref06_Part_sh3 (keyst0 : den (LKey)) (pt1 : den (LChange)) (blockt2 : den (.bool)) (it8 : den (.int .i64)) (outo7 : den (LChange)) : St := ⟨[.s (.val (LKey) keyst0), .s (.val (LChange) pt1), .s (.val (.bool) blockt2), U, U, U, U, .s (.arr 7), .s (.val (.int .i64) it8), U, U, U, U, U, U, U, U, U, U, U, U, U, U, U, U, U, U, U, U, U, U, U, U, U, U, U, U, U, U, U, U, U], [(7, .arr 40 (TChange) outo7)]⟩
noncomputable def ref06_Part_s3 (C_ref04_Find : den (LKey) → den (.int .i64) → Option (denR (.two (TKey) (.bool))))   (LS3 : den (LKey) → den (LChange) → den (.bool) → den (.int .i64) → den (LChange) → Option (denR (.one (LChange)))) (keyst0 : den (LKey)) (pt1 : den (LChange)) (blockt2 : den (.bool)) (it8 : den (.int .i64)) (outo7 : den (LChange)) : Option (denR (.one (LChange))) := (bif (decide (it8 < (pt1.length : Int))) then (bif decide (0 ≤ it8) && decide (it8 < (pt1.length : Int)) then ((C_ref04_Find keyst0 ((pt1.getD (Int.toNat it8) (dflt (TChange))).1)).bind fun r1 => (bif r1.2 then (bif (eqT (.bool) r1.1.2.1 blockt2) then (bif decide (0 ≤ it8) && decide (it8 < (pt1.length : Int)) then (bif decide ((outo7.length + ([(pt1.getD (Int.toNat it8) (dflt (TChange)))] : List (den (TChange))).length) * 56 ≤ 140737488355328) then LS3 keyst0 pt1 blockt2 (IntKind.wrap .i64 (it8 + (1 : Int))) (outo7 ++ ([(pt1.getD (Int.toNat it8) (dflt (TChange)))] : List (den (TChange)))) else none) else none) else LS3 keyst0 pt1 blockt2 (IntKind.wrap .i64 (it8 + (1 : Int))) outo7) else LS3 keyst0 pt1 blockt2 (IntKind.wrap .i64 (it8 + (1 : Int))) outo7)) else none) else some outo7)
noncomputable def ref06_Part_l3 (C_ref04_Find : den (LKey) → den (.int .i64) → Option (denR (.two (TKey) (.bool)))) (n : Nat)  : Nat → den (LKey) → den (LChange) → den (.bool) → den (.int .i64) → den (LChange) → Option (denR (.one (LChange)))
  | 0, _, _, _, _, _ => none
  | m + 1, keyst0, pt1, blockt2, it8, outo7 => ref06_Part_s3 C_ref04_Find   (fun (keyst0 : den (LKey)) (pt1 : den (LChange)) (blockt2 : den (.bool)) (it8 : den (.int .i64)) (outo7 : den (LChange)) => ref06_Part_l3 C_ref04_Find n  m keyst0 pt1 blockt2 it8 outo7) keyst0 pt1 blockt2 it8 outo7
noncomputable def ref06_Part_g3 (C_ref04_Find : den (LKey) → den (.int .i64) → Option (denR (.two (TKey) (.bool))))   : List (den (TChange)) → den (LKey) → den (.bool) → den (LChange) → Option (denR (.one (LChange)))
  | [], keyst0, blockt2, outo7 => some outo7
  | x :: r, keyst0, blockt2, outo7 => ((C_ref04_Find keyst0 x.1).bind fun r2 => (bif r2.2 then (bif (eqT (.bool) r2.1.2.1 blockt2) then (bif decide ((outo7.length + ([x] : List (den (TChange))).length) * 56 ≤ 140737488355328) then ref06_Part_g3 C_ref04_Find   r keyst0 blockt2 (outo7 ++ ([x] : List (den (TChange)))) else none) else ref06_Part_g3 C_ref04_Find   r keyst0 blockt2 outo7) else ref06_Part_g3 C_ref04_Find   r keyst0 blockt2 outo7))
theorem ref06_Part_l3_list (C_ref04_Find : den (LKey) → den (.int .i64) → Option (denR (.two (TKey) (.bool)))) (n : Nat)  : ∀ (m i : Nat) (keyst0 : den (LKey)) (pt1 : den (LChange)) (blockt2 : den (.bool)) (outo7 : den (LChange)), pt1.length - i < m → i ≤ pt1.length → pt1.length < 4611686018427387904 → ref06_Part_l3 C_ref04_Find n  m keyst0 pt1 blockt2 (i : Int) outo7 = ref06_Part_g3 C_ref04_Find   (pt1.drop i) keyst0 blockt2 outo7 := by
  intro m
  induction m with
  | zero => intro i keyst0 pt1 blockt2 outo7 h1; omega
  | succ m ih =>
    intro i keyst0 pt1 blockt2 outo7 h1 h2 h3
    show ref06_Part_s3 C_ref04_Find   (fun (keyst0 : den (LKey)) (pt1 : den (LChange)) (blockt2 : den (.bool)) (it8 : den (.int .i64)) (outo7 : den (LChange)) => ref06_Part_l3 C_ref04_Find n  m keyst0 pt1 blockt2 it8 outo7) keyst0 pt1 blockt2 (i : Int) outo7 = _
    unfold ref06_Part_s3
    have b0 : decide ((0 : Int) ≤ (i : Int)) = true := decide_eq_true (by omega)
    rcases Nat.lt_or_ge i pt1.length with hi | hi
    · have b1 : decide ((i : Int) < (pt1.length : Int)) = true := decide_eq_true (by omega)
      have bw : IntKind.i64.wrap ((i : Int) + (1 : Int)) = ((i + 1 : Nat) : Int) := w64s (by omega)
      have ih' : ∀ (keyst0 : den (LKey)) (blockt2 : den (.bool)) (outo7 : den (LChange)), ref06_Part_l3 C_ref04_Find n  m keyst0 pt1 blockt2 ((i + 1 : Nat) : Int) outo7 = ref06_Part_g3 C_ref04_Find   (pt1.drop (i + 1)) keyst0 blockt2 outo7 := fun keyst0 blockt2 outo7 => ih (i + 1) keyst0 pt1 blockt2 outo7 (by omega) (by omega) h3
      simp only [b0, b1, bw, Bool.and_true, Bool.true_and, cond_true, Int.toNat_natCast, ih']
      rw [drop_getD hi (dflt (TChange))]
      rfl
    · have b1 : decide ((i : Int) < (pt1.length : Int)) = false := decide_eq_false (by omega)
      simp only [b1, cond_false]
      rw [List.drop_eq_nil_of_le hi]
      rfl
noncomputable def ref06_Part_F3 (call : Call0) (n : Nat)  : (St → Option (denR (.one (LChange)))) → St → Option (denR (.one (LChange))) := fun rec => exec cfg call n 25 (cat B25 [1, 1, 0, 1, 0, 0]) (kLoop rec (lk2 25 3 cfg.keep) (kBlock 0 (kSq (exec cfg call n 25 (cat B25 [1, 1, 1])) (kret cfg Go.Proofs.Tryd.f25 (.one (LChange))))))
theorem ref06_Part_l3_eq (call : Call0) (n : Nat)  : ∀ (m : Nat) (keyst0 : den (LKey)) (pt1 : den (LChange)) (blockt2 : den (.bool)) (it8 : den (.int .i64)) (outo7 : den (LChange)), loopN (ref06_Part_F3 call n ) m (ref06_Part_sh3 keyst0 pt1 blockt2 it8 outo7) = ref06_Part_l3 (fun (a0 : den (LKey)) (a1 : den (.int .i64)) => call.p 56 [.s (.val (LKey) a0), .s (.val (.int .i64) a1)] (.two (TKey) (.bool))) n  m keyst0 pt1 blockt2 it8 outo7 := by
  intro m
  induction m with
  | zero => intros; rfl
  | succ m ih =>
    intro keyst0 pt1 blockt2 it8 outo7
    have h : loopN (ref06_Part_F3 call n ) (m + 1) (ref06_Part_sh3 keyst0 pt1 blockt2 it8 outo7) = ref06_Part_s3 (fun (a0 : den (LKey)) (a1 : den (.int .i64)) => call.p 56 [.s (.val (LKey) a0), .s (.val (.int .i64) a1)] (.two (TKey) (.bool)))   (fun (keyst0 : den (LKey)) (pt1 : den (LChange)) (blockt2 : den (.bool)) (it8 : den (.int .i64)) (outo7 : den (LChange)) => loopN (ref06_Part_F3 call n ) m (ref06_Part_sh3 keyst0 pt1 blockt2 it8 outo7)) keyst0 pt1 blockt2 it8 outo7 := by kernel_rfl
    have e0 : (fun (keyst0 : den (LKey)) (pt1 : den (LChange)) (blockt2 : den (.bool)) (it8 : den (.int .i64)) (outo7 : den (LChange)) => loopN (ref06_Part_F3 call n ) m (ref06_Part_sh3 keyst0 pt1 blockt2 it8 outo7)) = (fun (keyst0 : den (LKey)) (pt1 : den (LChange)) (blockt2 : den (.bool)) (it8 : den (.int .i64)) (outo7 : den (LChange)) => ref06_Part_l3 (fun (a0 : den (LKey)) (a1 : den (.int .i64)) => call.p 56 [.s (.val (LKey) a0), .s (.val (.int .i64) a1)] (.two (TKey) (.bool))) n  m keyst0 pt1 blockt2 it8 outo7) := by funext keyst0 pt1 blockt2 it8 outo7; exact ih keyst0 pt1 blockt2 it8 outo7
    rw [h, e0]; rfl
noncomputable def ref06_Part_top (C_ref04_Find : den (LKey) → den (.int .i64) → Option (denR (.two (TKey) (.bool)))) (LL3 : den (LKey) → den (LChange) → den (.bool) → den (.int .i64) → den (LChange) → Option (denR (.one (LChange)))) (a0 : den (LKey)) (a1 : den (LChange)) (a2 : den (.bool)) : Option (denR (.one (LChange))) := LL3 a0 a1 a2 (0 : Int) []
noncomputable def ref06_Part : Nat → den (LKey) → den (LChange) → den (.bool) → Option (denR (.one (LChange)))
  | 0, _, _, _ => none
  | n + 1, a0, a1, a2 => ref06_Part_top (ref04_Find n) (ref06_Part_l3 (ref04_Find n) n n) a0 a1 a2
theorem ref06_Part_eq (n : Nat) (a0 : den (LKey)) (a1 : den (LChange)) (a2 : den (.bool)) : (acalls cfg intr intrI n).p 25 [.s (.val (LKey) a0), .s (.val (LChange) a1), .s (.val (.bool) a2)] (.one (LChange)) = ref06_Part n a0 a1 a2 := by
  cases n with
  | zero => rfl
  | succ n =>
    have h : (acalls cfg intr intrI (n + 1)).p 25 [.s (.val (LKey) a0), .s (.val (LChange) a1), .s (.val (.bool) a2)] (.one (LChange)) = ref06_Part_top (fun (a0 : den (LKey)) (a1 : den (.int .i64)) => (acalls cfg intr intrI n).p 56 [.s (.val (LKey) a0), .s (.val (.int .i64) a1)] (.two (TKey) (.bool))) (fun (keyst0 : den (LKey)) (pt1 : den (LChange)) (blockt2 : den (.bool)) (it8 : den (.int .i64)) (outo7 : den (LChange)) => loopN (ref06_Part_F3 (acalls cfg intr intrI n) n) n (ref06_Part_sh3 keyst0 pt1 blockt2 it8 outo7)) a0 a1 a2 := by kernel_rfl
    have e3 : (fun (keyst0 : den (LKey)) (pt1 : den (LChange)) (blockt2 : den (.bool)) (it8 : den (.int .i64)) (outo7 : den (LChange)) => loopN (ref06_Part_F3 (acalls cfg intr intrI n) n) n (ref06_Part_sh3 keyst0 pt1 blockt2 it8 outo7)) = ref06_Part_l3 (fun (a0 : den (LKey)) (a1 : den (.int .i64)) => (acalls cfg intr intrI n).p 56 [.s (.val (LKey) a0), .s (.val (.int .i64) a1)] (.two (TKey) (.bool))) n n := by funext keyst0 pt1 blockt2 it8 outo7; exact ref06_Part_l3_eq (acalls cfg intr intrI n) n n keyst0 pt1 blockt2 it8 outo7
    have c_ref04_Find : (fun (a0 : den (LKey)) (a1 : den (.int .i64)) => (acalls cfg intr intrI n).p 56 [.s (.val (LKey) a0), .s (.val (.int .i64) a1)] (.two (TKey) (.bool))) = ref04_Find n := by funext a0 a1; exact ref04_Find_eq n a0 a1
    rw [h, e3, c_ref04_Find]; rfl

noncomputable def law06_PatchMay_top (C_law06_known : Option (denR (.one (.bool)))) (C_law06_great : den (LChange) → den (LLAttr) → Option (denR (.one (.bool)))) (C_schema_New : den (LKey) → Option (denR (.two (PSchema) (.int .i64)))) (C_ref04_May : den (LKey) → Option (denR (.one (.bool)))) (C_patch_May : den (PSchema) → den (LChange) → Option (denR (.one (.int .i64)))) (C_ref06_May : den (LKey) → den (LChange) → Option (denR (.one (.int .i64)))) (C_patch_Same : den (LChange) → den (LChange) → Option (denR (.one (.bool)))) (C_ref06_Same : den (LChange) → den (LChange) → Option (denR (.one (.bool)))) (C_patch_Copy : den (LChange) → Option (denR (.one (LChange)))) (C_patch_Part : den (PSchema) → den (LChange) → den (.bool) → Option (denR (.one (LChange)))) (C_ref06_Rising : den (LChange) → Option (denR (.one (.bool)))) (C_ref06_Part : den (LKey) → den (LChange) → den (.bool) → Option (denR (.one (LChange))))  (a0 : den (LKey)) (a1 : den (LChange)) (a2 : den (LChange)) : Option (denR (.one (.bool))) := (bif (decide ((64 : Int) < (a0.length : Int))) then ((C_law06_known).bind fun r1 => some r1) else ((C_law06_great a1 ([] : den (LLAttr))).bind fun r2 => (bif r2 then ((C_law06_known).bind fun r3 => some r3) else ((C_law06_great a2 ([] : den (LLAttr))).bind fun r4 => (bif r4 then ((C_law06_known).bind fun r5 => some r5) else ((C_schema_New a0).bind fun r6 => (bif ((!decide (r6.2 = (0 : Int)))) then ((C_ref04_May a0).bind fun r7 => (bif (!r7) then ((C_law06_known).bind fun r8 => some r8) else some false)) else ((C_patch_May r6.1 a1).bind fun r9 => ((C_ref06_May a0 a1).bind fun r10 => (bif ((!decide (r9 = r10))) then some false else ((C_patch_Same a1 a2).bind fun r11 => ((C_ref06_Same a1 a2).bind fun r12 => (bif (!eqT (.bool) r11 r12) then some false else ((C_patch_Copy a1).bind fun r13 => ((C_patch_Same r13 a1).bind fun r14 => (bif (!r14) then some false else ((C_patch_Part r6.1 a1 true).bind fun r15 => ((C_patch_Part r6.1 a1 false).bind fun r16 => ((C_ref06_Rising a1).bind fun r17 => (bif (!r17) then ((C_law06_known).bind fun r18 => some r18) else ((C_ref06_Part a0 a1 true).bind fun r19 => ((C_ref06_Same r15 r19).bind fun r20 => (bif r20 then ((C_ref06_Part a0 a1 false).bind fun r21 => ((C_ref06_Same r16 r21).bind fun r22 => (bif r22 then ((C_law06_known).bind fun r23 => some r23) else some false))) else some false)))))))))))))))))))))))
noncomputable def law06_PatchMay : Nat → den (LKey) → den (LChange) → den (LChange) → Option (denR (.one (.bool)))
  | 0, _, _, _ => none
  | n + 1, a0, a1, a2 => law06_PatchMay_top (law06_known n) (law06_great n) (schema_New n) (ref04_May n) (patch_May n) (ref06_May n) (patch_Same n) (ref06_Same n) (patch_Copy n) (patch_Part n) (ref06_Rising n) (ref06_Part n)  a0 a1 a2
theorem law06_PatchMay_eq (n : Nat) (a0 : den (LKey)) (a1 : den (LChange)) (a2 : den (LChange)) : (acalls cfg intr intrI n).p 4 [.s (.val (LKey) a0), .s (.val (LChange) a1), .s (.val (LChange) a2)] (.one (.bool)) = law06_PatchMay n a0 a1 a2 := by
  cases n with
  | zero => rfl
  | succ n =>
    have h : (acalls cfg intr intrI (n + 1)).p 4 [.s (.val (LKey) a0), .s (.val (LChange) a1), .s (.val (LChange) a2)] (.one (.bool)) = law06_PatchMay_top ((acalls cfg intr intrI n).p 11 [] (.one (.bool))) (fun (a0 : den (LChange)) (a1 : den (LLAttr)) => (acalls cfg intr intrI n).p 9 [.s (.val (LChange) a0), .s (.val (LLAttr) a1)] (.one (.bool))) (fun (a0 : den (LKey)) => (acalls cfg intr intrI n).p 12 [.s (.val (LKey) a0)] (.two (PSchema) (.int .i64))) (fun (a0 : den (LKey)) => (acalls cfg intr intrI n).p 19 [.s (.val (LKey) a0)] (.one (.bool))) (fun (a0 : den (PSchema)) (a1 : den (LChange)) => (acalls cfg intr intrI n).p 13 [.s (.val (PSchema) a0), .s (.val (LChange) a1)] (.one (.int .i64))) (fun (a0 : den (LKey)) (a1 : den (LChange)) => (acalls cfg intr intrI n).p 20 [.s (.val (LKey) a0), .s (.val (LChange) a1)] (.one (.int .i64))) (fun (a0 : den (LChange)) (a1 : den (LChange)) => (acalls cfg intr intrI n).p 21 [.s (.val (LChange) a0), .s (.val (LChange) a1)] (.one (.bool))) (fun (a0 : den (LChange)) (a1 : den (LChange)) => (acalls cfg intr intrI n).p 22 [.s (.val (LChange) a0), .s (.val (LChange) a1)] (.one (.bool))) (fun (a0 : den (LChange)) => (acalls cfg intr intrI n).p 23 [.s (.val (LChange) a0)] (.one (LChange))) (fun (a0 : den (PSchema)) (a1 : den (LChange)) (a2 : den (.bool)) => (acalls cfg intr intrI n).p 14 [.s (.val (PSchema) a0), .s (.val (LChange) a1), .s (.val (.bool) a2)] (.one (LChange))) (fun (a0 : den (LChange)) => (acalls cfg intr intrI n).p 24 [.s (.val (LChange) a0)] (.one (.bool))) (fun (a0 : den (LKey)) (a1 : den (LChange)) (a2 : den (.bool)) => (acalls cfg intr intrI n).p 25 [.s (.val (LKey) a0), .s (.val (LChange) a1), .s (.val (.bool) a2)] (.one (LChange)))  a0 a1 a2 := by kernel_rfl
    have c_law06_known : ((acalls cfg intr intrI n).p 11 [] (.one (.bool))) = law06_known n := law06_known_eq n
    have c_law06_great : (fun (a0 : den (LChange)) (a1 : den (LLAttr)) => (acalls cfg intr intrI n).p 9 [.s (.val (LChange) a0), .s (.val (LLAttr) a1)] (.one (.bool))) = law06_great n := by funext a0 a1; exact law06_great_eq n a0 a1
    have c_schema_New : (fun (a0 : den (LKey)) => (acalls cfg intr intrI n).p 12 [.s (.val (LKey) a0)] (.two (PSchema) (.int .i64))) = schema_New n := by funext a0; exact schema_New_eq n a0
    have c_ref04_May : (fun (a0 : den (LKey)) => (acalls cfg intr intrI n).p 19 [.s (.val (LKey) a0)] (.one (.bool))) = ref04_May n := by funext a0; exact ref04_May_eq n a0
    have c_patch_May : (fun (a0 : den (PSchema)) (a1 : den (LChange)) => (acalls cfg intr intrI n).p 13 [.s (.val (PSchema) a0), .s (.val (LChange) a1)] (.one (.int .i64))) = patch_May n := by funext a0 a1; exact patch_May_eq n a0 a1
    have c_ref06_May : (fun (a0 : den (LKey)) (a1 : den (LChange)) => (acalls cfg intr intrI n).p 20 [.s (.val (LKey) a0), .s (.val (LChange) a1)] (.one (.int .i64))) = ref06_May n := by funext a0 a1; exact ref06_May_eq n a0 a1
    have c_patch_Same : (fun (a0 : den (LChange)) (a1 : den (LChange)) => (acalls cfg intr intrI n).p 21 [.s (.val (LChange) a0), .s (.val (LChange) a1)] (.one (.bool))) = patch_Same n := by funext a0 a1; exact patch_Same_eq n a0 a1
    have c_ref06_Same : (fun (a0 : den (LChange)) (a1 : den (LChange)) => (acalls cfg intr intrI n).p 22 [.s (.val (LChange) a0), .s (.val (LChange) a1)] (.one (.bool))) = ref06_Same n := by funext a0 a1; exact ref06_Same_eq n a0 a1
    have c_patch_Copy : (fun (a0 : den (LChange)) => (acalls cfg intr intrI n).p 23 [.s (.val (LChange) a0)] (.one (LChange))) = patch_Copy n := by funext a0; exact patch_Copy_eq n a0
    have c_patch_Part : (fun (a0 : den (PSchema)) (a1 : den (LChange)) (a2 : den (.bool)) => (acalls cfg intr intrI n).p 14 [.s (.val (PSchema) a0), .s (.val (LChange) a1), .s (.val (.bool) a2)] (.one (LChange))) = patch_Part n := by funext a0 a1 a2; exact patch_Part_eq n a0 a1 a2
    have c_ref06_Rising : (fun (a0 : den (LChange)) => (acalls cfg intr intrI n).p 24 [.s (.val (LChange) a0)] (.one (.bool))) = ref06_Rising n := by funext a0; exact ref06_Rising_eq n a0
    have c_ref06_Part : (fun (a0 : den (LKey)) (a1 : den (LChange)) (a2 : den (.bool)) => (acalls cfg intr intrI n).p 25 [.s (.val (LKey) a0), .s (.val (LChange) a1), .s (.val (.bool) a2)] (.one (LChange))) = ref06_Part n := by funext a0 a1 a2; exact ref06_Part_eq n a0 a1 a2
    rw [h, c_law06_known, c_law06_great, c_schema_New, c_ref04_May, c_patch_May, c_ref06_May, c_patch_Same, c_ref06_Same, c_patch_Copy, c_patch_Part, c_ref06_Rising, c_ref06_Part]; rfl

noncomputable def B26 : Code := (Go.Proofs.Tryd.f26.body).getD .skip
noncomputable def ref05_May_sh9 (keyst0 : den (LKey)) (sett1 : den (LAttr)) (it6 : den (.int .i64)) : St := ⟨[.s (.val (LKey) keyst0), .s (.val (LAttr) sett1), U, U, U, U, .s (.val (.int .i64) it6), U, U, U, U, U, U, U, U, U, U, U, U, U, U, U, U, U, U, U, U, U, U, U, U, U, U, U, U, U, U, U, U, U, U, U, U, U, U, U, U], []⟩
noncomputable def ref05_May_sh4 (keyst0 : den (LKey)) (sett1 : den (LAttr)) (it5 : den (.int .i64)) : St := ⟨[.s (.val (LKey) keyst0), .s (.val (LAttr) sett1), U, U, U, .s (.val (.int .i64) it5), U, U, U, U, U, U, U, U, U, U, U, U, U, U, U, U, U, U, U, U, U, U, U, U, U, U, U, U, U, U, U, U, U, U, U, U, U, U, U, U, U], []⟩
noncomputable def ref05_May_s9 (C_ref05_Rising : den (LAttr) → Option (denR (.one (.bool)))) (C_ref03_May : den (TValue) → Option (denR (.one (.bool)))) (C_ref04_Fits : den (LKey) → den (.int .i64) → den (TValue) → Option (denR (.one (.bool))))   (LS9 : den (LKey) → den (LAttr) → den (.int .i64) → Option (denR (.one (.int .i64)))) (keyst0 : den (LKey)) (sett1 : den (LAttr)) (it6 : den (.int .i64)) : Option (denR (.one (.int .i64))) := (bif (decide (it6 < (sett1.length : Int))) then (bif decide (0 ≤ it6) && decide (it6 < (sett1.length : Int)) then (bif decide (0 ≤ it6) && decide (it6 < (sett1.length : Int)) then ((C_ref04_Fits keyst0 ((sett1.getD (Int.toNat it6) (dflt (TAttr))).1) (((sett1.getD (Int.toNat it6) (dflt (TAttr))).2).1)).bind fun r3 => (bif (!r3) then some (4 : Int) else LS9 keyst0 sett1 (IntKind.wrap .i64 (it6 + (1 : Int))))) else none) else none) else some (0 : Int))
noncomputable def ref05_May_l9 (C_ref05_Rising : den (LAttr) → Option (denR (.one (.bool)))) (C_ref03_May : den (TValue) → Option (denR (.one (.bool)))) (C_ref04_Fits : den (LKey) → den (.int .i64) → den (TValue) → Option (denR (.one (.bool)))) (n : Nat)  : Nat → den (LKey) → den (LAttr) → den (.int .i64) → Option (denR (.one (.int .i64)))
  | 0, _, _, _ => none
  | m + 1, keyst0, sett1, it6 => ref05_May_s9 C_ref05_Rising C_ref03_May C_ref04_Fits   (fun (keyst0 : den (LKey)) (sett1 : den (LAttr)) (it6 : den (.int .i64)) => ref05_May_l9 C_ref05_Rising C_ref03_May C_ref04_Fits n  m keyst0 sett1 it6) keyst0 sett1 it6
noncomputable def ref05_May_g9 (C_ref05_Rising : den (LAttr) → Option (denR (.one (.bool)))) (C_ref03_May : den (TValue) → Option (denR (.one (.bool)))) (C_ref04_Fits : den (LKey) → den (.int .i64) → den (TValue) → Option (denR (.one (.bool))))   : List (den (TAttr)) → den (LKey) → Option (denR (.one (.int .i64)))
  | [], keyst0 => some (0 : Int)
  | x :: r, keyst0 => ((C_ref04_Fits keyst0 x.1 x.2.1).bind fun r4 => (bif (!r4) then some (4 : Int) else ref05_May_g9 C_ref05_Rising C_ref03_May C_ref04_Fits   r keyst0))
theorem ref05_May_l9_list (C_ref05_Rising : den (LAttr) → Option (denR (.one (.bool)))) (C_ref03_May : den (TValue) → Option (denR (.one (.bool)))) (C_ref04_Fits : den (LKey) → den (.int .i64) → den (TValue) → Option (denR (.one (.bool)))) (n : Nat)  : ∀ (m i : Nat) (keyst0 : den (LKey)) (sett1 : den (LAttr)), sett1.length - i < m → i ≤ sett1.length → sett1.length < 4611686018427387904 → ref05_May_l9 C_ref05_Rising C_ref03_May C_ref04_Fits n  m keyst0 sett1 (i : Int) = ref05_May_g9 C_ref05_Rising C_ref03_May C_ref04_Fits   (sett1.drop i) keyst0 := by
  intro m
  induction m with
  | zero => intro i keyst0 sett1 h1; omega
  | succ m ih =>
    intro i keyst0 sett1 h1 h2 h3
    show ref05_May_s9 C_ref05_Rising C_ref03_May C_ref04_Fits   (fun (keyst0 : den (LKey)) (sett1 : den (LAttr)) (it6 : den (.int .i64)) => ref05_May_l9 C_ref05_Rising C_ref03_May C_ref04_Fits n  m keyst0 sett1 it6) keyst0 sett1 (i : Int) = _
    unfold ref05_May_s9
    have b0 : decide ((0 : Int) ≤ (i : Int)) = true := decide_eq_true (by omega)
    rcases Nat.lt_or_ge i sett1.length with hi | hi
    · have b1 : decide ((i : Int) < (sett1.length : Int)) = true := decide_eq_true (by omega)
      have bw : IntKind.i64.wrap ((i : Int) + (1 : Int)) = ((i + 1 : Nat) : Int) := w64s (by omega)
      have ih' : ∀ (keyst0 : den (LKey)), ref05_May_l9 C_ref05_Rising C_ref03_May C_ref04_Fits n  m keyst0 sett1 ((i + 1 : Nat) : Int) = ref05_May_g9 C_ref05_Rising C_ref03_May C_ref04_Fits   (sett1.drop (i + 1)) keyst0 := fun keyst0 => ih (i + 1) keyst0 sett1 (by omega) (by omega) h3
      simp only [b0, b1, bw, Bool.and_true, Bool.true_and, cond_true, Int.toNat_natCast, ih']
      rw [drop_getD hi (dflt (TAttr))]
      rfl
    · have b1 : decide ((i : Int) < (sett1.length : Int)) = false := decide_eq_false (by omega)
      simp only [b1, cond_false]
      rw [List.drop_eq_nil_of_le hi]
      rfl
noncomputable def ref05_May_F9 (call : Call0) (n : Nat)  : (St → Option (denR (.one (.int .i64)))) → St → Option (denR (.one (.int .i64))) := fun rec => exec cfg call n 26 (cat B26 [1, 1, 1, 0, 1, 0, 0]) (kLoop rec (lk2 26 9 cfg.keep) (kBlock 2 (kSq (exec cfg call n 26 (cat B26 [1, 1, 1, 1])) (kret cfg Go.Proofs.Tryd.f26 (.one (.int .i64))))))
theorem ref05_May_l9_eq (call : Call0) (n : Nat)  : ∀ (m : Nat) (keyst0 : den (LKey)) (sett1 : den (LAttr)) (it6 : den (.int .i64)), loopN (ref05_May_F9 call n ) m (ref05_May_sh9 keyst0 sett1 it6) = ref05_May_l9 (fun (a0 : den (LAttr)) => call.p 10 [.s (.val (LAttr) a0)] (.one (.bool))) (fun (a0 : den (TValue)) => call.p 55 [.s (.val (TValue) a0)] (.one (.bool))) (fun (a0 : den (LKey)) (a1 : den (.int .i64)) (a2 : den (TValue)) => call.p 57 [.s (.val (LKey) a0), .s (.val (.int .i64) a1), .s (.val (TValue) a2)] (.one (.bool))) n  m keyst0 sett1 it6 := by
  intro m
  induction m with
  | zero => intros; rfl
  | succ m ih =>
    intro keyst0 sett1 it6
    have h : loopN (ref05_May_F9 call n ) (m + 1) (ref05_May_sh9 keyst0 sett1 it6) = ref05_May_s9 (fun (a0 : den (LAttr)) => call.p 10 [.s (.val (LAttr) a0)] (.one (.bool))) (fun (a0 : den (TValue)) => call.p 55 [.s (.val (TValue) a0)] (.one (.bool))) (fun (a0 : den (LKey)) (a1 : den (.int .i64)) (a2 : den (TValue)) => call.p 57 [.s (.val (LKey) a0), .s (.val (.int .i64) a1), .s (.val (TValue) a2)] (.one (.bool)))   (fun (keyst0 : den (LKey)) (sett1 : den (LAttr)) (it6 : den (.int .i64)) => loopN (ref05_May_F9 call n ) m (ref05_May_sh9 keyst0 sett1 it6)) keyst0 sett1 it6 := by kernel_rfl
    have e0 : (fun (keyst0 : den (LKey)) (sett1 : den (LAttr)) (it6 : den (.int .i64)) => loopN (ref05_May_F9 call n ) m (ref05_May_sh9 keyst0 sett1 it6)) = (fun (keyst0 : den (LKey)) (sett1 : den (LAttr)) (it6 : den (.int .i64)) => ref05_May_l9 (fun (a0 : den (LAttr)) => call.p 10 [.s (.val (LAttr) a0)] (.one (.bool))) (fun (a0 : den (TValue)) => call.p 55 [.s (.val (TValue) a0)] (.one (.bool))) (fun (a0 : den (LKey)) (a1 : den (.int .i64)) (a2 : den (TValue)) => call.p 57 [.s (.val (LKey) a0), .s (.val (.int .i64) a1), .s (.val (TValue) a2)] (.one (.bool))) n  m keyst0 sett1 it6) := by funext keyst0 sett1 it6; exact ih keyst0 sett1 it6
    rw [h, e0]; rfl
noncomputable def ref05_May_s4 (C_ref05_Rising : den (LAttr) → Option (denR (.one (.bool)))) (C_ref03_May : den (TValue) → Option (denR (.one (.bool)))) (C_ref04_Fits : den (LKey) → den (.int .i64) → den (TValue) → Option (denR (.one (.bool)))) (LL9 : den (LKey) → den (LAttr) → den (.int .i64) → Option (denR (.one (.int .i64))))  (LS4 : den (LKey) → den (LAttr) → den (.int .i64) → Option (denR (.one (.int .i64)))) (keyst0 : den (LKey)) (sett1 : den (LAttr)) (it5 : den (.int .i64)) : Option (denR (.one (.int .i64))) := (bif (decide (it5 < (sett1.length : Int))) then (bif decide (0 ≤ it5) && decide (it5 < (sett1.length : Int)) then ((C_ref03_May (((sett1.getD (Int.toNat it5) (dflt (TAttr))).2).1)).bind fun r2 => (bif (!r2) then some (3 : Int) else LS4 keyst0 sett1 (IntKind.wrap .i64 (it5 + (1 : Int))))) else none) else LL9 keyst0 sett1 (0 : Int))
noncomputable def ref05_May_l4 (C_ref05_Rising : den (LAttr) → Option (denR (.one (.bool)))) (C_ref03_May : den (TValue) → Option (denR (.one (.bool)))) (C_ref04_Fits : den (LKey) → den (.int .i64) → den (TValue) → Option (denR (.one (.bool)))) (n : Nat)  : Nat → den (LKey) → den (LAttr) → den (.int .i64) → Option (denR (.one (.int .i64)))
  | 0, _, _, _ => none
  | m + 1, keyst0, sett1, it5 => ref05_May_s4 C_ref05_Rising C_ref03_May C_ref04_Fits (ref05_May_l9 C_ref05_Rising C_ref03_May C_ref04_Fits n  n)  (fun (keyst0 : den (LKey)) (sett1 : den (LAttr)) (it5 : den (.int .i64)) => ref05_May_l4 C_ref05_Rising C_ref03_May C_ref04_Fits n  m keyst0 sett1 it5) keyst0 sett1 it5
noncomputable def ref05_May_g4 (C_ref05_Rising : den (LAttr) → Option (denR (.one (.bool)))) (C_ref03_May : den (TValue) → Option (denR (.one (.bool)))) (C_ref04_Fits : den (LKey) → den (.int .i64) → den (TValue) → Option (denR (.one (.bool)))) (LL9 : den (LKey) → den (LAttr) → den (.int .i64) → Option (denR (.one (.int .i64))))  : List (den (TAttr)) → den (LKey) → den (LAttr) → Option (denR (.one (.int .i64)))
  | [], keyst0, sett1 => LL9 keyst0 sett1 (0 : Int)
  | x :: r, keyst0, sett1 => ((C_ref03_May x.2.1).bind fun r4 => (bif (!r4) then some (3 : Int) else ref05_May_g4 C_ref05_Rising C_ref03_May C_ref04_Fits LL9  r keyst0 sett1))
theorem ref05_May_l4_list (C_ref05_Rising : den (LAttr) → Option (denR (.one (.bool)))) (C_ref03_May : den (TValue) → Option (denR (.one (.bool)))) (C_ref04_Fits : den (LKey) → den (.int .i64) → den (TValue) → Option (denR (.one (.bool)))) (n : Nat)  : ∀ (m i : Nat) (keyst0 : den (LKey)) (sett1 : den (LAttr)), sett1.length - i < m → i ≤ sett1.length → sett1.length < 4611686018427387904 → ref05_May_l4 C_ref05_Rising C_ref03_May C_ref04_Fits n  m keyst0 sett1 (i : Int) = ref05_May_g4 C_ref05_Rising C_ref03_May C_ref04_Fits (ref05_May_l9 C_ref05_Rising C_ref03_May C_ref04_Fits n  n)  (sett1.drop i) keyst0 sett1 := by
  intro m
  induction m with
  | zero => intro i keyst0 sett1 h1; omega
  | succ m ih =>
    intro i keyst0 sett1 h1 h2 h3
    show ref05_May_s4 C_ref05_Rising C_ref03_May C_ref04_Fits (ref05_May_l9 C_ref05_Rising C_ref03_May C_ref04_Fits n  n)  (fun (keyst0 : den (LKey)) (sett1 : den (LAttr)) (it5 : den (.int .i64)) => ref05_May_l4 C_ref05_Rising C_ref03_May C_ref04_Fits n  m keyst0 sett1 it5) keyst0 sett1 (i : Int) = _
    unfold ref05_May_s4
    have b0 : decide ((0 : Int) ≤ (i : Int)) = true := decide_eq_true (by omega)
    rcases Nat.lt_or_ge i sett1.length with hi | hi
    · have b1 : decide ((i : Int) < (sett1.length : Int)) = true := decide_eq_true (by omega)
      have bw : IntKind.i64.wrap ((i : Int) + (1 : Int)) = ((i + 1 : Nat) : Int) := w64s (by omega)
      have ih' : ∀ (keyst0 : den (LKey)), ref05_May_l4 C_ref05_Rising C_ref03_May C_ref04_Fits n  m keyst0 sett1 ((i + 1 : Nat) : Int) = ref05_May_g4 C_ref05_Rising C_ref03_May C_ref04_Fits (ref05_May_l9 C_ref05_Rising C_ref03_May C_ref04_Fits n  n)  (sett1.drop (i + 1)) keyst0 sett1 := fun keyst0 => ih (i + 1) keyst0 sett1 (by omega) (by omega) h3
      simp only [b0, b1, bw, Bool.and_true, Bool.true_and, cond_true, Int.toNat_natCast, ih']
      rw [drop_getD hi (dflt (TAttr))]
      rfl
    · have b1 : decide ((i : Int) < (sett1.length : Int)) = false := decide_eq_false (by omega)
      simp only [b1, cond_false]
      rw [List.drop_eq_nil_of_le hi]
      rfl
noncomputable def ref05_May_F4 (call : Call0) (n : Nat)  : (St → Option (denR (.one (.int .i64)))) → St → Option (denR (.one (.int .i64))) := fun rec => exec cfg call n 26 (cat B26 [1, 1, 0, 1, 0, 0]) (kLoop rec (lk2 26 4 cfg.keep) (kBlock 0 (kSq (exec cfg call n 26 (cat B26 [1, 1, 1])) (kret cfg Go.Proofs.Tryd.f26 (.one (.int .i64))))))
theorem ref05_May_l4_eq (call : Call0) (n : Nat)  : ∀ (m : Nat) (keyst0 : den (LKey)) (sett1 : den (LAttr)) (it5 : den (.int .i64)), loopN (ref05_May_F4 call n ) m (ref05_May_sh4 keyst0 sett1 it5) = ref05_May_l4 (fun (a0 : den (LAttr)) => call.p 10 [.s (.val (LAttr) a0)] (.one (.bool))) (fun (a0 : den (TValue)) => call.p 55 [.s (.val (TValue) a0)] (.one (.bool))) (fun (a0 : den (LKey)) (a1 : den (.int .i64)) (a2 : den (TValue)) => call.p 57 [.s (.val (LKey) a0), .s (.val (.int .i64) a1), .s (.val (TValue) a2)] (.one (.bool))) n  m keyst0 sett1 it5 := by
  intro m
  induction m with
  | zero => intros; rfl
  | succ m ih =>
    intro keyst0 sett1 it5
    have h : loopN (ref05_May_F4 call n ) (m + 1) (ref05_May_sh4 keyst0 sett1 it5) = ref05_May_s4 (fun (a0 : den (LAttr)) => call.p 10 [.s (.val (LAttr) a0)] (.one (.bool))) (fun (a0 : den (TValue)) => call.p 55 [.s (.val (TValue) a0)] (.one (.bool))) (fun (a0 : den (LKey)) (a1 : den (.int .i64)) (a2 : den (TValue)) => call.p 57 [.s (.val (LKey) a0), .s (.val (.int .i64) a1), .s (.val (TValue) a2)] (.one (.bool))) (fun (keyst0 : den (LKey)) (sett1 : den (LAttr)) (it6 : den (.int .i64)) => loopN (ref05_May_F9 call n ) n (ref05_May_sh9 keyst0 sett1 it6))  (fun (keyst0 : den (LKey)) (sett1 : den (LAttr)) (it5 : den (.int .i64)) => loopN (ref05_May_F4 call n ) m (ref05_May_sh4 keyst0 sett1 it5)) keyst0 sett1 it5 := by kernel_rfl
    have e9 : (fun (keyst0 : den (LKey)) (sett1 : den (LAttr)) (it6 : den (.int .i64)) => loopN (ref05_May_F9 call n ) n (ref05_May_sh9 keyst0 sett1 it6)) = ref05_May_l9 (fun (a0 : den (LAttr)) => call.p 10 [.s (.val (LAttr) a0)] (.one (.bool))) (fun (a0 : den (TValue)) => call.p 55 [.s (.val (TValue) a0)] (.one (.bool))) (fun (a0 : den (LKey)) (a1 : den (.int .i64)) (a2 : den (TValue)) => call.p 57 [.s (.val (LKey) a0), .s (.val (.int .i64) a1), .s (.val (TValue) a2)] (.one (.bool))) n  n := by funext keyst0 sett1 it6; exact ref05_May_l9_eq call n  n keyst0 sett1 it6
    have e0 : (fun (keyst0 : den (LKey)) (sett1 : den (LAttr)) (it5 : den (.int .i64)) => loopN (ref05_May_F4 call n ) m (ref05_May_sh4 keyst0 sett1 it5)) = (fun (keyst0 : den (LKey)) (sett1 : den (LAttr)) (it5 : den (.int .i64)) => ref05_May_l4 (fun (a0 : den (LAttr)) => call.p 10 [.s (.val (LAttr) a0)] (.one (.bool))) (fun (a0 : den (TValue)) => call.p 55 [.s (.val (TValue) a0)] (.one (.bool))) (fun (a0 : den (LKey)) (a1 : den (.int .i64)) (a2 : den (TValue)) => call.p 57 [.s (.val (LKey) a0), .s (.val (.int .i64) a1), .s (.val (TValue) a2)] (.one (.bool))) n  m keyst0 sett1 it5) := by funext keyst0 sett1 it5; exact ih keyst0 sett1 it5
    rw [h, e9, e0]; rfl
noncomputable def ref05_May_top (C_ref05_Rising : den (LAttr) → Option (denR (.one (.bool)))) (C_ref03_May : den (TValue) → Option (denR (.one (.bool)))) (C_ref04_Fits : den (LKey) → den (.int .i64) → den (TValue) → Option (denR (.one (.bool)))) (LL4 : den (LKey) → den (LAttr) → den (.int .i64) → Option (denR (.one (.int .i64)))) (a0 : den (LKey)) (a1 : den (LAttr)) : Option (denR (.one (.int .i64))) := ((C_ref05_Rising a1).bind fun r1 => (bif (!r1) then some (3 : Int) else (bif (decide ((64 : Int) < (a1.length : Int))) then some (3 : Int) else LL4 a0 a1 (0 : Int))))
noncomputable def ref05_May : Nat → den (LKey) → den (LAttr) → Option (denR (.one (.int .i64)))
  | 0, _, _ => none
  | n + 1, a0, a1 => ref05_May_top (ref05_Rising n) (ref03_May n) (ref04_Fits n) (ref05_May_l4 (ref05_Rising n) (ref03_May n) (ref04_Fits n) n n) a0 a1
theorem ref05_May_eq (n : Nat) (a0 : den (LKey)) (a1 : den (LAttr)) : (acalls cfg intr intrI n).p 26 [.s (.val (LKey) a0), .s (.val (LAttr) a1)] (.one (.int .i64)) = ref05_May n a0 a1 := by
  cases n with
  | zero => rfl
  | succ n =>
    have h : (acalls cfg intr intrI (n + 1)).p 26 [.s (.val (LKey) a0), .s (.val (LAttr) a1)] (.one (.int .i64)) = ref05_May_top (fun (a0 : den (LAttr)) => (acalls cfg intr intrI n).p 10 [.s (.val (LAttr) a0)] (.one (.bool))) (fun (a0 : den (TValue)) => (acalls cfg intr intrI n).p 55 [.s (.val (TValue) a0)] (.one (.bool))) (fun (a0 : den (LKey)) (a1 : den (.int .i64)) (a2 : den (TValue)) => (acalls cfg intr intrI n).p 57 [.s (.val (LKey) a0), .s (.val (.int .i64) a1), .s (.val (TValue) a2)] (.one (.bool))) (fun (keyst0 : den (LKey)) (sett1 : den (LAttr)) (it5 : den (.int .i64)) => loopN (ref05_May_F4 (acalls cfg intr intrI n) n) n (ref05_May_sh4 keyst0 sett1 it5)) a0 a1 := by kernel_rfl
    have e4 : (fun (keyst0 : den (LKey)) (sett1 : den (LAttr)) (it5 : den (.int .i64)) => loopN (ref05_May_F4 (acalls cfg intr intrI n) n) n (ref05_May_sh4 keyst0 sett1 it5)) = ref05_May_l4 (fun (a0 : den (LAttr)) => (acalls cfg intr intrI n).p 10 [.s (.val (LAttr) a0)] (.one (.bool))) (fun (a0 : den (TValue)) => (acalls cfg intr intrI n).p 55 [.s (.val (TValue) a0)] (.one (.bool))) (fun (a0 : den (LKey)) (a1 : den (.int .i64)) (a2 : den (TValue)) => (acalls cfg intr intrI n).p 57 [.s (.val (LKey) a0), .s (.val (.int .i64) a1), .s (.val (TValue) a2)] (.one (.bool))) n n := by funext keyst0 sett1 it5; exact ref05_May_l4_eq (acalls cfg intr intrI n) n n keyst0 sett1 it5
    have c_ref05_Rising : (fun (a0 : den (LAttr)) => (acalls cfg intr intrI n).p 10 [.s (.val (LAttr) a0)] (.one (.bool))) = ref05_Rising n := by funext a0; exact ref05_Rising_eq n a0
    have c_ref03_May : (fun (a0 : den (TValue)) => (acalls cfg intr intrI n).p 55 [.s (.val (TValue) a0)] (.one (.bool))) = ref03_May n := by funext a0; exact ref03_May_eq n a0
    have c_ref04_Fits : (fun (a0 : den (LKey)) (a1 : den (.int .i64)) (a2 : den (TValue)) => (acalls cfg intr intrI n).p 57 [.s (.val (LKey) a0), .s (.val (.int .i64) a1), .s (.val (TValue) a2)] (.one (.bool))) = ref04_Fits n := by funext a0 a1 a2; exact ref04_Fits_eq n a0 a1 a2
    rw [h, e4, c_ref05_Rising, c_ref03_May, c_ref04_Fits]; rfl

noncomputable def B28 : Code := (Go.Proofs.Tryd.f28.body).getD .skip
noncomputable def patch_Compose_sh6 (pt0 : den (LChange)) (it6 : den (.int .i64)) (t9 : den (LChange)) (t10 : den (.int .i64)) (t11 : den (.int .i64)) (outo5 : den (LChange)) (co8 : den (TChange)) : St := ⟨[.s (.val (LChange) pt0), U, U, U, U, .s (.arr 5), .s (.val (.int .i64) it6), U, .s (.ref 8 []), .s (.val (LChange) t9), .s (.val (.int .i64) t10), .s (.val (.int .i64) t11), U, U, U, U, U, U, U, U, U, U, U, U, U, U, U, U, U, U, U, U, U, U, U, U, U, U, U, U, U, U, U, U, U, U, U, U, U, U, U, U, U, U, U, U], [(5, .arr 40 (TChange) outo5), (8, .box (TChange) co8)]⟩
noncomputable def patch_Compose_sh4 (pt0 : den (LChange)) (it6 : den (.int .i64)) (t9 : den (LChange)) (t10 : den (.int .i64)) (t11 : den (.int .i64)) (outo5 : den (LChange)) : St := ⟨[.s (.val (LChange) pt0), U, U, U, U, .s (.arr 5), .s (.val (.int .i64) it6), U, U, .s (.val (LChange) t9), .s (.val (.int .i64) t10), .s (.val (.int .i64) t11), U, U, U, U, U, U, U, U, U, U, U, U, U, U, U, U, U, U, U, U, U, U, U, U, U, U, U, U, U, U, U, U, U, U, U, U, U, U, U, U, U, U, U, U], [(5, .arr 40 (TChange) outo5)]⟩
noncomputable def patch_Compose_s6   (LS4 : den (LChange) → den (.int .i64) → den (LChange) → den (.int .i64) → den (.int .i64) → den (LChange) → Option (denR (.one (LChange)))) (LS6 : den (LChange) → den (.int .i64) → den (LChange) → den (.int .i64) → den (.int .i64) → den (LChange) → den (TChange) → Option (denR (.one (LChange)))) (pt0 : den (LChange)) (it6 : den (.int .i64)) (t9 : den (LChange)) (t10 : den (.int .i64)) (t11 : den (.int .i64)) (outo5 : den (LChange)) (co8 : den (TChange)) : Option (denR (.one (LChange))) := (bif (decide (it6 < (pt0.length : Int))) then (bif decide (0 ≤ it6) && decide (it6 < (pt0.length : Int)) then (bif (decide ((pt0.getD (Int.toNat it6) (dflt (TChange))).1 ≤ co8.1)) then (bif decide (0 ≤ it6) && decide (it6 < (pt0.length : Int)) then (bif (decide ((pt0.getD (Int.toNat it6) (dflt (TChange))).1 < co8.1)) then (bif decide (0 ≤ it6) && decide (it6 < (pt0.length : Int)) then (bif decide ((outo5.length + ([(pt0.getD (Int.toNat it6) (dflt (TChange)))] : List (den (TChange))).length) * 56 ≤ 140737488355328) then LS6 pt0 (IntKind.wrap .i64 (it6 + (1 : Int))) t9 t10 t11 (outo5 ++ ([(pt0.getD (Int.toNat it6) (dflt (TChange)))] : List (den (TChange)))) co8 else none) else none) else LS6 pt0 (IntKind.wrap .i64 (it6 + (1 : Int))) t9 t10 t11 outo5 co8) else none) else (bif decide ((outo5.length + ([co8] : List (den (TChange))).length) * 56 ≤ 140737488355328) then LS4 pt0 it6 t9 t10 (IntKind.wrap .i64 (t11 + (1 : Int))) (outo5 ++ ([co8] : List (den (TChange)))) else none)) else none) else (bif decide ((outo5.length + ([co8] : List (den (TChange))).length) * 56 ≤ 140737488355328) then LS4 pt0 it6 t9 t10 (IntKind.wrap .i64 (t11 + (1 : Int))) (outo5 ++ ([co8] : List (den (TChange)))) else none))
noncomputable def patch_Compose_l6  (n : Nat) (LS4 : den (LChange) → den (.int .i64) → den (LChange) → den (.int .i64) → den (.int .i64) → den (LChange) → Option (denR (.one (LChange)))) : Nat → den (LChange) → den (.int .i64) → den (LChange) → den (.int .i64) → den (.int .i64) → den (LChange) → den (TChange) → Option (denR (.one (LChange)))
  | 0, _, _, _, _, _, _, _ => none
  | m + 1, pt0, it6, t9, t10, t11, outo5, co8 => patch_Compose_s6   LS4 (fun (pt0 : den (LChange)) (it6 : den (.int .i64)) (t9 : den (LChange)) (t10 : den (.int .i64)) (t11 : den (.int .i64)) (outo5 : den (LChange)) (co8 : den (TChange)) => patch_Compose_l6  n LS4 m pt0 it6 t9 t10 t11 outo5 co8) pt0 it6 t9 t10 t11 outo5 co8
noncomputable def patch_Compose_g6   (LS4 : den (LChange) → den (.int .i64) → den (LChange) → den (.int .i64) → den (.int .i64) → den (LChange) → Option (denR (.one (LChange)))) : List (den (TChange)) → den (LChange) → den (.int .i64) → den (LChange) → den (.int .i64) → den (.int .i64) → den (LChange) → den (TChange) → Option (denR (.one (LChange)))
  | [], pt0, it6, t9, t10, t11, outo5, co8 => (bif decide ((outo5.length + ([co8] : List (den (TChange))).length) * 56 ≤ 140737488355328) then LS4 pt0 it6 t9 t10 (IntKind.wrap .i64 (t11 + (1 : Int))) (outo5 ++ ([co8] : List (den (TChange)))) else none)
  | x :: r, pt0, it6, t9, t10, t11, outo5, co8 => (bif (decide (x.1 ≤ co8.1)) then (bif (decide (x.1 < co8.1)) then (bif decide ((outo5.length + ([x] : List (den (TChange))).length) * 56 ≤ 140737488355328) then patch_Compose_g6   LS4 r pt0 (it6 + (1 : Int)) t9 t10 t11 (outo5 ++ ([x] : List (den (TChange)))) co8 else none) else patch_Compose_g6   LS4 r pt0 (it6 + (1 : Int)) t9 t10 t11 outo5 co8) else (bif decide ((outo5.length + ([co8] : List (den (TChange))).length) * 56 ≤ 140737488355328) then LS4 pt0 it6 t9 t10 (IntKind.wrap .i64 (t11 + (1 : Int))) (outo5 ++ ([co8] : List (den (TChange)))) else none))
theorem patch_Compose_l6_list  (n : Nat) (LS4 : den (LChange) → den (.int .i64) → den (LChange) → den (.int .i64) → den (.int .i64) → den (LChange) → Option (denR (.one (LChange)))) : ∀ (m i : Nat) (pt0 : den (LChange)) (t9 : den (LChange)) (t10 : den (.int .i64)) (t11 : den (.int .i64)) (outo5 : den (LChange)) (co8 : den (TChange)), pt0.length - i < m → i ≤ pt0.length → pt0.length < 4611686018427387904 → patch_Compose_l6  n LS4 m pt0 (i : Int) t9 t10 t11 outo5 co8 = patch_Compose_g6   LS4 (pt0.drop i) pt0 (i : Int) t9 t10 t11 outo5 co8 := by
  intro m
  induction m with
  | zero => intro i pt0 t9 t10 t11 outo5 co8 h1; omega
  | succ m ih =>
    intro i pt0 t9 t10 t11 outo5 co8 h1 h2 h3
    show patch_Compose_s6   LS4 (fun (pt0 : den (LChange)) (it6 : den (.int .i64)) (t9 : den (LChange)) (t10 : den (.int .i64)) (t11 : den (.int .i64)) (outo5 : den (LChange)) (co8 : den (TChange)) => patch_Compose_l6  n LS4 m pt0 it6 t9 t10 t11 outo5 co8) pt0 (i : Int) t9 t10 t11 outo5 co8 = _
    unfold patch_Compose_s6
    have b0 : decide ((0 : Int) ≤ (i : Int)) = true := decide_eq_true (by omega)
    rcases Nat.lt_or_ge i pt0.length with hi | hi
    · have b1 : decide ((i : Int) < (pt0.length : Int)) = true := decide_eq_true (by omega)
      have bw : IntKind.i64.wrap ((i : Int) + (1 : Int)) = ((i + 1 : Nat) : Int) := w64s (by omega)
      have ih' : ∀ (t9 : den (LChange)) (t10 : den (.int .i64)) (t11 : den (.int .i64)) (outo5 : den (LChange)) (co8 : den (TChange)), patch_Compose_l6  n LS4 m pt0 ((i + 1 : Nat) : Int) t9 t10 t11 outo5 co8 = patch_Compose_g6   LS4 (pt0.drop (i + 1)) pt0 ((i + 1 : Nat) : Int) t9 t10 t11 outo5 co8 := fun t9 t10 t11 outo5 co8 => ih (i + 1) pt0 t9 t10 t11 outo5 co8 (by omega) (by omega) h3
      simp only [b0, b1, bw, Bool.and_true, Bool.true_and, cond_true, Int.toNat_natCast, ih']
      rw [drop_getD hi (dflt (TChange))]
      rfl
    · have b1 : decide ((i : Int) < (pt0.length : Int)) = false := decide_eq_false (by omega)
      simp only [b1, cond_false]
      rw [List.drop_eq_nil_of_le hi]
      rfl
noncomputable def patch_Compose_F6 (call : Call0) (n : Nat) (r4 : St → Option (denR (.one (LChange)))) : (St → Option (denR (.one (LChange)))) → St → Option (denR (.one (LChange))) := fun rec => exec cfg call n 28 (cat B28 [1, 1, 1, 0, 1, 0, 0, 1, 1, 0, 0, 1, 0, 0, 0]) (kLoop rec (lk2 28 6 cfg.keep) (kBlock 2 (kSq (exec cfg call n 28 (cat B28 [1, 1, 1, 0, 1, 0, 0, 1, 1, 0, 0, 1, 1])) (kBlock 1 (kSq (exec cfg call n 28 (cat B28 [1, 1, 1, 0, 1, 0, 0, 1, 1, 1])) (kLoop r4 (lk2 28 4 cfg.keep) (kBlock 0 (kSq (exec cfg call n 28 (cat B28 [1, 1, 1, 1])) (kret cfg Go.Proofs.Tryd.f28 (.one (LChange)))))))))))
theorem patch_Compose_l6_eq (call : Call0) (n : Nat) (r4 : St → Option (denR (.one (LChange)))) : ∀ (m : Nat) (pt0 : den (LChange)) (it6 : den (.int .i64)) (t9 : den (LChange)) (t10 : den (.int .i64)) (t11 : den (.int .i64)) (outo5 : den (LChange)) (co8 : den (TChange)), loopN (patch_Compose_F6 call n r4) m (patch_Compose_sh6 pt0 it6 t9 t10 t11 outo5 co8) = patch_Compose_l6  n (fun (pt0 : den (LChange)) (it6 : den (.int .i64)) (t9 : den (LChange)) (t10 : den (.int .i64)) (t11 : den (.int .i64)) (outo5 : den (LChange)) => r4 (patch_Compose_sh4 pt0 it6 t9 t10 t11 outo5)) m pt0 it6 t9 t10 t11 outo5 co8 := by
  intro m
  induction m with
  | zero => intros; rfl
  | succ m ih =>
    intro pt0 it6 t9 t10 t11 outo5 co8
    have h : loopN (patch_Compose_F6 call n r4) (m + 1) (patch_Compose_sh6 pt0 it6 t9 t10 t11 outo5 co8) = patch_Compose_s6   (fun (pt0 : den (LChange)) (it6 : den (.int .i64)) (t9 : den (LChange)) (t10 : den (.int .i64)) (t11 : den (.int .i64)) (outo5 : den (LChange)) => r4 (patch_Compose_sh4 pt0 it6 t9 t10 t11 outo5)) (fun (pt0 : den (LChange)) (it6 : den (.int .i64)) (t9 : den (LChange)) (t10 : den (.int .i64)) (t11 : den (.int .i64)) (outo5 : den (LChange)) (co8 : den (TChange)) => loopN (patch_Compose_F6 call n r4) m (patch_Compose_sh6 pt0 it6 t9 t10 t11 outo5 co8)) pt0 it6 t9 t10 t11 outo5 co8 := by kernel_rfl
    have e0 : (fun (pt0 : den (LChange)) (it6 : den (.int .i64)) (t9 : den (LChange)) (t10 : den (.int .i64)) (t11 : den (.int .i64)) (outo5 : den (LChange)) (co8 : den (TChange)) => loopN (patch_Compose_F6 call n r4) m (patch_Compose_sh6 pt0 it6 t9 t10 t11 outo5 co8)) = (fun (pt0 : den (LChange)) (it6 : den (.int .i64)) (t9 : den (LChange)) (t10 : den (.int .i64)) (t11 : den (.int .i64)) (outo5 : den (LChange)) (co8 : den (TChange)) => patch_Compose_l6  n (fun (pt0 : den (LChange)) (it6 : den (.int .i64)) (t9 : den (LChange)) (t10 : den (.int .i64)) (t11 : den (.int .i64)) (outo5 : den (LChange)) => r4 (patch_Compose_sh4 pt0 it6 t9 t10 t11 outo5)) m pt0 it6 t9 t10 t11 outo5 co8) := by funext pt0 it6 t9 t10 t11 outo5 co8; exact ih pt0 it6 t9 t10 t11 outo5 co8
    rw [h, e0]; rfl
noncomputable def patch_Compose_s4  (LL6 : den (LChange) → den (.int .i64) → den (LChange) → den (.int .i64) → den (.int .i64) → den (LChange) → den (TChange) → Option (denR (.one (LChange))))  (LS4 : den (LChange) → den (.int .i64) → den (LChange) → den (.int .i64) → den (.int .i64) → den (LChange) → Option (denR (.one (LChange)))) (pt0 : den (LChange)) (it6 : den (.int .i64)) (t9 : den (LChange)) (t10 : den (.int .i64)) (t11 : den (.int .i64)) (outo5 : den (LChange)) : Option (denR (.one (LChange))) := (bif (decide (t11 < t10)) then (bif decide (0 ≤ t11) && decide (t11 < (t9.length : Int)) then LL6 pt0 it6 t9 t10 t11 outo5 (t9.getD (Int.toNat t11) (dflt (TChange))) else none) else (bif decide (0 ≤ it6) && decide (it6 ≤ (pt0.length : Int)) && decide ((pt0.length : Int) ≤ (pt0.length : Int)) then (bif decide ((outo5.length + (pt0.drop (Int.toNat it6)).length) * 56 ≤ 140737488355328) then some (outo5 ++ (pt0.drop (Int.toNat it6))) else none) else none))
noncomputable def patch_Compose_l4  (n : Nat)  : Nat → den (LChange) → den (.int .i64) → den (LChange) → den (.int .i64) → den (.int .i64) → den (LChange) → Option (denR (.one (LChange)))
  | 0, _, _, _, _, _, _ => none
  | m + 1, pt0, it6, t9, t10, t11, outo5 => patch_Compose_s4  (patch_Compose_l6  n (fun (pt0 : den (LChange)) (it6 : den (.int .i64)) (t9 : den (LChange)) (t10 : den (.int .i64)) (t11 : den (.int .i64)) (outo5 : den (LChange)) => patch_Compose_l4  n  m pt0 it6 t9 t10 t11 outo5) n)  (fun (pt0 : den (LChange)) (it6 : den (.int .i64)) (t9 : den (LChange)) (t10 : den (.int .i64)) (t11 : den (.int .i64)) (outo5 : den (LChange)) => patch_Compose_l4  n  m pt0 it6 t9 t10 t11 outo5) pt0 it6 t9 t10 t11 outo5
noncomputable def patch_Compose_F4 (call : Call0) (n : Nat)  : (St → Option (denR (.one (LChange)))) → St → Option (denR (.one (LChange))) := fun rec => exec cfg call n 28 (cat B28 [1, 1, 1, 0, 1, 0, 0]) (kLoop rec (lk2 28 4 cfg.keep) (kBlock 0 (kSq (exec cfg call n 28 (cat B28 [1, 1, 1, 1])) (kret cfg Go.Proofs.Tryd.f28 (.one (LChange))))))
theorem patch_Compose_l4_eq (call : Call0) (n : Nat)  : ∀ (m : Nat) (pt0 : den (LChange)) (it6 : den (.int .i64)) (t9 : den (LChange)) (t10 : den (.int .i64)) (t11 : den (.int .i64)) (outo5 : den (LChange)), loopN (patch_Compose_F4 call n ) m (patch_Compose_sh4 pt0 it6 t9 t10 t11 outo5) = patch_Compose_l4  n  m pt0 it6 t9 t10 t11 outo5 := by
  intro m
  induction m with
  | zero => intros; rfl
  | succ m ih =>
    intro pt0 it6 t9 t10 t11 outo5
    have h : loopN (patch_Compose_F4 call n ) (m + 1) (patch_Compose_sh4 pt0 it6 t9 t10 t11 outo5) = patch_Compose_s4  (fun (pt0 : den (LChange)) (it6 : den (.int .i64)) (t9 : den (LChange)) (t10 : den (.int .i64)) (t11 : den (.int .i64)) (outo5 : den (LChange)) (co8 : den (TChange)) => loopN (patch_Compose_F6 call n (loopN (patch_Compose_F4 call n ) m)) n (patch_Compose_sh6 pt0 it6 t9 t10 t11 outo5 co8))  (fun (pt0 : den (LChange)) (it6 : den (.int .i64)) (t9 : den (LChange)) (t10 : den (.int .i64)) (t11 : den (.int .i64)) (outo5 : den (LChange)) => loopN (patch_Compose_F4 call n ) m (patch_Compose_sh4 pt0 it6 t9 t10 t11 outo5)) pt0 it6 t9 t10 t11 outo5 := by kernel_rfl
    have e6 : (fun (pt0 : den (LChange)) (it6 : den (.int .i64)) (t9 : den (LChange)) (t10 : den (.int .i64)) (t11 : den (.int .i64)) (outo5 : den (LChange)) (co8 : den (TChange)) => loopN (patch_Compose_F6 call n (loopN (patch_Compose_F4 call n ) m)) n (patch_Compose_sh6 pt0 it6 t9 t10 t11 outo5 co8)) = patch_Compose_l6  n (fun (pt0 : den (LChange)) (it6 : den (.int .i64)) (t9 : den (LChange)) (t10 : den (.int .i64)) (t11 : den (.int .i64)) (outo5 : den (LChange)) => (loopN (patch_Compose_F4 call n ) m) (patch_Compose_sh4 pt0 it6 t9 t10 t11 outo5)) n := by funext pt0 it6 t9 t10 t11 outo5 co8; exact patch_Compose_l6_eq call n (loopN (patch_Compose_F4 call n ) m) n pt0 it6 t9 t10 t11 outo5 co8
    have e0 : (fun (pt0 : den (LChange)) (it6 : den (.int .i64)) (t9 : den (LChange)) (t10 : den (.int .i64)) (t11 : den (.int .i64)) (outo5 : den (LChange)) => loopN (patch_Compose_F4 call n ) m (patch_Compose_sh4 pt0 it6 t9 t10 t11 outo5)) = (fun (pt0 : den (LChange)) (it6 : den (.int .i64)) (t9 : den (LChange)) (t10 : den (.int .i64)) (t11 : den (.int .i64)) (outo5 : den (LChange)) => patch_Compose_l4  n  m pt0 it6 t9 t10 t11 outo5) := by funext pt0 it6 t9 t10 t11 outo5; exact ih pt0 it6 t9 t10 t11 outo5
    rw [h, e6, e0]; rfl
noncomputable def patch_Compose_top  (LL4 : den (LChange) → den (.int .i64) → den (LChange) → den (.int .i64) → den (.int .i64) → den (LChange) → Option (denR (.one (LChange)))) (a0 : den (LChange)) (a1 : den (LChange)) : Option (denR (.one (LChange))) := LL4 a0 (0 : Int) a1 (a1.length : Int) (0 : Int) []
noncomputable def patch_Compose : Nat → den (LChange) → den (LChange) → Option (denR (.one (LChange)))
  | 0, _, _ => none
  | n + 1, a0, a1 => patch_Compose_top  (patch_Compose_l4  n n) a0 a1
theorem patch_Compose_eq (n : Nat) (a0 : den (LChange)) (a1 : den (LChange)) : (acalls cfg intr intrI n).p 28 [.s (.val (LChange) a0), .s (.val (LChange) a1)] (.one (LChange)) = patch_Compose n a0 a1 := by
  cases n with
  | zero => rfl
  | succ n =>
    have h : (acalls cfg intr intrI (n + 1)).p 28 [.s (.val (LChange) a0), .s (.val (LChange) a1)] (.one (LChange)) = patch_Compose_top  (fun (pt0 : den (LChange)) (it6 : den (.int .i64)) (t9 : den (LChange)) (t10 : den (.int .i64)) (t11 : den (.int .i64)) (outo5 : den (LChange)) => loopN (patch_Compose_F4 (acalls cfg intr intrI n) n) n (patch_Compose_sh4 pt0 it6 t9 t10 t11 outo5)) a0 a1 := by kernel_rfl
    have e4 : (fun (pt0 : den (LChange)) (it6 : den (.int .i64)) (t9 : den (LChange)) (t10 : den (.int .i64)) (t11 : den (.int .i64)) (outo5 : den (LChange)) => loopN (patch_Compose_F4 (acalls cfg intr intrI n) n) n (patch_Compose_sh4 pt0 it6 t9 t10 t11 outo5)) = patch_Compose_l4  n n := by funext pt0 it6 t9 t10 t11 outo5; exact patch_Compose_l4_eq (acalls cfg intr intrI n) n n pt0 it6 t9 t10 t11 outo5
    rw [h, e4]; rfl

noncomputable def patch_Less_1_1_top   (a0 : den (TChange)) (a1 : den (TChange)) : Option (denR (.one (.bool))) := some (decide (a0.1 = a1.1))
noncomputable def patch_Less_1_1 : Nat → den (TChange) → den (TChange) → Option (denR (.one (.bool)))
  | 0, _, _ => none
  | n + 1, a0, a1 => patch_Less_1_1_top   a0 a1
theorem patch_Less_1_1_eq (n : Nat) (a0 : den (TChange)) (a1 : den (TChange)) : (acalls cfg intr intrI n).p 62 [.s (.val (TChange) a0), .s (.eptr (TChange) a1)] (.one (.bool)) = patch_Less_1_1 n a0 a1 := by
  cases n with
  | zero => rfl
  | succ n =>
    have h : (acalls cfg intr intrI (n + 1)).p 62 [.s (.val (TChange) a0), .s (.eptr (TChange) a1)] (.one (.bool)) = patch_Less_1_1_top   a0 a1 := by kernel_rfl
    rw [h]; rfl

noncomputable def slices_IndexFunc_Change__patch_Less_1_1_sh2 (st0 : den (LChange)) (ft1_0 : den (TChange)) (t7 : den (.int .i64)) (t8 : den (.int .i64)) : St := ⟨[.s (.val (LChange) st0), .fn 62 [.eptr (TChange) ft1_0], U, U, U, U, U, .s (.val (.int .i64) t7), .s (.val (.int .i64) t8), U, U, U, U, U, U, U, U, U, U], []⟩
noncomputable def slices_IndexFunc_Change__patch_Less_1_1_s2 (C_patch_Less_1_1 : den (TChange) → den (TChange) → Option (denR (.one (.bool))))   (LS2 : den (LChange) → den (TChange) → den (.int .i64) → den (.int .i64) → Option (denR (.one (.int .i64)))) (st0 : den (LChange)) (ft1_0 : den (TChange)) (t7 : den (.int .i64)) (t8 : den (.int .i64)) : Option (denR (.one (.int .i64))) := (bif (decide (t8 < t7)) then (bif decide (0 ≤ t8) && decide (t8 < (st0.length : Int)) then ((C_patch_Less_1_1 (st0.getD (Int.toNat t8) (dflt (TChange))) ft1_0).bind fun r1 => (bif r1 then some t8 else LS2 st0 ft1_0 t7 (IntKind.wrap .i64 (t8 + (1 : Int))))) else none) else some (-1 : Int))
noncomputable def slices_IndexFunc_Change__patch_Less_1_1_l2 (C_patch_Less_1_1 : den (TChange) → den (TChange) → Option (denR (.one (.bool)))) (n : Nat)  : Nat → den (LChange) → den (TChange) → den (.int .i64) → den (.int .i64) → Option (denR (.one (.int .i64)))
  | 0, _, _, _, _ => none
  | m + 1, st0, ft1_0, t7, t8 => slices_IndexFunc_Change__patch_Less_1_1_s2 C_patch_Less_1_1   (fun (st0 : den (LChange)) (ft1_0 : den (TChange)) (t7 : den (.int .i64)) (t8 : den (.int .i64)) => slices_IndexFunc_Change__patch_Less_1_1_l2 C_patch_Less_1_1 n  m st0 ft1_0 t7 t8) st0 ft1_0 t7 t8
noncomputable def slices_IndexFunc_Change__patch_Less_1_1_g2 (C_patch_Less_1_1 : den (TChange) → den (TChange) → Option (denR (.one (.bool))))   : List (den (TChange)) → den (TChange) → den (.int .i64) → Option (denR (.one (.int .i64)))
  | [], ft1_0, t8 => some (-1 : Int)
  | x :: r, ft1_0, t8 => ((C_patch_Less_1_1 x ft1_0).bind fun r2 => (bif r2 then some t8 else slices_IndexFunc_Change__patch_Less_1_1_g2 C_patch_Less_1_1   r ft1_0 (t8 + (1 : Int))))
theorem slices_IndexFunc_Change__patch_Less_1_1_l2_list (C_patch_Less_1_1 : den (TChange) → den (TChange) → Option (denR (.one (.bool)))) (n : Nat)  : ∀ (m i : Nat) (st0 : den (LChange)) (ft1_0 : den (TChange)), st0.length - i < m → i ≤ st0.length → st0.length < 4611686018427387904 → slices_IndexFunc_Change__patch_Less_1_1_l2 C_patch_Less_1_1 n  m st0 ft1_0 (st0.length : Int) (i : Int) = slices_IndexFunc_Change__patch_Less_1_1_g2 C_patch_Less_1_1   (st0.drop i) ft1_0 (i : Int) := by
  intro m
  induction m with
  | zero => intro i st0 ft1_0 h1; omega
  | succ m ih =>
    intro i st0 ft1_0 h1 h2 h3
    show slices_IndexFunc_Change__patch_Less_1_1_s2 C_patch_Less_1_1   (fun (st0 : den (LChange)) (ft1_0 : den (TChange)) (t7 : den (.int .i64)) (t8 : den (.int .i64)) => slices_IndexFunc_Change__patch_Less_1_1_l2 C_patch_Less_1_1 n  m st0 ft1_0 t7 t8) st0 ft1_0 (st0.length : Int) (i : Int) = _
    unfold slices_IndexFunc_Change__patch_Less_1_1_s2
    have b0 : decide ((0 : Int) ≤ (i : Int)) = true := decide_eq_true (by omega)
    rcases Nat.lt_or_ge i st0.length with hi | hi
    · have b1 : decide ((i : Int) < (st0.length : Int)) = true := decide_eq_true (by omega)
      have bw : IntKind.i64.wrap ((i : Int) + (1 : Int)) = ((i + 1 : Nat) : Int) := w64s (by omega)
      have ih' : ∀ (ft1_0 : den (TChange)), slices_IndexFunc_Change__patch_Less_1_1_l2 C_patch_Less_1_1 n  m st0 ft1_0 (st0.length : Int) ((i + 1 : Nat) : Int) = slices_IndexFunc_Change__patch_Less_1_1_g2 C_patch_Less_1_1   (st0.drop (i + 1)) ft1_0 ((i + 1 : Nat) : Int) := fun ft1_0 => ih (i + 1) st0 ft1_0 (by omega) (by omega) h3
      simp only [b0, b1, bw, Bool.and_true, Bool.true_and, cond_true, Int.toNat_natCast, ih']
      rw [drop_getD hi (dflt (TChange))]
      rfl
    · have b1 : decide ((i : Int) < (st0.length : Int)) = false := decide_eq_false (by omega)
      simp only [b1, cond_false]
      rw [List.drop_eq_nil_of_le hi]
      rfl
noncomputable def slices_IndexFunc_Change__patch_Less_1_1_F2 (call : Call0) (n : Nat)  : (St → Option (denR (.one (.int .i64)))) → St → Option (denR (.one (.int .i64))) := fun rec => exec cfg call n 78 (cat B78 [1, 0, 1, 0, 0]) (kLoop rec (lk2 78 2 cfg.keep) (kBlock 0 (kSq (exec cfg call n 78 (cat B78 [1, 1])) (kret cfg Go.Proofs.Tryd.f78 (.one (.int .i64))))))
theorem slices_IndexFunc_Change__patch_Less_1_1_l2_eq (call : Call0) (n : Nat)  : ∀ (m : Nat) (st0 : den (LChange)) (ft1_0 : den (TChange)) (t7 : den (.int .i64)) (t8 : den (.int .i64)), loopN (slices_IndexFunc_Change__patch_Less_1_1_F2 call n ) m (slices_IndexFunc_Change__patch_Less_1_1_sh2 st0 ft1_0 t7 t8) = slices_IndexFunc_Change__patch_Less_1_1_l2 (fun (a0 : den (TChange)) (a1 : den (TChange)) => call.p 62 [.s (.val (TChange) a0), .s (.eptr (TChange) a1)] (.one (.bool))) n  m st0 ft1_0 t7 t8 := by
  intro m
  induction m with
  | zero => intros; rfl
  | succ m ih =>
    intro st0 ft1_0 t7 t8
    have h : loopN (slices_IndexFunc_Change__patch_Less_1_1_F2 call n ) (m + 1) (slices_IndexFunc_Change__patch_Less_1_1_sh2 st0 ft1_0 t7 t8) = slices_IndexFunc_Change__patch_Less_1_1_s2 (fun (a0 : den (TChange)) (a1 : den (TChange)) => call.p 62 [.s (.val (TChange) a0), .s (.eptr (TChange) a1)] (.one (.bool)))   (fun (st0 : den (LChange)) (ft1_0 : den (TChange)) (t7 : den (.int .i64)) (t8 : den (.int .i64)) => loopN (slices_IndexFunc_Change__patch_Less_1_1_F2 call n ) m (slices_IndexFunc_Change__patch_Less_1_1_sh2 st0 ft1_0 t7 t8)) st0 ft1_0 t7 t8 := by kernel_rfl
    have e0 : (fun (st0 : den (LChange)) (ft1_0 : den (TChange)) (t7 : den (.int .i64)) (t8 : den (.int .i64)) => loopN (slices_IndexFunc_Change__patch_Less_1_1_F2 call n ) m (slices_IndexFunc_Change__patch_Less_1_1_sh2 st0 ft1_0 t7 t8)) = (fun (st0 : den (LChange)) (ft1_0 : den (TChange)) (t7 : den (.int .i64)) (t8 : den (.int .i64)) => slices_IndexFunc_Change__patch_Less_1_1_l2 (fun (a0 : den (TChange)) (a1 : den (TChange)) => call.p 62 [.s (.val (TChange) a0), .s (.eptr (TChange) a1)] (.one (.bool))) n  m st0 ft1_0 t7 t8) := by funext st0 ft1_0 t7 t8; exact ih st0 ft1_0 t7 t8
    rw [h, e0]; rfl
noncomputable def slices_IndexFunc_Change__patch_Less_1_1_top (C_patch_Less_1_1 : den (TChange) → den (TChange) → Option (denR (.one (.bool)))) (LL2 : den (LChange) → den (TChange) → den (.int .i64) → den (.int .i64) → Option (denR (.one (.int .i64)))) (a0 : den (LChange)) (a1_0 : den (TChange)) : Option (denR (.one (.int .i64))) := LL2 a0 a1_0 (a0.length : Int) (0 : Int)
noncomputable def slices_IndexFunc_Change__patch_Less_1_1 : Nat → den (LChange) → den (TChange) → Option (denR (.one (.int .i64)))
  | 0, _, _ => none
  | n + 1, a0, a1_0 => slices_IndexFunc_Change__patch_Less_1_1_top (patch_Less_1_1 n) (slices_IndexFunc_Change__patch_Less_1_1_l2 (patch_Less_1_1 n) n n) a0 a1_0
theorem slices_IndexFunc_Change__patch_Less_1_1_eq (n : Nat) (a0 : den (LChange)) (a1_0 : den (TChange)) : (acalls cfg intr intrI n).p 78 [.s (.val (LChange) a0), .fn 62 [.eptr (TChange) a1_0]] (.one (.int .i64)) = slices_IndexFunc_Change__patch_Less_1_1 n a0 a1_0 := by
  cases n with
  | zero => rfl
  | succ n =>
    have h : (acalls cfg intr intrI (n + 1)).p 78 [.s (.val (LChange) a0), .fn 62 [.eptr (TChange) a1_0]] (.one (.int .i64)) = slices_IndexFunc_Change__patch_Less_1_1_top (fun (a0 : den (TChange)) (a1 : den (TChange)) => (acalls cfg intr intrI n).p 62 [.s (.val (TChange) a0), .s (.eptr (TChange) a1)] (.one (.bool))) (fun (st0 : den (LChange)) (ft1_0 : den (TChange)) (t7 : den (.int .i64)) (t8 : den (.int .i64)) => loopN (slices_IndexFunc_Change__patch_Less_1_1_F2 (acalls cfg intr intrI n) n) n (slices_IndexFunc_Change__patch_Less_1_1_sh2 st0 ft1_0 t7 t8)) a0 a1_0 := by kernel_rfl
    have e2 : (fun (st0 : den (LChange)) (ft1_0 : den (TChange)) (t7 : den (.int .i64)) (t8 : den (.int .i64)) => loopN (slices_IndexFunc_Change__patch_Less_1_1_F2 (acalls cfg intr intrI n) n) n (slices_IndexFunc_Change__patch_Less_1_1_sh2 st0 ft1_0 t7 t8)) = slices_IndexFunc_Change__patch_Less_1_1_l2 (fun (a0 : den (TChange)) (a1 : den (TChange)) => (acalls cfg intr intrI n).p 62 [.s (.val (TChange) a0), .s (.eptr (TChange) a1)] (.one (.bool))) n n := by funext st0 ft1_0 t7 t8; exact slices_IndexFunc_Change__patch_Less_1_1_l2_eq (acalls cfg intr intrI n) n n st0 ft1_0 t7 t8
    have c_patch_Less_1_1 : (fun (a0 : den (TChange)) (a1 : den (TChange)) => (acalls cfg intr intrI n).p 62 [.s (.val (TChange) a0), .s (.eptr (TChange) a1)] (.one (.bool))) = patch_Less_1_1 n := by funext a0 a1; exact patch_Less_1_1_eq n a0 a1
    rw [h, e2, c_patch_Less_1_1]; rfl

noncomputable def slices_ContainsFunc_Change__patch_Less_1_1_top (C_slices_IndexFunc_Change__patch_Less_1_1 : den (LChange) → den (TChange) → Option (denR (.one (.int .i64))))  (a0 : den (LChange)) (a1_0 : den (TChange)) : Option (denR (.one (.bool))) := ((C_slices_IndexFunc_Change__patch_Less_1_1 a0 a1_0).bind fun r1 => some (decide ((0 : Int) ≤ r1)))
noncomputable def slices_ContainsFunc_Change__patch_Less_1_1 : Nat → den (LChange) → den (TChange) → Option (denR (.one (.bool)))
  | 0, _, _ => none
  | n + 1, a0, a1_0 => slices_ContainsFunc_Change__patch_Less_1_1_top (slices_IndexFunc_Change__patch_Less_1_1 n)  a0 a1_0
theorem slices_ContainsFunc_Change__patch_Less_1_1_eq (n : Nat) (a0 : den (LChange)) (a1_0 : den (TChange)) : (acalls cfg intr intrI n).p 61 [.s (.val (LChange) a0), .fn 62 [.eptr (TChange) a1_0]] (.one (.bool)) = slices_ContainsFunc_Change__patch_Less_1_1 n a0 a1_0 := by
  cases n with
  | zero => rfl
  | succ n =>
    have h : (acalls cfg intr intrI (n + 1)).p 61 [.s (.val (LChange) a0), .fn 62 [.eptr (TChange) a1_0]] (.one (.bool)) = slices_ContainsFunc_Change__patch_Less_1_1_top (fun (a0 : den (LChange)) (a1_0 : den (TChange)) => (acalls cfg intr intrI n).p 78 [.s (.val (LChange) a0), .fn 62 [.eptr (TChange) a1_0]] (.one (.int .i64)))  a0 a1_0 := by kernel_rfl
    have c_slices_IndexFunc_Change__patch_Less_1_1 : (fun (a0 : den (LChange)) (a1_0 : den (TChange)) => (acalls cfg intr intrI n).p 78 [.s (.val (LChange) a0), .fn 62 [.eptr (TChange) a1_0]] (.one (.int .i64))) = slices_IndexFunc_Change__patch_Less_1_1 n := by funext a0 a1_0; exact slices_IndexFunc_Change__patch_Less_1_1_eq n a0 a1_0
    rw [h, c_slices_IndexFunc_Change__patch_Less_1_1]; rfl

noncomputable def patch_Less_1_top (C_slices_ContainsFunc_Change__patch_Less_1_1 : den (LChange) → den (TChange) → Option (denR (.one (.bool))))  (a0 : den (TChange)) (a1 : den (LChange)) : Option (denR (.one (.bool))) := ((C_slices_ContainsFunc_Change__patch_Less_1_1 a1 a0).bind fun r1 => some r1)
noncomputable def patch_Less_1 : Nat → den (TChange) → den (LChange) → Option (denR (.one (.bool)))
  | 0, _, _ => none
  | n + 1, a0, a1 => patch_Less_1_top (slices_ContainsFunc_Change__patch_Less_1_1 n)  a0 a1
theorem patch_Less_1_eq (n : Nat) (a0 : den (TChange)) (a1 : den (LChange)) : (acalls cfg intr intrI n).p 60 [.s (.val (TChange) a0), .s (.eptr (LChange) a1)] (.one (.bool)) = patch_Less_1 n a0 a1 := by
  cases n with
  | zero => rfl
  | succ n =>
    have h : (acalls cfg intr intrI (n + 1)).p 60 [.s (.val (TChange) a0), .s (.eptr (LChange) a1)] (.one (.bool)) = patch_Less_1_top (fun (a0 : den (LChange)) (a1_0 : den (TChange)) => (acalls cfg intr intrI n).p 61 [.s (.val (LChange) a0), .fn 62 [.eptr (TChange) a1_0]] (.one (.bool)))  a0 a1 := by kernel_rfl
    have c_slices_ContainsFunc_Change__patch_Less_1_1 : (fun (a0 : den (LChange)) (a1_0 : den (TChange)) => (acalls cfg intr intrI n).p 61 [.s (.val (LChange) a0), .fn 62 [.eptr (TChange) a1_0]] (.one (.bool))) = slices_ContainsFunc_Change__patch_Less_1_1 n := by funext a0 a1_0; exact slices_ContainsFunc_Change__patch_Less_1_1_eq n a0 a1_0
    rw [h, c_slices_ContainsFunc_Change__patch_Less_1_1]; rfl

noncomputable def slices_IndexFunc_Change__patch_Less_1_sh2 (st0 : den (LChange)) (ft1_0 : den (LChange)) (t7 : den (.int .i64)) (t8 : den (.int .i64)) : St := ⟨[.s (.val (LChange) st0), .fn 60 [.eptr (LChange) ft1_0], U, U, U, U, U, .s (.val (.int .i64) t7), .s (.val (.int .i64) t8), U, U, U, U, U, U, U, U, U, U], []⟩
noncomputable def slices_IndexFunc_Change__patch_Less_1_s2 (C_patch_Less_1 : den (TChange) → den (LChange) → Option (denR (.one (.bool))))   (LS2 : den (LChange) → den (LChange) → den (.int .i64) → den (.int .i64) → Option (denR (.one (.int .i64)))) (st0 : den (LChange)) (ft1_0 : den (LChange)) (t7 : den (.int .i64)) (t8 : den (.int .i64)) : Option (denR (.one (.int .i64))) := (bif (decide (t8 < t7)) then (bif decide (0 ≤ t8) && decide (t8 < (st0.length : Int)) then ((C_patch_Less_1 (st0.getD (Int.toNat t8) (dflt (TChange))) ft1_0).bind fun r1 => (bif r1 then some t8 else LS2 st0 ft1_0 t7 (IntKind.wrap .i64 (t8 + (1 : Int))))) else none) else some (-1 : Int))
noncomputable def slices_IndexFunc_Change__patch_Less_1_l2 (C_patch_Less_1 : den (TChange) → den (LChange) → Option (denR (.one (.bool)))) (n : Nat)  : Nat → den (LChange) → den (LChange) → den (.int .i64) → den (.int .i64) → Option (denR (.one (.int .i64)))
  | 0, _, _, _, _ => none
  | m + 1, st0, ft1_0, t7, t8 => slices_IndexFunc_Change__patch_Less_1_s2 C_patch_Less_1   (fun (st0 : den (LChange)) (ft1_0 : den (LChange)) (t7 : den (.int .i64)) (t8 : den (.int .i64)) => slices_IndexFunc_Change__patch_Less_1_l2 C_patch_Less_1 n  m st0 ft1_0 t7 t8) st0 ft1_0 t7 t8
noncomputable def slices_IndexFunc_Change__patch_Less_1_g2 (C_patch_Less_1 : den (TChange) → den (LChange) → Option (denR (.one (.bool))))   : List (den (TChange)) → den (LChange) → den (.int .i64) → Option (denR (.one (.int .i64)))
  | [], ft1_0, t8 => some (-1 : Int)
  | x :: r, ft1_0, t8 => ((C_patch_Less_1 x ft1_0).bind fun r2 => (bif r2 then some t8 else slices_IndexFunc_Change__patch_Less_1_g2 C_patch_Less_1   r ft1_0 (t8 + (1 : Int))))
theorem slices_IndexFunc_Change__patch_Less_1_l2_list (C_patch_Less_1 : den (TChange) → den (LChange) → Option (denR (.one (.bool)))) (n : Nat)  : ∀ (m i : Nat) (st0 : den (LChange)) (ft1_0 : den (LChange)), st0.length - i < m → i ≤ st0.length → st0.length < 4611686018427387904 → slices_IndexFunc_Change__patch_Less_1_l2 C_patch_Less_1 n  m st0 ft1_0 (st0.length : Int) (i : Int) = slices_IndexFunc_Change__patch_Less_1_g2 C_patch_Less_1   (st0.drop i) ft1_0 (i : Int) := by
  intro m
  induction m with
  | zero => intro i st0 ft1_0 h1; omega
  | succ m ih =>
    intro i st0 ft1_0 h1 h2 h3
    show slices_IndexFunc_Change__patch_Less_1_s2 C_patch_Less_1   (fun (st0 : den (LChange)) (ft1_0 : den (LChange)) (t7 : den (.int .i64)) (t8 : den (.int .i64)) => slices_IndexFunc_Change__patch_Less_1_l2 C_patch_Less_1 n  m st0 ft1_0 t7 t8) st0 ft1_0 (st0.length : Int) (i : Int) = _
    unfold slices_IndexFunc_Change__patch_Less_1_s2
    have b0 : decide ((0 : Int) ≤ (i : Int)) = true := decide_eq_true (by omega)
    rcases Nat.lt_or_ge i st0.length with hi | hi
    · have b1 : decide ((i : Int) < (st0.length : Int)) = true := decide_eq_true (by omega)
      have bw : IntKind.i64.wrap ((i : Int) + (1 : Int)) = ((i + 1 : Nat) : Int) := w64s (by omega)
      have ih' : ∀ (ft1_0 : den (LChange)), slices_IndexFunc_Change__patch_Less_1_l2 C_patch_Less_1 n  m st0 ft1_0 (st0.length : Int) ((i + 1 : Nat) : Int) = slices_IndexFunc_Change__patch_Less_1_g2 C_patch_Less_1   (st0.drop (i + 1)) ft1_0 ((i + 1 : Nat) : Int) := fun ft1_0 => ih (i + 1) st0 ft1_0 (by omega) (by omega) h3
      simp only [b0, b1, bw, Bool.and_true, Bool.true_and, cond_true, Int.toNat_natCast, ih']
      rw [drop_getD hi (dflt (TChange))]
      rfl
    · have b1 : decide ((i : Int) < (st0.length : Int)) = false := decide_eq_false (by omega)
      simp only [b1, cond_false]
      rw [List.drop_eq_nil_of_le hi]
      rfl
noncomputable def slices_IndexFunc_Change__patch_Less_1_F2 (call : Call0) (n : Nat)  : (St → Option (denR (.one (.int .i64)))) → St → Option (denR (.one (.int .i64))) := fun rec => exec cfg call n 78 (cat B78 [1, 0, 1, 0, 0]) (kLoop rec (lk2 78 2 cfg.keep) (kBlock 0 (kSq (exec cfg call n 78 (cat B78 [1, 1])) (kret cfg Go.Proofs.Tryd.f78 (.one (.int .i64))))))
theorem slices_IndexFunc_Change__patch_Less_1_l2_eq (call : Call0) (n : Nat)  : ∀ (m : Nat) (st0 : den (LChange)) (ft1_0 : den (LChange)) (t7 : den (.int .i64)) (t8 : den (.int .i64)), loopN (slices_IndexFunc_Change__patch_Less_1_F2 call n ) m (slices_IndexFunc_Change__patch_Less_1_sh2 st0 ft1_0 t7 t8) = slices_IndexFunc_Change__patch_Less_1_l2 (fun (a0 : den (TChange)) (a1 : den (LChange)) => call.p 60 [.s (.val (TChange) a0), .s (.eptr (LChange) a1)] (.one (.bool))) n  m st0 ft1_0 t7 t8 := by
  intro m
  induction m with
  | zero => intros; rfl
  | succ m ih =>
    intro st0 ft1_0 t7 t8
    have h : loopN (slices_IndexFunc_Change__patch_Less_1_F2 call n ) (m + 1) (slices_IndexFunc_Change__patch_Less_1_sh2 st0 ft1_0 t7 t8) = slices_IndexFunc_Change__patch_Less_1_s2 (fun (a0 : den (TChange)) (a1 : den (LChange)) => call.p 60 [.s (.val (TChange) a0), .s (.eptr (LChange) a1)] (.one (.bool)))   (fun (st0 : den (LChange)) (ft1_0 : den (LChange)) (t7 : den (.int .i64)) (t8 : den (.int .i64)) => loopN (slices_IndexFunc_Change__patch_Less_1_F2 call n ) m (slices_IndexFunc_Change__patch_Less_1_sh2 st0 ft1_0 t7 t8)) st0 ft1_0 t7 t8 := by kernel_rfl
    have e0 : (fun (st0 : den (LChange)) (ft1_0 : den (LChange)) (t7 : den (.int .i64)) (t8 : den (.int .i64)) => loopN (slices_IndexFunc_Change__patch_Less_1_F2 call n ) m (slices_IndexFunc_Change__patch_Less_1_sh2 st0 ft1_0 t7 t8)) = (fun (st0 : den (LChange)) (ft1_0 : den (LChange)) (t7 : den (.int .i64)) (t8 : den (.int .i64)) => slices_IndexFunc_Change__patch_Less_1_l2 (fun (a0 : den (TChange)) (a1 : den (LChange)) => call.p 60 [.s (.val (TChange) a0), .s (.eptr (LChange) a1)] (.one (.bool))) n  m st0 ft1_0 t7 t8) := by funext st0 ft1_0 t7 t8; exact ih st0 ft1_0 t7 t8
    rw [h, e0]; rfl
noncomputable def slices_IndexFunc_Change__patch_Less_1_top (C_patch_Less_1 : den (TChange) → den (LChange) → Option (denR (.one (.bool)))) (LL2 : den (LChange) → den (LChange) → den (.int .i64) → den (.int .i64) → Option (denR (.one (.int .i64)))) (a0 : den (LChange)) (a1_0 : den (LChange)) : Option (denR (.one (.int .i64))) := LL2 a0 a1_0 (a0.length : Int) (0 : Int)
noncomputable def slices_IndexFunc_Change__patch_Less_1 : Nat → den (LChange) → den (LChange) → Option (denR (.one (.int .i64)))
  | 0, _, _ => none
  | n + 1, a0, a1_0 => slices_IndexFunc_Change__patch_Less_1_top (patch_Less_1 n) (slices_IndexFunc_Change__patch_Less_1_l2 (patch_Less_1 n) n n) a0 a1_0
theorem slices_IndexFunc_Change__patch_Less_1_eq (n : Nat) (a0 : den (LChange)) (a1_0 : den (LChange)) : (acalls cfg intr intrI n).p 78 [.s (.val (LChange) a0), .fn 60 [.eptr (LChange) a1_0]] (.one (.int .i64)) = slices_IndexFunc_Change__patch_Less_1 n a0 a1_0 := by
  cases n with
  | zero => rfl
  | succ n =>
    have h : (acalls cfg intr intrI (n + 1)).p 78 [.s (.val (LChange) a0), .fn 60 [.eptr (LChange) a1_0]] (.one (.int .i64)) = slices_IndexFunc_Change__patch_Less_1_top (fun (a0 : den (TChange)) (a1 : den (LChange)) => (acalls cfg intr intrI n).p 60 [.s (.val (TChange) a0), .s (.eptr (LChange) a1)] (.one (.bool))) (fun (st0 : den (LChange)) (ft1_0 : den (LChange)) (t7 : den (.int .i64)) (t8 : den (.int .i64)) => loopN (slices_IndexFunc_Change__patch_Less_1_F2 (acalls cfg intr intrI n) n) n (slices_IndexFunc_Change__patch_Less_1_sh2 st0 ft1_0 t7 t8)) a0 a1_0 := by kernel_rfl
    have e2 : (fun (st0 : den (LChange)) (ft1_0 : den (LChange)) (t7 : den (.int .i64)) (t8 : den (.int .i64)) => loopN (slices_IndexFunc_Change__patch_Less_1_F2 (acalls cfg intr intrI n) n) n (slices_IndexFunc_Change__patch_Less_1_sh2 st0 ft1_0 t7 t8)) = slices_IndexFunc_Change__patch_Less_1_l2 (fun (a0 : den (TChange)) (a1 : den (LChange)) => (acalls cfg intr intrI n).p 60 [.s (.val (TChange) a0), .s (.eptr (LChange) a1)] (.one (.bool))) n n := by funext st0 ft1_0 t7 t8; exact slices_IndexFunc_Change__patch_Less_1_l2_eq (acalls cfg intr intrI n) n n st0 ft1_0 t7 t8
    have c_patch_Less_1 : (fun (a0 : den (TChange)) (a1 : den (LChange)) => (acalls cfg intr intrI n).p 60 [.s (.val (TChange) a0), .s (.eptr (LChange) a1)] (.one (.bool))) = patch_Less_1 n := by funext a0 a1; exact patch_Less_1_eq n a0 a1
    rw [h, e2, c_patch_Less_1]; rfl

noncomputable def slices_DeleteFunc_Change__patch_Less_1_sh5 (delt1_0 : den (LChange)) (it5 : den (.int .i64)) (jt6 : den (.int .i64)) (o42 : den (LChange)) : St := ⟨[.s (.arr 42), .fn 60 [.eptr (LChange) delt1_0], U, U, U, .s (.val (.int .i64) it5), .s (.val (.int .i64) jt6), U, U, U, U, U, U, U, U, U, U, U, U, U, U, U, U, U, U, U, U, U, U, U, U, U, U, U, U, U, U, U, U, U, U, U], [(42, .arr 40 (TChange) o42)]⟩
noncomputable def slices_DeleteFunc_Change__patch_Less_1_s5 (C_slices_IndexFunc_Change__patch_Less_1 : den (LChange) → den (LChange) → Option (denR (.one (.int .i64)))) (C_patch_Less_1 : den (TChange) → den (LChange) → Option (denR (.one (.bool))))   (LS5 : den (LChange) → den (.int .i64) → den (.int .i64) → den (LChange) → Option (denS (⟨.row 40 (TChange), [.dead]⟩ : Sig))) (delt1_0 : den (LChange)) (it5 : den (.int .i64)) (jt6 : den (.int .i64)) (o42 : den (LChange)) : Option (denS (⟨.row 40 (TChange), [.dead]⟩ : Sig)) := (bif (decide (jt6 < (o42.length : Int))) then (bif decide (0 ≤ jt6) && decide (jt6 < (o42.length : Int)) then ((C_patch_Less_1 (o42.getD (Int.toNat jt6) (dflt (TChange))) delt1_0).bind fun r2 => (bif (!r2) then (bif decide (0 ≤ it5) && decide (it5 < (o42.length : Int)) then LS5 delt1_0 (IntKind.wrap .i64 (it5 + (1 : Int))) (IntKind.wrap .i64 (jt6 + (1 : Int))) (o42.set (Int.toNat it5) (o42.getD (Int.toNat jt6) (dflt (TChange)))) else none) else LS5 delt1_0 it5 (IntKind.wrap .i64 (jt6 + (1 : Int))) o42)) else none) else (bif decide (0 ≤ it5) && decide (it5 ≤ (o42.length : Int)) then (bif decide (0 ≤ it5) && decide (it5 ≤ ((o42.take (Int.toNat it5) ++ List.replicate (o42.length - (Int.toNat it5)) (dflt (TChange))).length : Int)) then some (((o42.take (Int.toNat it5) ++ List.replicate (o42.length - (Int.toNat it5)) (dflt (TChange))).take (Int.toNat it5)), ((), ())) else none) else none))
noncomputable def slices_DeleteFunc_Change__patch_Less_1_l5 (C_slices_IndexFunc_Change__patch_Less_1 : den (LChange) → den (LChange) → Option (denR (.one (.int .i64)))) (C_patch_Less_1 : den (TChange) → den (LChange) → Option (denR (.one (.bool)))) (n : Nat)  : Nat → den (LChange) → den (.int .i64) → den (.int .i64) → den (LChange) → Option (denS (⟨.row 40 (TChange), [.dead]⟩ : Sig))
  | 0, _, _, _, _ => none
  | m + 1, delt1_0, it5, jt6, o42 => slices_DeleteFunc_Change__patch_Less_1_s5 C_slices_IndexFunc_Change__patch_Less_1 C_patch_Less_1   (fun (delt1_0 : den (LChange)) (it5 : den (.int .i64)) (jt6 : den (.int .i64)) (o42 : den (LChange)) => slices_DeleteFunc_Change__patch_Less_1_l5 C_slices_IndexFunc_Change__patch_Less_1 C_patch_Less_1 n  m delt1_0 it5 jt6 o42) delt1_0 it5 jt6 o42
noncomputable def slices_DeleteFunc_Change__patch_Less_1_F5 (call : Call0) (n : Nat)  : (St → Option (denS (⟨.row 40 (TChange), [.dead]⟩ : Sig))) → St → Option (denS (⟨.row 40 (TChange), [.dead]⟩ : Sig)) := fun rec => exec cfg call n 52 (cat B52 [1, 1, 1, 0, 1, 0, 0]) (kLoop rec (lk2 52 5 cfg.keep) (kBlock 0 (kSq (exec cfg call n 52 (cat B52 [1, 1, 1, 1])) (kretS cfg Go.Proofs.Tryd.f52 (⟨.row 40 (TChange), [.dead]⟩ : Sig)))))
theorem slices_DeleteFunc_Change__patch_Less_1_l5_eq (call : Call0) (n : Nat)  : ∀ (m : Nat) (delt1_0 : den (LChange)) (it5 : den (.int .i64)) (jt6 : den (.int .i64)) (o42 : den (LChange)), loopN (slices_DeleteFunc_Change__patch_Less_1_F5 call n ) m (slices_DeleteFunc_Change__patch_Less_1_sh5 delt1_0 it5 jt6 o42) = slices_DeleteFunc_Change__patch_Less_1_l5 (fun (a0 : den (LChange)) (a1_0 : den (LChange)) => call.p 78 [.s (.val (LChange) a0), .fn 60 [.eptr (LChange) a1_0]] (.one (.int .i64))) (fun (a0 : den (TChange)) (a1 : den (LChange)) => call.p 60 [.s (.val (TChange) a0), .s (.eptr (LChange) a1)] (.one (.bool))) n  m delt1_0 it5 jt6 o42 := by
  intro m
  induction m with
  | zero => intros; rfl
  | succ m ih =>
    intro delt1_0 it5 jt6 o42
    have h : loopN (slices_DeleteFunc_Change__patch_Less_1_F5 call n ) (m + 1) (slices_DeleteFunc_Change__patch_Less_1_sh5 delt1_0 it5 jt6 o42) = slices_DeleteFunc_Change__patch_Less_1_s5 (fun (a0 : den (LChange)) (a1_0 : den (LChange)) => call.p 78 [.s (.val (LChange) a0), .fn 60 [.eptr (LChange) a1_0]] (.one (.int .i64))) (fun (a0 : den (TChange)) (a1 : den (LChange)) => call.p 60 [.s (.val (TChange) a0), .s (.eptr (LChange) a1)] (.one (.bool)))   (fun (delt1_0 : den (LChange)) (it5 : den (.int .i64)) (jt6 : den (.int .i64)) (o42 : den (LChange)) => loopN (slices_DeleteFunc_Change__patch_Less_1_F5 call n ) m (slices_DeleteFunc_Change__patch_Less_1_sh5 delt1_0 it5 jt6 o42)) delt1_0 it5 jt6 o42 := by kernel_rfl
    have e0 : (fun (delt1_0 : den (LChange)) (it5 : den (.int .i64)) (jt6 : den (.int .i64)) (o42 : den (LChange)) => loopN (slices_DeleteFunc_Change__patch_Less_1_F5 call n ) m (slices_DeleteFunc_Change__patch_Less_1_sh5 delt1_0 it5 jt6 o42)) = (fun (delt1_0 : den (LChange)) (it5 : den (.int .i64)) (jt6 : den (.int .i64)) (o42 : den (LChange)) => slices_DeleteFunc_Change__patch_Less_1_l5 (fun (a0 : den (LChange)) (a1_0 : den (LChange)) => call.p 78 [.s (.val (LChange) a0), .fn 60 [.eptr (LChange) a1_0]] (.one (.int .i64))) (fun (a0 : den (TChange)) (a1 : den (LChange)) => call.p 60 [.s (.val (TChange) a0), .s (.eptr (LChange) a1)] (.one (.bool))) n  m delt1_0 it5 jt6 o42) := by funext delt1_0 it5 jt6 o42; exact ih delt1_0 it5 jt6 o42
    rw [h, e0]; rfl
noncomputable def slices_DeleteFunc_Change__patch_Less_1_top (C_slices_IndexFunc_Change__patch_Less_1 : den (LChange) → den (LChange) → Option (denR (.one (.int .i64)))) (C_patch_Less_1 : den (TChange) → den (LChange) → Option (denR (.one (.bool)))) (LL5 : den (LChange) → den (.int .i64) → den (.int .i64) → den (LChange) → Option (denS (⟨.row 40 (TChange), [.dead]⟩ : Sig))) (a1_0 : den (LChange)) (o0 : den (LChange)) : Option (denS (⟨.row 40 (TChange), [.dead]⟩ : Sig)) := ((C_slices_IndexFunc_Change__patch_Less_1 o0 a1_0).bind fun r1 => (bif (decide (r1 = (-1 : Int))) then some (o0, ((), ())) else LL5 a1_0 r1 (IntKind.wrap .i64 (r1 + (1 : Int))) o0))
noncomputable def slices_DeleteFunc_Change__patch_Less_1 : Nat → den (LChange) → den (LChange) → Option (denS (⟨.row 40 (TChange), [.dead]⟩ : Sig))
  | 0, _, _ => none
  | n + 1, a1_0, o0 => slices_DeleteFunc_Change__patch_Less_1_top (slices_IndexFunc_Change__patch_Less_1 n) (patch_Less_1 n) (slices_DeleteFunc_Change__patch_Less_1_l5 (slices_IndexFunc_Change__patch_Less_1 n) (patch_Less_1 n) n n) a1_0 o0
theorem slices_DeleteFunc_Change__patch_Less_1_eq (n : Nat) (a1_0 : den (LChange)) (o0 : den (LChange)) : (acalls cfg intr intrI n).i 52 [.s (.arr 42), .fn 60 [.eptr (LChange) a1_0]] [(42, .arr 40 (TChange) o0)] (⟨.row 40 (TChange), [.dead]⟩ : Sig) = slices_DeleteFunc_Change__patch_Less_1 n a1_0 o0 := by
  cases n with
  | zero => rfl
  | succ n =>
    have h : (acalls cfg intr intrI (n + 1)).i 52 [.s (.arr 42), .fn 60 [.eptr (LChange) a1_0]] [(42, .arr 40 (TChange) o0)] (⟨.row 40 (TChange), [.dead]⟩ : Sig) = slices_DeleteFunc_Change__patch_Less_1_top (fun (a0 : den (LChange)) (a1_0 : den (LChange)) => (acalls cfg intr intrI n).p 78 [.s (.val (LChange) a0), .fn 60 [.eptr (LChange) a1_0]] (.one (.int .i64))) (fun (a0 : den (TChange)) (a1 : den (LChange)) => (acalls cfg intr intrI n).p 60 [.s (.val (TChange) a0), .s (.eptr (LChange) a1)] (.one (.bool))) (fun (delt1_0 : den (LChange)) (it5 : den (.int .i64)) (jt6 : den (.int .i64)) (o42 : den (LChange)) => loopN (slices_DeleteFunc_Change__patch_Less_1_F5 (acalls cfg intr intrI n) n) n (slices_DeleteFunc_Change__patch_Less_1_sh5 delt1_0 it5 jt6 o42)) a1_0 o0 := by kernel_rfl
    have e5 : (fun (delt1_0 : den (LChange)) (it5 : den (.int .i64)) (jt6 : den (.int .i64)) (o42 : den (LChange)) => loopN (slices_DeleteFunc_Change__patch_Less_1_F5 (acalls cfg intr intrI n) n) n (slices_DeleteFunc_Change__patch_Less_1_sh5 delt1_0 it5 jt6 o42)) = slices_DeleteFunc_Change__patch_Less_1_l5 (fun (a0 : den (LChange)) (a1_0 : den (LChange)) => (acalls cfg intr intrI n).p 78 [.s (.val (LChange) a0), .fn 60 [.eptr (LChange) a1_0]] (.one (.int .i64))) (fun (a0 : den (TChange)) (a1 : den (LChange)) => (acalls cfg intr intrI n).p 60 [.s (.val (TChange) a0), .s (.eptr (LChange) a1)] (.one (.bool))) n n := by funext delt1_0 it5 jt6 o42; exact slices_DeleteFunc_Change__patch_Less_1_l5_eq (acalls cfg intr intrI n) n n delt1_0 it5 jt6 o42
    have c_slices_IndexFunc_Change__patch_Less_1 : (fun (a0 : den (LChange)) (a1_0 : den (LChange)) => (acalls cfg intr intrI n).p 78 [.s (.val (LChange) a0), .fn 60 [.eptr (LChange) a1_0]] (.one (.int .i64))) = slices_IndexFunc_Change__patch_Less_1 n := by funext a0 a1_0; exact slices_IndexFunc_Change__patch_Less_1_eq n a0 a1_0
    have c_patch_Less_1 : (fun (a0 : den (TChange)) (a1 : den (LChange)) => (acalls cfg intr intrI n).p 60 [.s (.val (TChange) a0), .s (.eptr (LChange) a1)] (.one (.bool))) = patch_Less_1 n := by funext a0 a1; exact patch_Less_1_eq n a0 a1
    rw [h, e5, c_slices_IndexFunc_Change__patch_Less_1, c_patch_Less_1]; rfl

noncomputable def patch_Less_top (C_slices_Clone_Change : den (LChange) → Option (denS (⟨.row 40 (TChange), []⟩ : Sig))) (C_slices_DeleteFunc_Change__patch_Less_1 : den (LChange) → den (LChange) → Option (denS (⟨.row 40 (TChange), [.dead]⟩ : Sig)))  (a0 : den (LChange)) (a1 : den (LChange)) : Option (denR (.one (LChange))) := ((C_slices_Clone_Change a0).bind fun r1 => ((C_slices_DeleteFunc_Change__patch_Less_1 a1 r1.1).bind fun r2 => some r2.1))
noncomputable def patch_Less : Nat → den (LChange) → den (LChange) → Option (denR (.one (LChange)))
  | 0, _, _ => none
  | n + 1, a0, a1 => patch_Less_top (slices_Clone_Change n) (slices_DeleteFunc_Change__patch_Less_1 n)  a0 a1
theorem patch_Less_eq (n : Nat) (a0 : den (LChange)) (a1 : den (LChange)) : (acalls cfg intr intrI n).p 30 [.s (.val (LChange) a0), .s (.val (LChange) a1)] (.one (LChange)) = patch_Less n a0 a1 := by
  cases n with
  | zero => rfl
  | succ n =>
    have h : (acalls cfg intr intrI (n + 1)).p 30 [.s (.val (LChange) a0), .s (.val (LChange) a1)] (.one (LChange)) = patch_Less_top (fun (a0 : den (LChange)) => (acalls cfg intr intrI n).i 53 [.s (.val (LChange) a0)] [] (⟨.row 40 (TChange), []⟩ : Sig)) (fun (a1_0 : den (LChange)) (o0 : den (LChange)) => (acalls cfg intr intrI n).i 52 [.s (.arr 42), .fn 60 [.eptr (LChange) a1_0]] [(42, .arr 40 (TChange) o0)] (⟨.row 40 (TChange), [.dead]⟩ : Sig))  a0 a1 := by kernel_rfl
    have c_slices_Clone_Change : (fun (a0 : den (LChange)) => (acalls cfg intr intrI n).i 53 [.s (.val (LChange) a0)] [] (⟨.row 40 (TChange), []⟩ : Sig)) = slices_Clone_Change n := by funext a0; exact slices_Clone_Change_eq n a0
    have c_slices_DeleteFunc_Change__patch_Less_1 : (fun (a1_0 : den (LChange)) (o0 : den (LChange)) => (acalls cfg intr intrI n).i 52 [.s (.arr 42), .fn 60 [.eptr (LChange) a1_0]] [(42, .arr 40 (TChange) o0)] (⟨.row 40 (TChange), [.dead]⟩ : Sig)) = slices_DeleteFunc_Change__patch_Less_1 n := by funext a1_0 o0; exact slices_DeleteFunc_Change__patch_Less_1_eq n a1_0 o0
    rw [h, c_slices_Clone_Change, c_slices_DeleteFunc_Change__patch_Less_1]; rfl

noncomputable def B5 : Code := (Go.Proofs.Tryd.f5.body).getD .skip
noncomputable def law06_PatchStay_sh8 (t0 : den (LKey)) (t1 : den (LAttr)) (t3 : den (LChange)) (t11 : den (PSchema)) (t82 : den (.int .i64)) (t83 : den (.int .i64)) (o13 : den (LLChange)) : St := ⟨[.s (.val (LKey) t0), .s (.val (LAttr) t1), U, .s (.val (LChange) t3), U, U, U, U, U, U, U, .s (.val (PSchema) t11), U, .s (.arr 13), U, U, U, U, U, U, U, U, U, U, U, U, U, U, U, U, U, U, U, U, U, U, U, U, U, U, U, U, U, U, U, U, U, U, U, U, U, U, U, U, U, U, U, U, U, U, U, U, U, U, U, U, U, U, U, U, U, U, U, U, U, U, U, U, U, U, U, U, .s (.val (.int .i64) t82), .s (.val (.int .i64) t83), U, U, U, U, U, U, U, U, U, U, U, U, U, U, U, U, U, U, U], [(13, .arr 24 (LChange) o13)]⟩
noncomputable def law06_PatchStay_s8 (C_law06_known : Option (denR (.one (.bool)))) (C_law06_great : den (LChange) → den (LLAttr) → Option (denR (.one (.bool)))) (C_schema_New : den (LKey) → Option (denR (.two (PSchema) (.int .i64)))) (C_patch_May : den (PSchema) → den (LChange) → Option (denR (.one (.int .i64)))) (C_ref05_May : den (LKey) → den (LAttr) → Option (denR (.one (.int .i64)))) (C_patch_Diff : den (LAttr) → den (LAttr) → Option (denR (.one (LChange)))) (C_patch_Compose : den (LChange) → den (LChange) → Option (denR (.one (LChange)))) (C_patch_Invert : den (LAttr) → den (LChange) → Option (denR (.one (LChange)))) (C_patch_Less : den (LChange) → den (LChange) → Option (denR (.one (LChange)))) (C_patch_Part : den (PSchema) → den (LChange) → den (.bool) → Option (denR (.one (LChange)))) (C_patch_Apply : den (LAttr) → den (LChange) → Option (denR (.one (LAttr))))   (LS8 : den (LKey) → den (LAttr) → den (LChange) → den (PSchema) → den (.int .i64) → den (.int .i64) → den (LLChange) → Option (denR (.one (.bool)))) (t0 : den (LKey)) (t1 : den (LAttr)) (t3 : den (LChange)) (t11 : den (PSchema)) (t82 : den (.int .i64)) (t83 : den (.int .i64)) (o13 : den (LLChange)) : Option (denR (.one (.bool))) := (bif (decide (t83 < t82)) then (bif decide (0 ≤ t83) && decide (t83 < (o13.length : Int)) then ((C_patch_May t11 (o13.getD (Int.toNat t83) (dflt (LChange)))).bind fun r22 => (bif ((!decide (r22 = (0 : Int)))) then some false else LS8 t0 t1 t3 t11 t82 (IntKind.wrap .i64 (t83 + (1 : Int))) o13)) else none) else ((C_patch_Apply t1 t3).bind fun r23 => ((C_ref05_May t0 r23).bind fun r24 => (bif (decide (r24 = (0 : Int))) then ((C_law06_known).bind fun r25 => some r25) else some false))))
noncomputable def law06_PatchStay_l8 (C_law06_known : Option (denR (.one (.bool)))) (C_law06_great : den (LChange) → den (LLAttr) → Option (denR (.one (.bool)))) (C_schema_New : den (LKey) → Option (denR (.two (PSchema) (.int .i64)))) (C_patch_May : den (PSchema) → den (LChange) → Option (denR (.one (.int .i64)))) (C_ref05_May : den (LKey) → den (LAttr) → Option (denR (.one (.int .i64)))) (C_patch_Diff : den (LAttr) → den (LAttr) → Option (denR (.one (LChange)))) (C_patch_Compose : den (LChange) → den (LChange) → Option (denR (.one (LChange)))) (C_patch_Invert : den (LAttr) → den (LChange) → Option (denR (.one (LChange)))) (C_patch_Less : den (LChange) → den (LChange) → Option (denR (.one (LChange)))) (C_patch_Part : den (PSchema) → den (LChange) → den (.bool) → Option (denR (.one (LChange)))) (C_patch_Apply : den (LAttr) → den (LChange) → Option (denR (.one (LAttr)))) (n : Nat)  : Nat → den (LKey) → den (LAttr) → den (LChange) → den (PSchema) → den (.int .i64) → den (.int .i64) → den (LLChange) → Option (denR (.one (.bool)))
  | 0, _, _, _, _, _, _, _ => none
  | m + 1, t0, t1, t3, t11, t82, t83, o13 => law06_PatchStay_s8 C_law06_known C_law06_great C_schema_New C_patch_May C_ref05_May C_patch_Diff C_patch_Compose C_patch_Invert C_patch_Less C_patch_Part C_patch_Apply   (fun (t0 : den (LKey)) (t1 : den (LAttr)) (t3 : den (LChange)) (t11 : den (PSchema)) (t82 : den (.int .i64)) (t83 : den (.int .i64)) (o13 : den (LLChange)) => law06_PatchStay_l8 C_law06_known C_law06_great C_schema_New C_patch_May C_ref05_May C_patch_Diff C_patch_Compose C_patch_Invert C_patch_Less C_patch_Part C_patch_Apply n  m t0 t1 t3 t11 t82 t83 o13) t0 t1 t3 t11 t82 t83 o13
noncomputable def law06_PatchStay_g8 (C_law06_known : Option (denR (.one (.bool)))) (C_law06_great : den (LChange) → den (LLAttr) → Option (denR (.one (.bool)))) (C_schema_New : den (LKey) → Option (denR (.two (PSchema) (.int .i64)))) (C_patch_May : den (PSchema) → den (LChange) → Option (denR (.one (.int .i64)))) (C_ref05_May : den (LKey) → den (LAttr) → Option (denR (.one (.int .i64)))) (C_patch_Diff : den (LAttr) → den (LAttr) → Option (denR (.one (LChange)))) (C_patch_Compose : den (LChange) → den (LChange) → Option (denR (.one (LChange)))) (C_patch_Invert : den (LAttr) → den (LChange) → Option (denR (.one (LChange)))) (C_patch_Less : den (LChange) → den (LChange) → Option (denR (.one (LChange)))) (C_patch_Part : den (PSchema) → den (LChange) → den (.bool) → Option (denR (.one (LChange)))) (C_patch_Apply : den (LAttr) → den (LChange) → Option (denR (.one (LAttr))))   : List (den (LChange)) → den (LKey) → den (LAttr) → den (LChange) → den (PSchema) → Option (denR (.one (.bool)))
  | [], t0, t1, t3, t11 => ((C_patch_Apply t1 t3).bind fun r26 => ((C_ref05_May t0 r26).bind fun r27 => (bif (decide (r27 = (0 : Int))) then ((C_law06_known).bind fun r28 => some r28) else some false)))
  | x :: r, t0, t1, t3, t11 => ((C_patch_May t11 x).bind fun r29 => (bif ((!decide (r29 = (0 : Int)))) then some false else law06_PatchStay_g8 C_law06_known C_law06_great C_schema_New C_patch_May C_ref05_May C_patch_Diff C_patch_Compose C_patch_Invert C_patch_Less C_patch_Part C_patch_Apply   r t0 t1 t3 t11))
theorem law06_PatchStay_l8_list (C_law06_known : Option (denR (.one (.bool)))) (C_law06_great : den (LChange) → den (LLAttr) → Option (denR (.one (.bool)))) (C_schema_New : den (LKey) → Option (denR (.two (PSchema) (.int .i64)))) (C_patch_May : den (PSchema) → den (LChange) → Option (denR (.one (.int .i64)))) (C_ref05_May : den (LKey) → den (LAttr) → Option (denR (.one (.int .i64)))) (C_patch_Diff : den (LAttr) → den (LAttr) → Option (denR (.one (LChange)))) (C_patch_Compose : den (LChange) → den (LChange) → Option (denR (.one (LChange)))) (C_patch_Invert : den (LAttr) → den (LChange) → Option (denR (.one (LChange)))) (C_patch_Less : den (LChange) → den (LChange) → Option (denR (.one (LChange)))) (C_patch_Part : den (PSchema) → den (LChange) → den (.bool) → Option (denR (.one (LChange)))) (C_patch_Apply : den (LAttr) → den (LChange) → Option (denR (.one (LAttr)))) (n : Nat)  : ∀ (m i : Nat) (t0 : den (LKey)) (t1 : den (LAttr)) (t3 : den (LChange)) (t11 : den (PSchema)) (o13 : den (LLChange)), o13.length - i < m → i ≤ o13.length → o13.length < 4611686018427387904 → law06_PatchStay_l8 C_law06_known C_law06_great C_schema_New C_patch_May C_ref05_May C_patch_Diff C_patch_Compose C_patch_Invert C_patch_Less C_patch_Part C_patch_Apply n  m t0 t1 t3 t11 (o13.length : Int) (i : Int) o13 = law06_PatchStay_g8 C_law06_known C_law06_great C_schema_New C_patch_May C_ref05_May C_patch_Diff C_patch_Compose C_patch_Invert C_patch_Less C_patch_Part C_patch_Apply   (o13.drop i) t0 t1 t3 t11 := by
  intro m
  induction m with
  | zero => intro i t0 t1 t3 t11 o13 h1; omega
  | succ m ih =>
    intro i t0 t1 t3 t11 o13 h1 h2 h3
    show law06_PatchStay_s8 C_law06_known C_law06_great C_schema_New C_patch_May C_ref05_May C_patch_Diff C_patch_Compose C_patch_Invert C_patch_Less C_patch_Part C_patch_Apply   (fun (t0 : den (LKey)) (t1 : den (LAttr)) (t3 : den (LChange)) (t11 : den (PSchema)) (t82 : den (.int .i64)) (t83 : den (.int .i64)) (o13 : den (LLChange)) => law06_PatchStay_l8 C_law06_known C_law06_great C_schema_New C_patch_May C_ref05_May C_patch_Diff C_patch_Compose C_patch_Invert C_patch_Less C_patch_Part C_patch_Apply n  m t0 t1 t3 t11 t82 t83 o13) t0 t1 t3 t11 (o13.length : Int) (i : Int) o13 = _
    unfold law06_PatchStay_s8
    have b0 : decide ((0 : Int) ≤ (i : Int)) = true := decide_eq_true (by omega)
    rcases Nat.lt_or_ge i o13.length with hi | hi
    · have b1 : decide ((i : Int) < (o13.length : Int)) = true := decide_eq_true (by omega)
      have bw : IntKind.i64.wrap ((i : Int) + (1 : Int)) = ((i + 1 : Nat) : Int) := w64s (by omega)
      have ih' : ∀ (t0 : den (LKey)) (t1 : den (LAttr)) (t3 : den (LChange)) (t11 : den (PSchema)), law06_PatchStay_l8 C_law06_known C_law06_great C_schema_New C_patch_May C_ref05_May C_patch_Diff C_patch_Compose C_patch_Invert C_patch_Less C_patch_Part C_patch_Apply n  m t0 t1 t3 t11 (o13.length : Int) ((i + 1 : Nat) : Int) o13 = law06_PatchStay_g8 C_law06_known C_law06_great C_schema_New C_patch_May C_ref05_May C_patch_Diff C_patch_Compose C_patch_Invert C_patch_Less C_patch_Part C_patch_Apply   (o13.drop (i + 1)) t0 t1 t3 t11 := fun t0 t1 t3 t11 => ih (i + 1) t0 t1 t3 t11 o13 (by omega) (by omega) h3
      simp only [b0, b1, bw, Bool.and_true, Bool.true_and, cond_true, Int.toNat_natCast, ih']
      rw [drop_getD hi (dflt (LChange))]
      rfl
    · have b1 : decide ((i : Int) < (o13.length : Int)) = false := decide_eq_false (by omega)
      simp only [b1, cond_false]
      rw [List.drop_eq_nil_of_le hi]
      rfl
noncomputable def law06_PatchStay_F8 (call : Call0) (n : Nat)  : (St → Option (denR (.one (.bool)))) → St → Option (denR (.one (.bool))) := fun rec => exec cfg call n 5 (cat B5 [1, 1, 1, 1, 1, 0, 1, 0, 0]) (kLoop rec (lk2 5 8 cfg.keep) (kBlock 0 (kSq (exec cfg call n 5 (cat B5 [1, 1, 1, 1, 1, 1])) (kret cfg Go.Proofs.Tryd.f5 (.one (.bool))))))
theorem law06_PatchStay_l8_eq (call : Call0) (n : Nat)  : ∀ (m : Nat) (t0 : den (LKey)) (t1 : den (LAttr)) (t3 : den (LChange)) (t11 : den (PSchema)) (t82 : den (.int .i64)) (t83 : den (.int .i64)) (o13 : den (LLChange)), loopN (law06_PatchStay_F8 call n ) m (law06_PatchStay_sh8 t0 t1 t3 t11 t82 t83 o13) = law06_PatchStay_l8 (call.p 11 [] (.one (.bool))) (fun (a0 : den (LChange)) (a1 : den (LLAttr)) => call.p 9 [.s (.val (LChange) a0), .s (.val (LLAttr) a1)] (.one (.bool))) (fun (a0 : den (LKey)) => call.p 12 [.s (.val (LKey) a0)] (.two (PSchema) (.int .i64))) (fun (a0 : den (PSchema)) (a1 : den (LChange)) => call.p 13 [.s (.val (PSchema) a0), .s (.val (LChange) a1)] (.one (.int .i64))) (fun (a0 : den (LKey)) (a1 : den (LAttr)) => call.p 26 [.s (.val (LKey) a0), .s (.val (LAttr) a1)] (.one (.int .i64))) (fun (a0 : den (LAttr)) (a1 : den (LAttr)) => call.p 27 [.s (.val (LAttr) a0), .s (.val (LAttr) a1)] (.one (LChange))) (fun (a0 : den (LChange)) (a1 : den (LChange)) => call.p 28 [.s (.val (LChange) a0), .s (.val (LChange) a1)] (.one (LChange))) (fun (a0 : den (LAttr)) (a1 : den (LChange)) => call.p 29 [.s (.val (LAttr) a0), .s (.val (LChange) a1)] (.one (LChange))) (fun (a0 : den (LChange)) (a1 : den (LChange)) => call.p 30 [.s (.val (LChange) a0), .s (.val (LChange) a1)] (.one (LChange))) (fun (a0 : den (PSchema)) (a1 : den (LChange)) (a2 : den (.bool)) => call.p 14 [.s (.val (PSchema) a0), .s (.val (LChange) a1), .s (.val (.bool) a2)] (.one (LChange))) (fun (a0 : den (LAttr)) (a1 : den (LChange)) => call.p 15 [.s (.val (LAttr) a0), .s (.val (LChange) a1)] (.one (LAttr))) n  m t0 t1 t3 t11 t82 t83 o13 := by
  intro m
  induction m with
  | zero => intros; rfl
  | succ m ih =>
    intro t0 t1 t3 t11 t82 t83 o13
    have h : loopN (law06_PatchStay_F8 call n ) (m + 1) (law06_PatchStay_sh8 t0 t1 t3 t11 t82 t83 o13) = law06_PatchStay_s8 (call.p 11 [] (.one (.bool))) (fun (a0 : den (LChange)) (a1 : den (LLAttr)) => call.p 9 [.s (.val (LChange) a0), .s (.val (LLAttr) a1)] (.one (.bool))) (fun (a0 : den (LKey)) => call.p 12 [.s (.val (LKey) a0)] (.two (PSchema) (.int .i64))) (fun (a0 : den (PSchema)) (a1 : den (LChange)) => call.p 13 [.s (.val (PSchema) a0), .s (.val (LChange) a1)] (.one (.int .i64))) (fun (a0 : den (LKey)) (a1 : den (LAttr)) => call.p 26 [.s (.val (LKey) a0), .s (.val (LAttr) a1)] (.one (.int .i64))) (fun (a0 : den (LAttr)) (a1 : den (LAttr)) => call.p 27 [.s (.val (LAttr) a0), .s (.val (LAttr) a1)] (.one (LChange))) (fun (a0 : den (LChange)) (a1 : den (LChange)) => call.p 28 [.s (.val (LChange) a0), .s (.val (LChange) a1)] (.one (LChange))) (fun (a0 : den (LAttr)) (a1 : den (LChange)) => call.p 29 [.s (.val (LAttr) a0), .s (.val (LChange) a1)] (.one (LChange))) (fun (a0 : den (LChange)) (a1 : den (LChange)) => call.p 30 [.s (.val (LChange) a0), .s (.val (LChange) a1)] (.one (LChange))) (fun (a0 : den (PSchema)) (a1 : den (LChange)) (a2 : den (.bool)) => call.p 14 [.s (.val (PSchema) a0), .s (.val (LChange) a1), .s (.val (.bool) a2)] (.one (LChange))) (fun (a0 : den (LAttr)) (a1 : den (LChange)) => call.p 15 [.s (.val (LAttr) a0), .s (.val (LChange) a1)] (.one (LAttr)))   (fun (t0 : den (LKey)) (t1 : den (LAttr)) (t3 : den (LChange)) (t11 : den (PSchema)) (t82 : den (.int .i64)) (t83 : den (.int .i64)) (o13 : den (LLChange)) => loopN (law06_PatchStay_F8 call n ) m (law06_PatchStay_sh8 t0 t1 t3 t11 t82 t83 o13)) t0 t1 t3 t11 t82 t83 o13 := by kernel_rfl
    have e0 : (fun (t0 : den (LKey)) (t1 : den (LAttr)) (t3 : den (LChange)) (t11 : den (PSchema)) (t82 : den (.int .i64)) (t83 : den (.int .i64)) (o13 : den (LLChange)) => loopN (law06_PatchStay_F8 call n ) m (law06_PatchStay_sh8 t0 t1 t3 t11 t82 t83 o13)) = (fun (t0 : den (LKey)) (t1 : den (LAttr)) (t3 : den (LChange)) (t11 : den (PSchema)) (t82 : den (.int .i64)) (t83 : den (.int .i64)) (o13 : den (LLChange)) => law06_PatchStay_l8 (call.p 11 [] (.one (.bool))) (fun (a0 : den (LChange)) (a1 : den (LLAttr)) => call.p 9 [.s (.val (LChange) a0), .s (.val (LLAttr) a1)] (.one (.bool))) (fun (a0 : den (LKey)) => call.p 12 [.s (.val (LKey) a0)] (.two (PSchema) (.int .i64))) (fun (a0 : den (PSchema)) (a1 : den (LChange)) => call.p 13 [.s (.val (PSchema) a0), .s (.val (LChange) a1)] (.one (.int .i64))) (fun (a0 : den (LKey)) (a1 : den (LAttr)) => call.p 26 [.s (.val (LKey) a0), .s (.val (LAttr) a1)] (.one (.int .i64))) (fun (a0 : den (LAttr)) (a1 : den (LAttr)) => call.p 27 [.s (.val (LAttr) a0), .s (.val (LAttr) a1)] (.one (LChange))) (fun (a0 : den (LChange)) (a1 : den (LChange)) => call.p 28 [.s (.val (LChange) a0), .s (.val (LChange) a1)] (.one (LChange))) (fun (a0 : den (LAttr)) (a1 : den (LChange)) => call.p 29 [.s (.val (LAttr) a0), .s (.val (LChange) a1)] (.one (LChange))) (fun (a0 : den (LChange)) (a1 : den (LChange)) => call.p 30 [.s (.val (LChange) a0), .s (.val (LChange) a1)] (.one (LChange))) (fun (a0 : den (PSchema)) (a1 : den (LChange)) (a2 : den (.bool)) => call.p 14 [.s (.val (PSchema) a0), .s (.val (LChange) a1), .s (.val (.bool) a2)] (.one (LChange))) (fun (a0 : den (LAttr)) (a1 : den (LChange)) => call.p 15 [.s (.val (LAttr) a0), .s (.val (LChange) a1)] (.one (LAttr))) n  m t0 t1 t3 t11 t82 t83 o13) := by funext t0 t1 t3 t11 t82 t83 o13; exact ih t0 t1 t3 t11 t82 t83 o13
    rw [h, e0]; rfl
noncomputable def law06_PatchStay_top (C_law06_known : Option (denR (.one (.bool)))) (C_law06_great : den (LChange) → den (LLAttr) → Option (denR (.one (.bool)))) (C_schema_New : den (LKey) → Option (denR (.two (PSchema) (.int .i64)))) (C_patch_May : den (PSchema) → den (LChange) → Option (denR (.one (.int .i64)))) (C_ref05_May : den (LKey) → den (LAttr) → Option (denR (.one (.int .i64)))) (C_patch_Diff : den (LAttr) → den (LAttr) → Option (denR (.one (LChange)))) (C_patch_Compose : den (LChange) → den (LChange) → Option (denR (.one (LChange)))) (C_patch_Invert : den (LAttr) → den (LChange) → Option (denR (.one (LChange)))) (C_patch_Less : den (LChange) → den (LChange) → Option (denR (.one (LChange)))) (C_patch_Part : den (PSchema) → den (LChange) → den (.bool) → Option (denR (.one (LChange)))) (C_patch_Apply : den (LAttr) → den (LChange) → Option (denR (.one (LAttr)))) (LL8 : den (LKey) → den (LAttr) → den (LChange) → den (PSchema) → den (.int .i64) → den (.int .i64) → den (LLChange) → Option (denR (.one (.bool)))) (a0 : den (LKey)) (a1 : den (LAttr)) (a2 : den (LAttr)) (a3 : den (LChange)) (a4 : den (LChange)) : Option (denR (.one (.bool))) := (bif (decide ((64 : Int) < (a0.length : Int))) then ((C_law06_known).bind fun r1 => some r1) else ((C_law06_great a3 ([a1, a2] : den (LLAttr))).bind fun r2 => (bif r2 then ((C_law06_known).bind fun r3 => some r3) else ((C_law06_great a4 ([] : den (LLAttr))).bind fun r4 => (bif r4 then ((C_law06_known).bind fun r5 => some r5) else ((C_schema_New a0).bind fun r6 => (bif ((!decide (r6.2 = (0 : Int)))) then ((C_law06_known).bind fun r7 => some r7) else ((C_patch_May r6.1 a3).bind fun r8 => (bif ((!decide (r8 = (0 : Int)))) then ((C_law06_known).bind fun r9 => some r9) else ((C_patch_May r6.1 a4).bind fun r10 => (bif ((!decide (r10 = (0 : Int)))) then ((C_law06_known).bind fun r11 => some r11) else ((C_ref05_May a0 a1).bind fun r12 => (bif ((!decide (r12 = (0 : Int)))) then ((C_law06_known).bind fun r13 => some r13) else ((C_ref05_May a0 a2).bind fun r14 => (bif ((!decide (r14 = (0 : Int)))) then ((C_law06_known).bind fun r15 => some r15) else ((C_patch_Diff a1 a2).bind fun r16 => ((C_patch_Compose a3 a4).bind fun r17 => ((C_patch_Invert a1 a3).bind fun r18 => ((C_patch_Less a3 a4).bind fun r19 => ((C_patch_Part r6.1 a3 true).bind fun r20 => ((C_patch_Part r6.1 a3 false).bind fun r21 => LL8 a0 a1 a3 r6.1 ([r16, r17, r18, r19, r20, r21].length : Int) (0 : Int) [r16, r17, r18, r19, r20, r21])))))))))))))))))))))
noncomputable def law06_PatchStay : Nat → den (LKey) → den (LAttr) → den (LAttr) → den (LChange) → den (LChange) → Option (denR (.one (.bool)))
  | 0, _, _, _, _, _ => none
  | n + 1, a0, a1, a2, a3, a4 => law06_PatchStay_top (law06_known n) (law06_great n) (schema_New n) (patch_May n) (ref05_May n) (patch_Diff n) (patch_Compose n) (patch_Invert n) (patch_Less n) (patch_Part n) (patch_Apply n) (law06_PatchStay_l8 (law06_known n) (law06_great n) (schema_New n) (patch_May n) (ref05_May n) (patch_Diff n) (patch_Compose n) (patch_Invert n) (patch_Less n) (patch_Part n) (patch_Apply n) n n) a0 a1 a2 a3 a4
theorem law06_PatchStay_eq (n : Nat) (a0 : den (LKey)) (a1 : den (LAttr)) (a2 : den (LAttr)) (a3 : den (LChange)) (a4 : den (LChange)) : (acalls cfg intr intrI n).p 5 [.s (.val (LKey) a0), .s (.val (LAttr) a1), .s (.val (LAttr) a2), .s (.val (LChange) a3), .s (.val (LChange) a4)] (.one (.bool)) = law06_PatchStay n a0 a1 a2 a3 a4 := by
  cases n with
  | zero => rfl
  | succ n =>
    have h : (acalls cfg intr intrI (n + 1)).p 5 [.s (.val (LKey) a0), .s (.val (LAttr) a1), .s (.val (LAttr) a2), .s (.val (LChange) a3), .s (.val (LChange) a4)] (.one (.bool)) = law06_PatchStay_top ((acalls cfg intr intrI n).p 11 [] (.one (.bool))) (fun (a0 : den (LChange)) (a1 : den (LLAttr)) => (acalls cfg intr intrI n).p 9 [.s (.val (LChange) a0), .s (.val (LLAttr) a1)] (.one (.bool))) (fun (a0 : den (LKey)) => (acalls cfg intr intrI n).p 12 [.s (.val (LKey) a0)] (.two (PSchema) (.int .i64))) (fun (a0 : den (PSchema)) (a1 : den (LChange)) => (acalls cfg intr intrI n).p 13 [.s (.val (PSchema) a0), .s (.val (LChange) a1)] (.one (.int .i64))) (fun (a0 : den (LKey)) (a1 : den (LAttr)) => (acalls cfg intr intrI n).p 26 [.s (.val (LKey) a0), .s (.val (LAttr) a1)] (.one (.int .i64))) (fun (a0 : den (LAttr)) (a1 : den (LAttr)) => (acalls cfg intr intrI n).p 27 [.s (.val (LAttr) a0), .s (.val (LAttr) a1)] (.one (LChange))) (fun (a0 : den (LChange)) (a1 : den (LChange)) => (acalls cfg intr intrI n).p 28 [.s (.val (LChange) a0), .s (.val (LChange) a1)] (.one (LChange))) (fun (a0 : den (LAttr)) (a1 : den (LChange)) => (acalls cfg intr intrI n).p 29 [.s (.val (LAttr) a0), .s (.val (LChange) a1)] (.one (LChange))) (fun (a0 : den (LChange)) (a1 : den (LChange)) => (acalls cfg intr intrI n).p 30 [.s (.val (LChange) a0), .s (.val (LChange) a1)] (.one (LChange))) (fun (a0 : den (PSchema)) (a1 : den (LChange)) (a2 : den (.bool)) => (acalls cfg intr intrI n).p 14 [.s (.val (PSchema) a0), .s (.val (LChange) a1), .s (.val (.bool) a2)] (.one (LChange))) (fun (a0 : den (LAttr)) (a1 : den (LChange)) => (acalls cfg intr intrI n).p 15 [.s (.val (LAttr) a0), .s (.val (LChange) a1)] (.one (LAttr))) (fun (t0 : den (LKey)) (t1 : den (LAttr)) (t3 : den (LChange)) (t11 : den (PSchema)) (t82 : den (.int .i64)) (t83 : den (.int .i64)) (o13 : den (LLChange)) => loopN (law06_PatchStay_F8 (acalls cfg intr intrI n) n) n (law06_PatchStay_sh8 t0 t1 t3 t11 t82 t83 o13)) a0 a1 a2 a3 a4 := by kernel_rfl
    have e8 : (fun (t0 : den (LKey)) (t1 : den (LAttr)) (t3 : den (LChange)) (t11 : den (PSchema)) (t82 : den (.int .i64)) (t83 : den (.int .i64)) (o13 : den (LLChange)) => loopN (law06_PatchStay_F8 (acalls cfg intr intrI n) n) n (law06_PatchStay_sh8 t0 t1 t3 t11 t82 t83 o13)) = law06_PatchStay_l8 ((acalls cfg intr intrI n).p 11 [] (.one (.bool))) (fun (a0 : den (LChange)) (a1 : den (LLAttr)) => (acalls cfg intr intrI n).p 9 [.s (.val (LChange) a0), .s (.val (LLAttr) a1)] (.one (.bool))) (fun (a0 : den (LKey)) => (acalls cfg intr intrI n).p 12 [.s (.val (LKey) a0)] (.two (PSchema) (.int .i64))) (fun (a0 : den (PSchema)) (a1 : den (LChange)) => (acalls cfg intr intrI n).p 13 [.s (.val (PSchema) a0), .s (.val (LChange) a1)] (.one (.int .i64))) (fun (a0 : den (LKey)) (a1 : den (LAttr)) => (acalls cfg intr intrI n).p 26 [.s (.val (LKey) a0), .s (.val (LAttr) a1)] (.one (.int .i64))) (fun (a0 : den (LAttr)) (a1 : den (LAttr)) => (acalls cfg intr intrI n).p 27 [.s (.val (LAttr) a0), .s (.val (LAttr) a1)] (.one (LChange))) (fun (a0 : den (LChange)) (a1 : den (LChange)) => (acalls cfg intr intrI n).p 28 [.s (.val (LChange) a0), .s (.val (LChange) a1)] (.one (LChange))) (fun (a0 : den (LAttr)) (a1 : den (LChange)) => (acalls cfg intr intrI n).p 29 [.s (.val (LAttr) a0), .s (.val (LChange) a1)] (.one (LChange))) (fun (a0 : den (LChange)) (a1 : den (LChange)) => (acalls cfg intr intrI n).p 30 [.s (.val (LChange) a0), .s (.val (LChange) a1)] (.one (LChange))) (fun (a0 : den (PSchema)) (a1 : den (LChange)) (a2 : den (.bool)) => (acalls cfg intr intrI n).p 14 [.s (.val (PSchema) a0), .s (.val (LChange) a1), .s (.val (.bool) a2)] (.one (LChange))) (fun (a0 : den (LAttr)) (a1 : den (LChange)) => (acalls cfg intr intrI n).p 15 [.s (.val (LAttr) a0), .s (.val (LChange) a1)] (.one (LAttr))) n n := by funext t0 t1 t3 t11 t82 t83 o13; exact law06_PatchStay_l8_eq (acalls cfg intr intrI n) n n t0 t1 t3 t11 t82 t83 o13
    have c_law06_known : ((acalls cfg intr intrI n).p 11 [] (.one (.bool))) = law06_known n := law06_known_eq n
    have c_law06_great : (fun (a0 : den (LChange)) (a1 : den (LLAttr)) => (acalls cfg intr intrI n).p 9 [.s (.val (LChange) a0), .s (.val (LLAttr) a1)] (.one (.bool))) = law06_great n := by funext a0 a1; exact law06_great_eq n a0 a1
    have c_schema_New : (fun (a0 : den (LKey)) => (acalls cfg intr intrI n).p 12 [.s (.val (LKey) a0)] (.two (PSchema) (.int .i64))) = schema_New n := by funext a0; exact schema_New_eq n a0
    have c_patch_May : (fun (a0 : den (PSchema)) (a1 : den (LChange)) => (acalls cfg intr intrI n).p 13 [.s (.val (PSchema) a0), .s (.val (LChange) a1)] (.one (.int .i64))) = patch_May n := by funext a0 a1; exact patch_May_eq n a0 a1
    have c_ref05_May : (fun (a0 : den (LKey)) (a1 : den (LAttr)) => (acalls cfg intr intrI n).p 26 [.s (.val (LKey) a0), .s (.val (LAttr) a1)] (.one (.int .i64))) = ref05_May n := by funext a0 a1; exact ref05_May_eq n a0 a1
    have c_patch_Diff : (fun (a0 : den (LAttr)) (a1 : den (LAttr)) => (acalls cfg intr intrI n).p 27 [.s (.val (LAttr) a0), .s (.val (LAttr) a1)] (.one (LChange))) = patch_Diff n := by funext a0 a1; exact patch_Diff_eq n a0 a1
    have c_patch_Compose : (fun (a0 : den (LChange)) (a1 : den (LChange)) => (acalls cfg intr intrI n).p 28 [.s (.val (LChange) a0), .s (.val (LChange) a1)] (.one (LChange))) = patch_Compose n := by funext a0 a1; exact patch_Compose_eq n a0 a1
    have c_patch_Invert : (fun (a0 : den (LAttr)) (a1 : den (LChange)) => (acalls cfg intr intrI n).p 29 [.s (.val (LAttr) a0), .s (.val (LChange) a1)] (.one (LChange))) = patch_Invert n := by funext a0 a1; exact patch_Invert_eq n a0 a1
    have c_patch_Less : (fun (a0 : den (LChange)) (a1 : den (LChange)) => (acalls cfg intr intrI n).p 30 [.s (.val (LChange) a0), .s (.val (LChange) a1)] (.one (LChange))) = patch_Less n := by funext a0 a1; exact patch_Less_eq n a0 a1
    have c_patch_Part : (fun (a0 : den (PSchema)) (a1 : den (LChange)) (a2 : den (.bool)) => (acalls cfg intr intrI n).p 14 [.s (.val (PSchema) a0), .s (.val (LChange) a1), .s (.val (.bool) a2)] (.one (LChange))) = patch_Part n := by funext a0 a1 a2; exact patch_Part_eq n a0 a1 a2
    have c_patch_Apply : (fun (a0 : den (LAttr)) (a1 : den (LChange)) => (acalls cfg intr intrI n).p 15 [.s (.val (LAttr) a0), .s (.val (LChange) a1)] (.one (LAttr))) = patch_Apply n := by funext a0 a1; exact patch_Apply_eq n a0 a1
    rw [h, e8, c_law06_known, c_law06_great, c_schema_New, c_patch_May, c_ref05_May, c_patch_Diff, c_patch_Compose, c_patch_Invert, c_patch_Less, c_patch_Part, c_patch_Apply]; rfl

noncomputable def slices_Clone_Attr : Nat → den (LAttr) → Option (denS (⟨.row 44 (TAttr), []⟩ : Sig))
  | 0, _ => none
  | n + 1, a0 => bif decide ((0 + a0.length) * 48 ≤ 140737488355328) then some (a0, ()) else none
theorem slices_Clone_Attr_eq (n : Nat) (a0 : den (LAttr)) : (acalls cfg intr intrI n).i 64 [.s (.val (LAttr) a0)] [] (⟨.row 44 (TAttr), []⟩ : Sig) = slices_Clone_Attr n a0 := by
  cases n with
  | zero => rfl
  | succ n => kernel_rfl

noncomputable def slices_Insert_Attr : Nat → den (.int .i64) → den (LAttr) → den (LAttr) → Option (denS (⟨.row 44 (TAttr), [.dead, .dead]⟩ : Sig))
  | 0, _, _, _ => none
  | n + 1, a1, o0, o1 => bif decide (0 < o1.length) && (decide (0 ≤ a1) && decide (a1 ≤ (o0.length : Int)) && decide ((o0.length + o1.length) * 48 ≤ 140737488355328)) then some (o0.take a1.toNat ++ o1 ++ o0.drop a1.toNat, ((), ((), ()))) else none
theorem slices_Insert_Attr_eq (n : Nat) (a1 : den (.int .i64)) (o0 : den (LAttr)) (o1 : den (LAttr)) : (acalls cfg intr intrI n).i 65 [.s (.arr 95), .s (.val (.int .i64) a1), .s (.arr 96)] [(95, .arr 44 (TAttr) o0), (96, .arr 44 (TAttr) o1)] (⟨.row 44 (TAttr), [.dead, .dead]⟩ : Sig) = slices_Insert_Attr n a1 o0 o1 := by
  cases n with
  | zero => rfl
  | succ n => kernel_rfl

noncomputable def attrs_With_top (C_attrs_find : den (LAttr) → den (.int .i64) → Option (denR (.two (.int .i64) (.bool)))) (C_slices_Clone_Attr : den (LAttr) → Option (denS (⟨.row 44 (TAttr), []⟩ : Sig))) (C_slices_Insert_Attr : den (.int .i64) → den (LAttr) → den (LAttr) → Option (denS (⟨.row 44 (TAttr), [.dead, .dead]⟩ : Sig)))  (a0 : den (LAttr)) (a1 : den (TAttr)) : Option (denR (.one (LAttr))) := ((C_attrs_find a0 a1.1).bind fun r1 => (bif r1.2 then ((C_slices_Clone_Attr a0).bind fun r2 => (bif decide (0 ≤ r1.1) && decide (r1.1 < (r2.1.length : Int)) then some (r2.1.set (Int.toNat r1.1) a1) else none)) else ((C_slices_Clone_Attr a0).bind fun r3 => ((C_slices_Insert_Attr r1.1 r3.1 ([a1] : den (LAttr))).bind fun r4 => some r4.1))))
noncomputable def attrs_With : Nat → den (LAttr) → den (TAttr) → Option (denR (.one (LAttr)))
  | 0, _, _ => none
  | n + 1, a0, a1 => attrs_With_top (attrs_find n) (slices_Clone_Attr n) (slices_Insert_Attr n)  a0 a1
theorem attrs_With_eq (n : Nat) (a0 : den (LAttr)) (a1 : den (TAttr)) : (acalls cfg intr intrI n).p 35 [.s (.val (LAttr) a0), .s (.val (TAttr) a1)] (.one (LAttr)) = attrs_With n a0 a1 := by
  cases n with
  | zero => rfl
  | succ n =>
    have h : (acalls cfg intr intrI (n + 1)).p 35 [.s (.val (LAttr) a0), .s (.val (TAttr) a1)] (.one (LAttr)) = attrs_With_top (fun (a0 : den (LAttr)) (a1 : den (.int .i64)) => (acalls cfg intr intrI n).p 63 [.s (.val (LAttr) a0), .s (.val (.int .i64) a1)] (.two (.int .i64) (.bool))) (fun (a0 : den (LAttr)) => (acalls cfg intr intrI n).i 64 [.s (.val (LAttr) a0)] [] (⟨.row 44 (TAttr), []⟩ : Sig)) (fun (a1 : den (.int .i64)) (o0 : den (LAttr)) (o1 : den (LAttr)) => (acalls cfg intr intrI n).i 65 [.s (.arr 95), .s (.val (.int .i64) a1), .s (.arr 96)] [(95, .arr 44 (TAttr) o0), (96, .arr 44 (TAttr) o1)] (⟨.row 44 (TAttr), [.dead, .dead]⟩ : Sig))  a0 a1 := by kernel_rfl
    have c_attrs_find : (fun (a0 : den (LAttr)) (a1 : den (.int .i64)) => (acalls cfg intr intrI n).p 63 [.s (.val (LAttr) a0), .s (.val (.int .i64) a1)] (.two (.int .i64) (.bool))) = attrs_find n := by funext a0 a1; exact attrs_find_eq n a0 a1
    have c_slices_Clone_Attr : (fun (a0 : den (LAttr)) => (acalls cfg intr intrI n).i 64 [.s (.val (LAttr) a0)] [] (⟨.row 44 (TAttr), []⟩ : Sig)) = slices_Clone_Attr n := by funext a0; exact slices_Clone_Attr_eq n a0
    have c_slices_Insert_Attr : (fun (a1 : den (.int .i64)) (o0 : den (LAttr)) (o1 : den (LAttr)) => (acalls cfg intr intrI n).i 65 [.s (.arr 95), .s (.val (.int .i64) a1), .s (.arr 96)] [(95, .arr 44 (TAttr) o0), (96, .arr 44 (TAttr) o1)] (⟨.row 44 (TAttr), [.dead, .dead]⟩ : Sig)) = slices_Insert_Attr n := by funext a1 o0 o1; exact slices_Insert_Attr_eq n a1 o0 o1
    rw [h, c_attrs_find, c_slices_Clone_Attr, c_slices_Insert_Attr]; rfl

noncomputable def attrs_Without_1_top   (a0 : den (TAttr)) (a1 : den (.int .i64)) : Option (denR (.one (.bool))) := some (decide (a0.1 = a1))
noncomputable def attrs_Without_1 : Nat → den (TAttr) → den (.int .i64) → Option (denR (.one (.bool)))
  | 0, _, _ => none
  | n + 1, a0, a1 => attrs_Without_1_top   a0 a1
theorem attrs_Without_1_eq (n : Nat) (a0 : den (TAttr)) (a1 : den (.int .i64)) : (acalls cfg intr intrI n).p 67 [.s (.val (TAttr) a0), .s (.eptr (.int .i64) a1)] (.one (.bool)) = attrs_Without_1 n a0 a1 := by
  cases n with
  | zero => rfl
  | succ n =>
    have h : (acalls cfg intr intrI (n + 1)).p 67 [.s (.val (TAttr) a0), .s (.eptr (.int .i64) a1)] (.one (.bool)) = attrs_Without_1_top   a0 a1 := by kernel_rfl
    rw [h]; rfl

noncomputable def B85 : Code := (Go.Proofs.Tryd.f85.body).getD .skip
noncomputable def slices_IndexFunc_Attr__attrs_Without_1_sh2 (st0 : den (LAttr)) (ft1_0 : den (.int .i64)) (t7 : den (.int .i64)) (t8 : den (.int .i64)) : St := ⟨[.s (.val (LAttr) st0), .fn 67 [.eptr (.int .i64) ft1_0], U, U, U, U, U, .s (.val (.int .i64) t7), .s (.val (.int .i64) t8), U, U, U, U, U, U, U, U, U, U], []⟩
noncomputable def slices_IndexFunc_Attr__attrs_Without_1_s2 (C_attrs_Without_1 : den (TAttr) → den (.int .i64) → Option (denR (.one (.bool))))   (LS2 : den (LAttr) → den (.int .i64) → den (.int .i64) → den (.int .i64) → Option (denR (.one (.int .i64)))) (st0 : den (LAttr)) (ft1_0 : den (.int .i64)) (t7 : den (.int .i64)) (t8 : den (.int .i64)) : Option (denR (.one (.int .i64))) := (bif (decide (t8 < t7)) then (bif decide (0 ≤ t8) && decide (t8 < (st0.length : Int)) then ((C_attrs_Without_1 (st0.getD (Int.toNat t8) (dflt (TAttr))) ft1_0).bind fun r1 => (bif r1 then some t8 else LS2 st0 ft1_0 t7 (IntKind.wrap .i64 (t8 + (1 : Int))))) else none) else some (-1 : Int))
noncomputable def slices_IndexFunc_Attr__attrs_Without_1_l2 (C_attrs_Without_1 : den (TAttr) → den (.int .i64) → Option (denR (.one (.bool)))) (n : Nat)  : Nat → den (LAttr) → den (.int .i64) → den (.int .i64) → den (.int .i64) → Option (denR (.one (.int .i64)))
  | 0, _, _, _, _ => none
  | m + 1, st0, ft1_0, t7, t8 => slices_IndexFunc_Attr__attrs_Without_1_s2 C_attrs_Without_1   (fun (st0 : den (LAttr)) (ft1_0 : den (.int .i64)) (t7 : den (.int .i64)) (t8 : den (.int .i64)) => slices_IndexFunc_Attr__attrs_Without_1_l2 C_attrs_Without_1 n  m st0 ft1_0 t7 t8) st0 ft1_0 t7 t8
noncomputable def slices_IndexFunc_Attr__attrs_Without_1_g2 (C_attrs_Without_1 : den (TAttr) → den (.int .i64) → Option (denR (.one (.bool))))   : List (den (TAttr)) → den (.int .i64) → den (.int .i64) → Option (denR (.one (.int .i64)))
  | [], ft1_0, t8 => some (-1 : Int)
  | x :: r, ft1_0, t8 => ((C_attrs_Without_1 x ft1_0).bind fun r2 => (bif r2 then some t8 else slices_IndexFunc_Attr__attrs_Without_1_g2 C_attrs_Without_1   r ft1_0 (t8 + (1 : Int))))
theorem slices_IndexFunc_Attr__attrs_Without_1_l2_list (C_attrs_Without_1 : den (TAttr) → den (.int .i64) → Option (denR (.one (.bool)))) (n : Nat)  : ∀ (m i : Nat) (st0 : den (LAttr)) (ft1_0 : den (.int .i64)), st0.length - i < m → i ≤ st0.length → st0.length < 4611686018427387904 → slices_IndexFunc_Attr__attrs_Without_1_l2 C_attrs_Without_1 n  m st0 ft1_0 (st0.length : Int) (i : Int) = slices_IndexFunc_Attr__attrs_Without_1_g2 C_attrs_Without_1   (st0.drop i) ft1_0 (i : Int) := by
  intro m
  induction m with
  | zero => intro i st0 ft1_0 h1; omega
  | succ m ih =>
    intro i st0 ft1_0 h1 h2 h3
    show slices_IndexFunc_Attr__attrs_Without_1_s2 C_attrs_Without_1   (fun (st0 : den (LAttr)) (ft1_0 : den (.int .i64)) (t7 : den (.int .i64)) (t8 : den (.int .i64)) => slices_IndexFunc_Attr__attrs_Without_1_l2 C_attrs_Without_1 n  m st0 ft1_0 t7 t8) st0 ft1_0 (st0.length : Int) (i : Int) = _
    unfold slices_IndexFunc_Attr__attrs_Without_1_s2
    have b0 : decide ((0 : Int) ≤ (i : Int)) = true := decide_eq_true (by omega)
    rcases Nat.lt_or_ge i st0.length with hi | hi
    · have b1 : decide ((i : Int) < (st0.length : Int)) = true := decide_eq_true (by omega)
      have bw : IntKind.i64.wrap ((i : Int) + (1 : Int)) = ((i + 1 : Nat) : Int) := w64s (by omega)
      have ih' : ∀ (ft1_0 : den (.int .i64)), slices_IndexFunc_Attr__attrs_Without_1_l2 C_attrs_Without_1 n  m st0 ft1_0 (st0.length : Int) ((i + 1 : Nat) : Int) = slices_IndexFunc_Attr__attrs_Without_1_g2 C_attrs_Without_1   (st0.drop (i + 1)) ft1_0 ((i + 1 : Nat) : Int) := fun ft1_0 => ih (i + 1) st0 ft1_0 (by omega) (by omega) h3
      simp only [b0, b1, bw, Bool.and_true, Bool.true_and, cond_true, Int.toNat_natCast, ih']
      rw [drop_getD hi (dflt (TAttr))]
      rfl
    · have b1 : decide ((i : Int) < (st0.length : Int)) = false := decide_eq_false (by omega)
      simp only [b1, cond_false]
      rw [List.drop_eq_nil_of_le hi]
      rfl
noncomputable def slices_IndexFunc_Attr__attrs_Without_1_F2 (call : Call0) (n : Nat)  : (St → Option (denR (.one (.int .i64)))) → St → Option (denR (.one (.int .i64))) := fun rec => exec cfg call n 85 (cat B85 [1, 0, 1, 0, 0]) (kLoop rec (lk2 85 2 cfg.keep) (kBlock 0 (kSq (exec cfg call n 85 (cat B85 [1, 1])) (kret cfg Go.Proofs.Tryd.f85 (.one (.int .i64))))))
theorem slices_IndexFunc_Attr__attrs_Without_1_l2_eq (call : Call0) (n : Nat)  : ∀ (m : Nat) (st0 : den (LAttr)) (ft1_0 : den (.int .i64)) (t7 : den (.int .i64)) (t8 : den (.int .i64)), loopN (slices_IndexFunc_Attr__attrs_Without_1_F2 call n ) m (slices_IndexFunc_Attr__attrs_Without_1_sh2 st0 ft1_0 t7 t8) = slices_IndexFunc_Attr__attrs_Without_1_l2 (fun (a0 : den (TAttr)) (a1 : den (.int .i64)) => call.p 67 [.s (.val (TAttr) a0), .s (.eptr (.int .i64) a1)] (.one (.bool))) n  m st0 ft1_0 t7 t8 := by
  intro m
  induction m with
  | zero => intros; rfl
  | succ m ih =>
    intro st0 ft1_0 t7 t8
    have h : loopN (slices_IndexFunc_Attr__attrs_Without_1_F2 call n ) (m + 1) (slices_IndexFunc_Attr__attrs_Without_1_sh2 st0 ft1_0 t7 t8) = slices_IndexFunc_Attr__attrs_Without_1_s2 (fun (a0 : den (TAttr)) (a1 : den (.int .i64)) => call.p 67 [.s (.val (TAttr) a0), .s (.eptr (.int .i64) a1)] (.one (.bool)))   (fun (st0 : den (LAttr)) (ft1_0 : den (.int .i64)) (t7 : den (.int .i64)) (t8 : den (.int .i64)) => loopN (slices_IndexFunc_Attr__attrs_Without_1_F2 call n ) m (slices_IndexFunc_Attr__attrs_Without_1_sh2 st0 ft1_0 t7 t8)) st0 ft1_0 t7 t8 := by kernel_rfl
    have e0 : (fun (st0 : den (LAttr)) (ft1_0 : den (.int .i64)) (t7 : den (.int .i64)) (t8 : den (.int .i64)) => loopN (slices_IndexFunc_Attr__attrs_Without_1_F2 call n ) m (slices_IndexFunc_Attr__attrs_Without_1_sh2 st0 ft1_0 t7 t8)) = (fun (st0 : den (LAttr)) (ft1_0 : den (.int .i64)) (t7 : den (.int .i64)) (t8 : den (.int .i64)) => slices_IndexFunc_Attr__attrs_Without_1_l2 (fun (a0 : den (TAttr)) (a1 : den (.int .i64)) => call.p 67 [.s (.val (TAttr) a0), .s (.eptr (.int .i64) a1)] (.one (.bool))) n  m st0 ft1_0 t7 t8) := by funext st0 ft1_0 t7 t8; exact ih st0 ft1_0 t7 t8
    rw [h, e0]; rfl
noncomputable def slices_IndexFunc_Attr__attrs_Without_1_top (C_attrs_Without_1 : den (TAttr) → den (.int .i64) → Option (denR (.one (.bool)))) (LL2 : den (LAttr) → den (.int .i64) → den (.int .i64) → den (.int .i64) → Option (denR (.one (.int .i64)))) (a0 : den (LAttr)) (a1_0 : den (.int .i64)) : Option (denR (.one (.int .i64))) := LL2 a0 a1_0 (a0.length : Int) (0 : Int)
noncomputable def slices_IndexFunc_Attr__attrs_Without_1 : Nat → den (LAttr) → den (.int .i64) → Option (denR (.one (.int .i64)))
  | 0, _, _ => none
  | n + 1, a0, a1_0 => slices_IndexFunc_Attr__attrs_Without_1_top (attrs_Without_1 n) (slices_IndexFunc_Attr__attrs_Without_1_l2 (attrs_Without_1 n) n n) a0 a1_0
theorem slices_IndexFunc_Attr__attrs_Without_1_eq (n : Nat) (a0 : den (LAttr)) (a1_0 : den (.int .i64)) : (acalls cfg intr intrI n).p 85 [.s (.val (LAttr) a0), .fn 67 [.eptr (.int .i64) a1_0]] (.one (.int .i64)) = slices_IndexFunc_Attr__attrs_Without_1 n a0 a1_0 := by
  cases n with
  | zero => rfl
  | succ n =>
    have h : (acalls cfg intr intrI (n + 1)).p 85 [.s (.val (LAttr) a0), .fn 67 [.eptr (.int .i64) a1_0]] (.one (.int .i64)) = slices_IndexFunc_Attr__attrs_Without_1_top (fun (a0 : den (TAttr)) (a1 : den (.int .i64)) => (acalls cfg intr intrI n).p 67 [.s (.val (TAttr) a0), .s (.eptr (.int .i64) a1)] (.one (.bool))) (fun (st0 : den (LAttr)) (ft1_0 : den (.int .i64)) (t7 : den (.int .i64)) (t8 : den (.int .i64)) => loopN (slices_IndexFunc_Attr__attrs_Without_1_F2 (acalls cfg intr intrI n) n) n (slices_IndexFunc_Attr__attrs_Without_1_sh2 st0 ft1_0 t7 t8)) a0 a1_0 := by kernel_rfl
    have e2 : (fun (st0 : den (LAttr)) (ft1_0 : den (.int .i64)) (t7 : den (.int .i64)) (t8 : den (.int .i64)) => loopN (slices_IndexFunc_Attr__attrs_Without_1_F2 (acalls cfg intr intrI n) n) n (slices_IndexFunc_Attr__attrs_Without_1_sh2 st0 ft1_0 t7 t8)) = slices_IndexFunc_Attr__attrs_Without_1_l2 (fun (a0 : den (TAttr)) (a1 : den (.int .i64)) => (acalls cfg intr intrI n).p 67 [.s (.val (TAttr) a0), .s (.eptr (.int .i64) a1)] (.one (.bool))) n n := by funext st0 ft1_0 t7 t8; exact slices_IndexFunc_Attr__attrs_Without_1_l2_eq (acalls cfg intr intrI n) n n st0 ft1_0 t7 t8
    have c_attrs_Without_1 : (fun (a0 : den (TAttr)) (a1 : den (.int .i64)) => (acalls cfg intr intrI n).p 67 [.s (.val (TAttr) a0), .s (.eptr (.int .i64) a1)] (.one (.bool))) = attrs_Without_1 n := by funext a0 a1; exact attrs_Without_1_eq n a0 a1
    rw [h, e2, c_attrs_Without_1]; rfl

noncomputable def B66 : Code := (Go.Proofs.Tryd.f66.body).getD .skip
noncomputable def slices_DeleteFunc_Attr__attrs_Without_1_sh5 (delt1_0 : den (.int .i64)) (it5 : den (.int .i64)) (jt6 : den (.int .i64)) (o42 : den (LAttr)) : St := ⟨[.s (.arr 42), .fn 67 [.eptr (.int .i64) delt1_0], U, U, U, .s (.val (.int .i64) it5), .s (.val (.int .i64) jt6), U, U, U, U, U, U, U, U, U, U, U, U, U, U, U, U, U, U, U, U, U, U, U, U, U, U, U, U, U, U, U, U, U, U, U], [(42, .arr 44 (TAttr) o42)]⟩
noncomputable def slices_DeleteFunc_Attr__attrs_Without_1_s5 (C_slices_IndexFunc_Attr__attrs_Without_1 : den (LAttr) → den (.int .i64) → Option (denR (.one (.int .i64)))) (C_attrs_Without_1 : den (TAttr) → den (.int .i64) → Option (denR (.one (.bool))))   (LS5 : den (.int .i64) → den (.int .i64) → den (.int .i64) → den (LAttr) → Option (denS (⟨.row 44 (TAttr), [.dead]⟩ : Sig))) (delt1_0 : den (.int .i64)) (it5 : den (.int .i64)) (jt6 : den (.int .i64)) (o42 : den (LAttr)) : Option (denS (⟨.row 44 (TAttr), [.dead]⟩ : Sig)) := (bif (decide (jt6 < (o42.length : Int))) then (bif decide (0 ≤ jt6) && decide (jt6 < (o42.length : Int)) then ((C_attrs_Without_1 (o42.getD (Int.toNat jt6) (dflt (TAttr))) delt1_0).bind fun r2 => (bif (!r2) then (bif decide (0 ≤ it5) && decide (it5 < (o42.length : Int)) then LS5 delt1_0 (IntKind.wrap .i64 (it5 + (1 : Int))) (IntKind.wrap .i64 (jt6 + (1 : Int))) (o42.set (Int.toNat it5) (o42.getD (Int.toNat jt6) (dflt (TAttr)))) else none) else LS5 delt1_0 it5 (IntKind.wrap .i64 (jt6 + (1 : Int))) o42)) else none) else (bif decide (0 ≤ it5) && decide (it5 ≤ (o42.length : Int)) then (bif decide (0 ≤ it5) && decide (it5 ≤ ((o42.take (Int.toNat it5) ++ List.replicate (o42.length - (Int.toNat it5)) (dflt (TAttr))).length : Int)) then some (((o42.take (Int.toNat it5) ++ List.replicate (o42.length - (Int.toNat it5)) (dflt (TAttr))).take (Int.toNat it5)), ((), ())) else none) else none))
noncomputable def slices_DeleteFunc_Attr__attrs_Without_1_l5 (C_slices_IndexFunc_Attr__attrs_Without_1 : den (LAttr) → den (.int .i64) → Option (denR (.one (.int .i64)))) (C_attrs_Without_1 : den (TAttr) → den (.int .i64) → Option (denR (.one (.bool)))) (n : Nat)  : Nat → den (.int .i64) → den (.int .i64) → den (.int .i64) → den (LAttr) → Option (denS (⟨.row 44 (TAttr), [.dead]⟩ : Sig))
  | 0, _, _, _, _ => none
  | m + 1, delt1_0, it5, jt6, o42 => slices_DeleteFunc_Attr__attrs_Without_1_s5 C_slices_IndexFunc_Attr__attrs_Without_1 C_attrs_Without_1   (fun (delt1_0 : den (.int .i64)) (it5 : den (.int .i64)) (jt6 : den (.int .i64)) (o42 : den (LAttr)) => slices_DeleteFunc_Attr__attrs_Without_1_l5 C_slices_IndexFunc_Attr__attrs_Without_1 C_attrs_Without_1 n  m delt1_0 it5 jt6 o42) delt1_0 it5 jt6 o42
noncomputable def slices_DeleteFunc_Attr__attrs_Without_1_F5 (call : Call0) (n : Nat)  : (St → Option (denS (⟨.row 44 (TAttr), [.dead]⟩ : Sig))) → St → Option (denS (⟨.row 44 (TAttr), [.dead]⟩ : Sig)) := fun rec => exec cfg call n 66 (cat B66 [1, 1, 1, 0, 1, 0, 0]) (kLoop rec (lk2 66 5 cfg.keep) (kBlock 0 (kSq (exec cfg call n 66 (cat B66 [1, 1, 1, 1])) (kretS cfg Go.Proofs.Tryd.f66 (⟨.row 44 (TAttr), [.dead]⟩ : Sig)))))
theorem slices_DeleteFunc_Attr__attrs_Without_1_l5_eq (call : Call0) (n : Nat)  : ∀ (m : Nat) (delt1_0 : den (.int .i64)) (it5 : den (.int .i64)) (jt6 : den (.int .i64)) (o42 : den (LAttr)), loopN (slices_DeleteFunc_Attr__attrs_Without_1_F5 call n ) m (slices_DeleteFunc_Attr__attrs_Without_1_sh5 delt1_0 it5 jt6 o42) = slices_DeleteFunc_Attr__attrs_Without_1_l5 (fun (a0 : den (LAttr)) (a1_0 : den (.int .i64)) => call.p 85 [.s (.val (LAttr) a0), .fn 67 [.eptr (.int .i64) a1_0]] (.one (.int .i64))) (fun (a0 : den (TAttr)) (a1 : den (.int .i64)) => call.p 67 [.s (.val (TAttr) a0), .s (.eptr (.int .i64) a1)] (.one (.bool))) n  m delt1_0 it5 jt6 o42 := by
  intro m
  induction m with
  | zero => intros; rfl
  | succ m ih =>
    intro delt1_0 it5 jt6 o42
    have h : loopN (slices_DeleteFunc_Attr__attrs_Without_1_F5 call n ) (m + 1) (slices_DeleteFunc_Attr__attrs_Without_1_sh5 delt1_0 it5 jt6 o42) = slices_DeleteFunc_Attr__attrs_Without_1_s5 (fun (a0 : den (LAttr)) (a1_0 : den (.int .i64)) => call.p 85 [.s (.val (LAttr) a0), .fn 67 [.eptr (.int .i64) a1_0]] (.one (.int .i64))) (fun (a0 : den (TAttr)) (a1 : den (.int .i64)) => call.p 67 [.s (.val (TAttr) a0), .s (.eptr (.int .i64) a1)] (.one (.bool)))   (fun (delt1_0 : den (.int .i64)) (it5 : den (.int .i64)) (jt6 : den (.int .i64)) (o42 : den (LAttr)) => loopN (slices_DeleteFunc_Attr__attrs_Without_1_F5 call n ) m (slices_DeleteFunc_Attr__attrs_Without_1_sh5 delt1_0 it5 jt6 o42)) delt1_0 it5 jt6 o42 := by kernel_rfl
    have e0 : (fun (delt1_0 : den (.int .i64)) (it5 : den (.int .i64)) (jt6 : den (.int .i64)) (o42 : den (LAttr)) => loopN (slices_DeleteFunc_Attr__attrs_Without_1_F5 call n ) m (slices_DeleteFunc_Attr__attrs_Without_1_sh5 delt1_0 it5 jt6 o42)) = (fun (delt1_0 : den (.int .i64)) (it5 : den (.int .i64)) (jt6 : den (.int .i64)) (o42 : den (LAttr)) => slices_DeleteFunc_Attr__attrs_Without_1_l5 (fun (a0 : den (LAttr)) (a1_0 : den (.int .i64)) => call.p 85 [.s (.val (LAttr) a0), .fn 67 [.eptr (.int .i64) a1_0]] (.one (.int .i64))) (fun (a0 : den (TAttr)) (a1 : den (.int .i64)) => call.p 67 [.s (.val (TAttr) a0), .s (.eptr (.int .i64) a1)] (.one (.bool))) n  m delt1_0 it5 jt6 o42) := by funext delt1_0 it5 jt6 o42; exact ih delt1_0 it5 jt6 o42
    rw [h, e0]; rfl
noncomputable def slices_DeleteFunc_Attr__attrs_Without_1_top (C_slices_IndexFunc_Attr__attrs_Without_1 : den (LAttr) → den (.int .i64) → Option (denR (.one (.int .i64)))) (C_attrs_Without_1 : den (TAttr) → den (.int .i64) → Option (denR (.one (.bool)))) (LL5 : den (.int .i64) → den (.int .i64) → den (.int .i64) → den (LAttr) → Option (denS (⟨.row 44 (TAttr), [.dead]⟩ : Sig))) (a1_0 : den (.int .i64)) (o0 : den (LAttr)) : Option (denS (⟨.row 44 (TAttr), [.dead]⟩ : Sig)) := ((C_slices_IndexFunc_Attr__attrs_Without_1 o0 a1_0).bind fun r1 => (bif (decide (r1 = (-1 : Int))) then some (o0, ((), ())) else LL5 a1_0 r1 (IntKind.wrap .i64 (r1 + (1 : Int))) o0))
noncomputable def slices_DeleteFunc_Attr__attrs_Without_1 : Nat → den (.int .i64) → den (LAttr) → Option (denS (⟨.row 44 (TAttr), [.dead]⟩ : Sig))
  | 0, _, _ => none
  | n + 1, a1_0, o0 => slices_DeleteFunc_Attr__attrs_Without_1_top (slices_IndexFunc_Attr__attrs_Without_1 n) (attrs_Without_1 n) (slices_DeleteFunc_Attr__attrs_Without_1_l5 (slices_IndexFunc_Attr__attrs_Without_1 n) (attrs_Without_1 n) n n) a1_0 o0
theorem slices_DeleteFunc_Attr__attrs_Without_1_eq (n : Nat) (a1_0 : den (.int .i64)) (o0 : den (LAttr)) : (acalls cfg intr intrI n).i 66 [.s (.arr 42), .fn 67 [.eptr (.int .i64) a1_0]] [(42, .arr 44 (TAttr) o0)] (⟨.row 44 (TAttr), [.dead]⟩ : Sig) = slices_DeleteFunc_Attr__attrs_Without_1 n a1_0 o0 := by
  cases n with
  | zero => rfl
  | succ n =>
    have h : (acalls cfg intr intrI (n + 1)).i 66 [.s (.arr 42), .fn 67 [.eptr (.int .i64) a1_0]] [(42, .arr 44 (TAttr) o0)] (⟨.row 44 (TAttr), [.dead]⟩ : Sig) = slices_DeleteFunc_Attr__attrs_Without_1_top (fun (a0 : den (LAttr)) (a1_0 : den (.int .i64)) => (acalls cfg intr intrI n).p 85 [.s (.val (LAttr) a0), .fn 67 [.eptr (.int .i64) a1_0]] (.one (.int .i64))) (fun (a0 : den (TAttr)) (a1 : den (.int .i64)) => (acalls cfg intr intrI n).p 67 [.s (.val (TAttr) a0), .s (.eptr (.int .i64) a1)] (.one (.bool))) (fun (delt1_0 : den (.int .i64)) (it5 : den (.int .i64)) (jt6 : den (.int .i64)) (o42 : den (LAttr)) => loopN (slices_DeleteFunc_Attr__attrs_Without_1_F5 (acalls cfg intr intrI n) n) n (slices_DeleteFunc_Attr__attrs_Without_1_sh5 delt1_0 it5 jt6 o42)) a1_0 o0 := by kernel_rfl
    have e5 : (fun (delt1_0 : den (.int .i64)) (it5 : den (.int .i64)) (jt6 : den (.int .i64)) (o42 : den (LAttr)) => loopN (slices_DeleteFunc_Attr__attrs_Without_1_F5 (acalls cfg intr intrI n) n) n (slices_DeleteFunc_Attr__attrs_Without_1_sh5 delt1_0 it5 jt6 o42)) = slices_DeleteFunc_Attr__attrs_Without_1_l5 (fun (a0 : den (LAttr)) (a1_0 : den (.int .i64)) => (acalls cfg intr intrI n).p 85 [.s (.val (LAttr) a0), .fn 67 [.eptr (.int .i64) a1_0]] (.one (.int .i64))) (fun (a0 : den (TAttr)) (a1 : den (.int .i64)) => (acalls cfg intr intrI n).p 67 [.s (.val (TAttr) a0), .s (.eptr (.int .i64) a1)] (.one (.bool))) n n := by funext delt1_0 it5 jt6 o42; exact slices_DeleteFunc_Attr__attrs_Without_1_l5_eq (acalls cfg intr intrI n) n n delt1_0 it5 jt6 o42
    have c_slices_IndexFunc_Attr__attrs_Without_1 : (fun (a0 : den (LAttr)) (a1_0 : den (.int .i64)) => (acalls cfg intr intrI n).p 85 [.s (.val (LAttr) a0), .fn 67 [.eptr (.int .i64) a1_0]] (.one (.int .i64))) = slices_IndexFunc_Attr__attrs_Without_1 n := by funext a0 a1_0; exact slices_IndexFunc_Attr__attrs_Without_1_eq n a0 a1_0
    have c_attrs_Without_1 : (fun (a0 : den (TAttr)) (a1 : den (.int .i64)) => (acalls cfg intr intrI n).p 67 [.s (.val (TAttr) a0), .s (.eptr (.int .i64) a1)] (.one (.bool))) = attrs_Without_1 n := by funext a0 a1; exact attrs_Without_1_eq n a0 a1
    rw [h, e5, c_slices_IndexFunc_Attr__attrs_Without_1, c_attrs_Without_1]; rfl

noncomputable def attrs_Without_top (C_slices_Clone_Attr : den (LAttr) → Option (denS (⟨.row 44 (TAttr), []⟩ : Sig))) (C_slices_DeleteFunc_Attr__attrs_Without_1 : den (.int .i64) → den (LAttr) → Option (denS (⟨.row 44 (TAttr), [.dead]⟩ : Sig)))  (a0 : den (LAttr)) (a1 : den (.int .i64)) : Option (denR (.one (LAttr))) := ((C_slices_Clone_Attr a0).bind fun r1 => ((C_slices_DeleteFunc_Attr__attrs_Without_1 a1 r1.1).bind fun r2 => some r2.1))
noncomputable def attrs_Without : Nat → den (LAttr) → den (.int .i64) → Option (denR (.one (LAttr)))
  | 0, _, _ => none
  | n + 1, a0, a1 => attrs_Without_top (slices_Clone_Attr n) (slices_DeleteFunc_Attr__attrs_Without_1 n)  a0 a1
theorem attrs_Without_eq (n : Nat) (a0 : den (LAttr)) (a1 : den (.int .i64)) : (acalls cfg intr intrI n).p 36 [.s (.val (LAttr) a0), .s (.val (.int .i64) a1)] (.one (LAttr)) = attrs_Without n a0 a1 := by
  cases n with
  | zero => rfl
  | succ n =>
    have h : (acalls cfg intr intrI (n + 1)).p 36 [.s (.val (LAttr) a0), .s (.val (.int .i64) a1)] (.one (LAttr)) = attrs_Without_top (fun (a0 : den (LAttr)) => (acalls cfg intr intrI n).i 64 [.s (.val (LAttr) a0)] [] (⟨.row 44 (TAttr), []⟩ : Sig)) (fun (a1_0 : den (.int .i64)) (o0 : den (LAttr)) => (acalls cfg intr intrI n).i 66 [.s (.arr 42), .fn 67 [.eptr (.int .i64) a1_0]] [(42, .arr 44 (TAttr) o0)] (⟨.row 44 (TAttr), [.dead]⟩ : Sig))  a0 a1 := by kernel_rfl
    have c_slices_Clone_Attr : (fun (a0 : den (LAttr)) => (acalls cfg intr intrI n).i 64 [.s (.val (LAttr) a0)] [] (⟨.row 44 (TAttr), []⟩ : Sig)) = slices_Clone_Attr n := by funext a0; exact slices_Clone_Attr_eq n a0
    have c_slices_DeleteFunc_Attr__attrs_Without_1 : (fun (a1_0 : den (.int .i64)) (o0 : den (LAttr)) => (acalls cfg intr intrI n).i 66 [.s (.arr 42), .fn 67 [.eptr (.int .i64) a1_0]] [(42, .arr 44 (TAttr) o0)] (⟨.row 44 (TAttr), [.dead]⟩ : Sig)) = slices_DeleteFunc_Attr__attrs_Without_1 n := by funext a1_0 o0; exact slices_DeleteFunc_Attr__attrs_Without_1_eq n a1_0 o0
    rw [h, c_slices_Clone_Attr, c_slices_DeleteFunc_Attr__attrs_Without_1]; rfl

noncomputable def B69 : Code := (Go.Proofs.Tryd.f69.body).getD .skip
noncomputable def slices_Equal_Attr_sh4 (s1t0 : den (LAttr)) (s2t1 : den (LAttr)) (t12 : den (.int .i64)) (t13 : den (.int .i64)) : St := ⟨[.s (.val (LAttr) s1t0), .s (.val (LAttr) s2t1), U, U, U, U, U, U, U, U, U, U, .s (.val (.int .i64) t12), .s (.val (.int .i64) t13), U, U, U, U, U, U, U, U, U, U, U, U], []⟩
noncomputable def slices_Equal_Attr_s4    (LS4 : den (LAttr) → den (LAttr) → den (.int .i64) → den (.int .i64) → Option (denR (.one (.bool)))) (s1t0 : den (LAttr)) (s2t1 : den (LAttr)) (t12 : den (.int .i64)) (t13 : den (.int .i64)) : Option (denR (.one (.bool))) := (bif (decide (t13 < t12)) then (bif decide (0 ≤ t13) && decide (t13 < (s1t0.length : Int)) then (bif decide (0 ≤ t13) && decide (t13 < (s2t1.length : Int)) then (bif (!eqT (TAttr) (s1t0.getD (Int.toNat t13) (dflt (TAttr))) (s2t1.getD (Int.toNat t13) (dflt (TAttr)))) then some false else LS4 s1t0 s2t1 t12 (IntKind.wrap .i64 (t13 + (1 : Int)))) else none) else none) else some true)
noncomputable def slices_Equal_Attr_l4  (n : Nat)  : Nat → den (LAttr) → den (LAttr) → den (.int .i64) → den (.int .i64) → Option (denR (.one (.bool)))
  | 0, _, _, _, _ => none
  | m + 1, s1t0, s2t1, t12, t13 => slices_Equal_Attr_s4    (fun (s1t0 : den (LAttr)) (s2t1 : den (LAttr)) (t12 : den (.int .i64)) (t13 : den (.int .i64)) => slices_Equal_Attr_l4  n  m s1t0 s2t1 t12 t13) s1t0 s2t1 t12 t13
noncomputable def slices_Equal_Attr_g4    : List (den (TAttr)) → den (LAttr) → den (.int .i64) → Option (denR (.one (.bool)))
  | [], s2t1, t13 => some true
  | x :: r, s2t1, t13 => (bif decide (0 ≤ t13) && decide (t13 < (s2t1.length : Int)) then (bif (!eqT (TAttr) x (s2t1.getD (Int.toNat t13) (dflt (TAttr)))) then some false else slices_Equal_Attr_g4    r s2t1 (t13 + (1 : Int))) else none)
theorem slices_Equal_Attr_l4_list  (n : Nat)  : ∀ (m i : Nat) (s1t0 : den (LAttr)) (s2t1 : den (LAttr)), s1t0.length - i < m → i ≤ s1t0.length → s1t0.length < 4611686018427387904 → slices_Equal_Attr_l4  n  m s1t0 s2t1 (s1t0.length : Int) (i : Int) = slices_Equal_Attr_g4    (s1t0.drop i) s2t1 (i : Int) := by
  intro m
  induction m with
  | zero => intro i s1t0 s2t1 h1; omega
  | succ m ih =>
    intro i s1t0 s2t1 h1 h2 h3
    show slices_Equal_Attr_s4    (fun (s1t0 : den (LAttr)) (s2t1 : den (LAttr)) (t12 : den (.int .i64)) (t13 : den (.int .i64)) => slices_Equal_Attr_l4  n  m s1t0 s2t1 t12 t13) s1t0 s2t1 (s1t0.length : Int) (i : Int) = _
    unfold slices_Equal_Attr_s4
    have b0 : decide ((0 : Int) ≤ (i : Int)) = true := decide_eq_true (by omega)
    rcases Nat.lt_or_ge i s1t0.length with hi | hi
    · have b1 : decide ((i : Int) < (s1t0.length : Int)) = true := decide_eq_true (by omega)
      have bw : IntKind.i64.wrap ((i : Int) + (1 : Int)) = ((i + 1 : Nat) : Int) := w64s (by omega)
      have ih' : ∀ (s2t1 : den (LAttr)), slices_Equal_Attr_l4  n  m s1t0 s2t1 (s1t0.length : Int) ((i + 1 : Nat) : Int) = slices_Equal_Attr_g4    (s1t0.drop (i + 1)) s2t1 ((i + 1 : Nat) : Int) := fun s2t1 => ih (i + 1) s1t0 s2t1 (by omega) (by omega) h3
      simp only [b0, b1, bw, Bool.and_true, Bool.true_and, cond_true, Int.toNat_natCast, ih']
      rw [drop_getD hi (dflt (TAttr))]
      rfl
    · have b1 : decide ((i : Int) < (s1t0.length : Int)) = false := decide_eq_false (by omega)
      simp only [b1, cond_false]
      rw [List.drop_eq_nil_of_le hi]
      rfl
noncomputable def slices_Equal_Attr_F4 (call : Call0) (n : Nat)  : (St → Option (denR (.one (.bool)))) → St → Option (denR (.one (.bool))) := fun rec => exec cfg call n 69 (cat B69 [1, 1, 0, 1, 0, 0]) (kLoop rec (lk2 69 4 cfg.keep) (kBlock 0 (kSq (exec cfg call n 69 (cat B69 [1, 1, 1])) (kret cfg Go.Proofs.Tryd.f69 (.one (.bool))))))
theorem slices_Equal_Attr_l4_eq (call : Call0) (n : Nat)  : ∀ (m : Nat) (s1t0 : den (LAttr)) (s2t1 : den (LAttr)) (t12 : den (.int .i64)) (t13 : den (.int .i64)), loopN (slices_Equal_Attr_F4 call n ) m (slices_Equal_Attr_sh4 s1t0 s2t1 t12 t13) = slices_Equal_Attr_l4  n  m s1t0 s2t1 t12 t13 := by
  intro m
  induction m with
  | zero => intros; rfl
  | succ m ih =>
    intro s1t0 s2t1 t12 t13
    have h : loopN (slices_Equal_Attr_F4 call n ) (m + 1) (slices_Equal_Attr_sh4 s1t0 s2t1 t12 t13) = slices_Equal_Attr_s4    (fun (s1t0 : den (LAttr)) (s2t1 : den (LAttr)) (t12 : den (.int .i64)) (t13 : den (.int .i64)) => loopN (slices_Equal_Attr_F4 call n ) m (slices_Equal_Attr_sh4 s1t0 s2t1 t12 t13)) s1t0 s2t1 t12 t13 := by kernel_rfl
    have e0 : (fun (s1t0 : den (LAttr)) (s2t1 : den (LAttr)) (t12 : den (.int .i64)) (t13 : den (.int .i64)) => loopN (slices_Equal_Attr_F4 call n ) m (slices_Equal_Attr_sh4 s1t0 s2t1 t12 t13)) = (fun (s1t0 : den (LAttr)) (s2t1 : den (LAttr)) (t12 : den (.int .i64)) (t13 : den (.int .i64)) => slices_Equal_Attr_l4  n  m s1t0 s2t1 t12 t13) := by funext s1t0 s2t1 t12 t13; exact ih s1t0 s2t1 t12 t13
    rw [h, e0]; rfl
noncomputable def slices_Equal_Attr_top  (LL4 : den (LAttr) → den (LAttr) → den (.int .i64) → den (.int .i64) → Option (denR (.one (.bool)))) (a0 : den (LAttr)) (a1 : den (LAttr)) : Option (denR (.one (.bool))) := (bif ((!decide ((a0.length : Int) = (a1.length : Int)))) then some false else LL4 a0 a1 (a0.length : Int) (0 : Int))
noncomputable def slices_Equal_Attr : Nat → den (LAttr) → den (LAttr) → Option (denR (.one (.bool)))
  | 0, _, _ => none
  | n + 1, a0, a1 => slices_Equal_Attr_top  (slices_Equal_Attr_l4  n n) a0 a1
theorem slices_Equal_Attr_eq (n : Nat) (a0 : den (LAttr)) (a1 : den (LAttr)) : (acalls cfg intr intrI n).p 69 [.s (.val (LAttr) a0), .s (.val (LAttr) a1)] (.one (.bool)) = slices_Equal_Attr n a0 a1 := by
  cases n with
  | zero => rfl
  | succ n =>
    have h : (acalls cfg intr intrI (n + 1)).p 69 [.s (.val (LAttr) a0), .s (.val (LAttr) a1)] (.one (.bool)) = slices_Equal_Attr_top  (fun (s1t0 : den (LAttr)) (s2t1 : den (LAttr)) (t12 : den (.int .i64)) (t13 : den (.int .i64)) => loopN (slices_Equal_Attr_F4 (acalls cfg intr intrI n) n) n (slices_Equal_Attr_sh4 s1t0 s2t1 t12 t13)) a0 a1 := by kernel_rfl
    have e4 : (fun (s1t0 : den (LAttr)) (s2t1 : den (LAttr)) (t12 : den (.int .i64)) (t13 : den (.int .i64)) => loopN (slices_Equal_Attr_F4 (acalls cfg intr intrI n) n) n (slices_Equal_Attr_sh4 s1t0 s2t1 t12 t13)) = slices_Equal_Attr_l4  n n := by funext s1t0 s2t1 t12 t13; exact slices_Equal_Attr_l4_eq (acalls cfg intr intrI n) n n s1t0 s2t1 t12 t13
    rw [h, e4]; rfl

noncomputable def attrs_Same_top (C_slices_Equal_Attr : den (LAttr) → den (LAttr) → Option (denR (.one (.bool))))  (a0 : den (LAttr)) (a1 : den (LAttr)) : Option (denR (.one (.bool))) := ((C_slices_Equal_Attr a0 a1).bind fun r1 => some r1)
noncomputable def attrs_Same : Nat → den (LAttr) → den (LAttr) → Option (denR (.one (.bool)))
  | 0, _, _ => none
  | n + 1, a0, a1 => attrs_Same_top (slices_Equal_Attr n)  a0 a1
theorem attrs_Same_eq (n : Nat) (a0 : den (LAttr)) (a1 : den (LAttr)) : (acalls cfg intr intrI n).p 38 [.s (.val (LAttr) a0), .s (.val (LAttr) a1)] (.one (.bool)) = attrs_Same n a0 a1 := by
  cases n with
  | zero => rfl
  | succ n =>
    have h : (acalls cfg intr intrI (n + 1)).p 38 [.s (.val (LAttr) a0), .s (.val (LAttr) a1)] (.one (.bool)) = attrs_Same_top (fun (a0 : den (LAttr)) (a1 : den (LAttr)) => (acalls cfg intr intrI n).p 69 [.s (.val (LAttr) a0), .s (.val (LAttr) a1)] (.one (.bool)))  a0 a1 := by kernel_rfl
    have c_slices_Equal_Attr : (fun (a0 : den (LAttr)) (a1 : den (LAttr)) => (acalls cfg intr intrI n).p 69 [.s (.val (LAttr) a0), .s (.val (LAttr) a1)] (.one (.bool))) = slices_Equal_Attr n := by funext a0 a1; exact slices_Equal_Attr_eq n a0 a1
    rw [h, c_slices_Equal_Attr]; rfl

noncomputable def law05_known_top (C_attrs_With : den (LAttr) → den (TAttr) → Option (denR (.one (LAttr)))) (C_attrs_Get : den (LAttr) → den (.int .i64) → Option (denR (.two (TValue) (.bool)))) (C_attrs_Without : den (LAttr) → den (.int .i64) → Option (denR (.one (LAttr)))) (C_attrs_Same : den (LAttr) → den (LAttr) → Option (denR (.one (.bool))))   : Option (denR (.one (.bool))) := ((C_attrs_With ([((1 : Int), (((2 : Int), ((1 : Int), ((0 : Int), ((⟨#[]⟩ : ByteArray), ())))), ())), ((5 : Int), (((2 : Int), ((1 : Int), ((0 : Int), ((⟨#[]⟩ : ByteArray), ())))), ()))] : den (LAttr)) ((3 : Int), (((2 : Int), ((1 : Int), ((0 : Int), ((⟨#[]⟩ : ByteArray), ())))), ()))).bind fun r1 => ((C_attrs_Get r1 (3 : Int)).bind fun r2 => (bif (decide ((r1.length : Int) = (3 : Int))) then (bif decide (0 ≤ (1 : Int)) && decide ((1 : Int) < (r1.length : Int)) then (bif (decide ((r1.getD (Int.toNat (1 : Int)) (dflt (TAttr))).1 = (3 : Int))) then (bif r2.2 then (bif (eqT (TValue) r2.1 ((2 : Int), ((1 : Int), ((0 : Int), ((⟨#[]⟩ : ByteArray), ()))))) then ((C_attrs_Without r1 (1 : Int)).bind fun r3 => (bif decide (0 ≤ (1 : Int)) && decide ((1 : Int) ≤ (r1.length : Int)) && decide ((r1.length : Int) ≤ (r1.length : Int)) then ((C_attrs_Same r3 (r1.drop (Int.toNat (1 : Int)))).bind fun r4 => some r4) else none)) else some false) else some false) else some false) else none) else some false)))
noncomputable def law05_known : Nat → Option (denR (.one (.bool)))
  | 0 => none
  | n + 1 => law05_known_top (attrs_With n) (attrs_Get n) (attrs_Without n) (attrs_Same n)  
theorem law05_known_eq (n : Nat)  : (acalls cfg intr intrI n).p 32 [] (.one (.bool)) = law05_known n  := by
  cases n with
  | zero => rfl
  | succ n =>
    have h : (acalls cfg intr intrI (n + 1)).p 32 [] (.one (.bool)) = law05_known_top (fun (a0 : den (LAttr)) (a1 : den (TAttr)) => (acalls cfg intr intrI n).p 35 [.s (.val (LAttr) a0), .s (.val (TAttr) a1)] (.one (LAttr))) (fun (a0 : den (LAttr)) (a1 : den (.int .i64)) => (acalls cfg intr intrI n).p 40 [.s (.val (LAttr) a0), .s (.val (.int .i64) a1)] (.two (TValue) (.bool))) (fun (a0 : den (LAttr)) (a1 : den (.int .i64)) => (acalls cfg intr intrI n).p 36 [.s (.val (LAttr) a0), .s (.val (.int .i64) a1)] (.one (LAttr))) (fun (a0 : den (LAttr)) (a1 : den (LAttr)) => (acalls cfg intr intrI n).p 38 [.s (.val (LAttr) a0), .s (.val (LAttr) a1)] (.one (.bool)))   := by kernel_rfl
    have c_attrs_With : (fun (a0 : den (LAttr)) (a1 : den (TAttr)) => (acalls cfg intr intrI n).p 35 [.s (.val (LAttr) a0), .s (.val (TAttr) a1)] (.one (LAttr))) = attrs_With n := by funext a0 a1; exact attrs_With_eq n a0 a1
    have c_attrs_Get : (fun (a0 : den (LAttr)) (a1 : den (.int .i64)) => (acalls cfg intr intrI n).p 40 [.s (.val (LAttr) a0), .s (.val (.int .i64) a1)] (.two (TValue) (.bool))) = attrs_Get n := by funext a0 a1; exact attrs_Get_eq n a0 a1
    have c_attrs_Without : (fun (a0 : den (LAttr)) (a1 : den (.int .i64)) => (acalls cfg intr intrI n).p 36 [.s (.val (LAttr) a0), .s (.val (.int .i64) a1)] (.one (LAttr))) = attrs_Without n := by funext a0 a1; exact attrs_Without_eq n a0 a1
    have c_attrs_Same : (fun (a0 : den (LAttr)) (a1 : den (LAttr)) => (acalls cfg intr intrI n).p 38 [.s (.val (LAttr) a0), .s (.val (LAttr) a1)] (.one (.bool))) = attrs_Same n := by funext a0 a1; exact attrs_Same_eq n a0 a1
    rw [h, c_attrs_With, c_attrs_Get, c_attrs_Without, c_attrs_Same]; rfl

noncomputable def B31 : Code := (Go.Proofs.Tryd.f31.body).getD .skip
noncomputable def law05_great_sh2 (sett0 : den (LAttr)) (t5 : den (.int .i64)) (t6 : den (.int .i64)) : St := ⟨[.s (.val (LAttr) sett0), U, U, U, U, .s (.val (.int .i64) t5), .s (.val (.int .i64) t6), U, U, U, U, U, U, U, U, U, U, U, U, U, U], []⟩
noncomputable def law05_great_s2    (LS2 : den (LAttr) → den (.int .i64) → den (.int .i64) → Option (denR (.one (.bool)))) (sett0 : den (LAttr)) (t5 : den (.int .i64)) (t6 : den (.int .i64)) : Option (denR (.one (.bool))) := (bif (decide (t6 < t5)) then (bif decide (0 ≤ t6) && decide (t6 < (sett0.length : Int)) then (bif (decide ((200 : Int) < (ByteArray.size (((((((sett0.getD (Int.toNat t6) (dflt (TAttr))).2).1).2).2).2).1) : Int))) then some true else LS2 sett0 t5 (IntKind.wrap .i64 (t6 + (1 : Int)))) else none) else some (decide ((100 : Int) < (sett0.length : Int))))
noncomputable def law05_great_l2  (n : Nat)  : Nat → den (LAttr) → den (.int .i64) → den (.int .i64) → Option (denR (.one (.bool)))
  | 0, _, _, _ => none
  | m + 1, sett0, t5, t6 => law05_great_s2    (fun (sett0 : den (LAttr)) (t5 : den (.int .i64)) (t6 : den (.int .i64)) => law05_great_l2  n  m sett0 t5 t6) sett0 t5 t6
noncomputable def law05_great_g2    : List (den (TAttr)) → den (LAttr) → Option (denR (.one (.bool)))
  | [], sett0 => some (decide ((100 : Int) < (sett0.length : Int)))
  | x :: r, sett0 => (bif (decide ((200 : Int) < (ByteArray.size x.2.1.2.2.2.1 : Int))) then some true else law05_great_g2    r sett0)
theorem law05_great_l2_list  (n : Nat)  : ∀ (m i : Nat) (sett0 : den (LAttr)), sett0.length - i < m → i ≤ sett0.length → sett0.length < 4611686018427387904 → law05_great_l2  n  m sett0 (sett0.length : Int) (i : Int) = law05_great_g2    (sett0.drop i) sett0 := by
  intro m
  induction m with
  | zero => intro i sett0 h1; omega
  | succ m ih =>
    intro i sett0 h1 h2 h3
    show law05_great_s2    (fun (sett0 : den (LAttr)) (t5 : den (.int .i64)) (t6 : den (.int .i64)) => law05_great_l2  n  m sett0 t5 t6) sett0 (sett0.length : Int) (i : Int) = _
    unfold law05_great_s2
    have b0 : decide ((0 : Int) ≤ (i : Int)) = true := decide_eq_true (by omega)
    rcases Nat.lt_or_ge i sett0.length with hi | hi
    · have b1 : decide ((i : Int) < (sett0.length : Int)) = true := decide_eq_true (by omega)
      have bw : IntKind.i64.wrap ((i : Int) + (1 : Int)) = ((i + 1 : Nat) : Int) := w64s (by omega)
      have ih' : ∀ (_u : Unit), law05_great_l2  n  m sett0 (sett0.length : Int) ((i + 1 : Nat) : Int) = law05_great_g2    (sett0.drop (i + 1)) sett0 := fun _u => ih (i + 1) sett0 (by omega) (by omega) h3
      simp only [b0, b1, bw, Bool.and_true, Bool.true_and, cond_true, Int.toNat_natCast, ih' ()]
      rw [drop_getD hi (dflt (TAttr))]
      rfl
    · have b1 : decide ((i : Int) < (sett0.length : Int)) = false := decide_eq_false (by omega)
      simp only [b1, cond_false]
      rw [List.drop_eq_nil_of_le hi]
      rfl
noncomputable def law05_great_F2 (call : Call0) (n : Nat)  : (St → Option (denR (.one (.bool)))) → St → Option (denR (.one (.bool))) := fun rec => exec cfg call n 31 (cat B31 [1, 0, 1, 0, 0]) (kLoop rec (lk2 31 2 cfg.keep) (kBlock 0 (kSq (exec cfg call n 31 (cat B31 [1, 1])) (kret cfg Go.Proofs.Tryd.f31 (.one (.bool))))))
theorem law05_great_l2_eq (call : Call0) (n : Nat)  : ∀ (m : Nat) (sett0 : den (LAttr)) (t5 : den (.int .i64)) (t6 : den (.int .i64)), loopN (law05_great_F2 call n ) m (law05_great_sh2 sett0 t5 t6) = law05_great_l2  n  m sett0 t5 t6 := by
  intro m
  induction m with
  | zero => intros; rfl
  | succ m ih =>
    intro sett0 t5 t6
    have h : loopN (law05_great_F2 call n ) (m + 1) (law05_great_sh2 sett0 t5 t6) = law05_great_s2    (fun (sett0 : den (LAttr)) (t5 : den (.int .i64)) (t6 : den (.int .i64)) => loopN (law05_great_F2 call n ) m (law05_great_sh2 sett0 t5 t6)) sett0 t5 t6 := by kernel_rfl
    have e0 : (fun (sett0 : den (LAttr)) (t5 : den (.int .i64)) (t6 : den (.int .i64)) => loopN (law05_great_F2 call n ) m (law05_great_sh2 sett0 t5 t6)) = (fun (sett0 : den (LAttr)) (t5 : den (.int .i64)) (t6 : den (.int .i64)) => law05_great_l2  n  m sett0 t5 t6) := by funext sett0 t5 t6; exact ih sett0 t5 t6
    rw [h, e0]; rfl
noncomputable def law05_great_top  (LL2 : den (LAttr) → den (.int .i64) → den (.int .i64) → Option (denR (.one (.bool)))) (a0 : den (LAttr)) : Option (denR (.one (.bool))) := LL2 a0 (a0.length : Int) (0 : Int)
noncomputable def law05_great : Nat → den (LAttr) → Option (denR (.one (.bool)))
  | 0, _ => none
  | n + 1, a0 => law05_great_top  (law05_great_l2  n n) a0
theorem law05_great_eq (n : Nat) (a0 : den (LAttr)) : (acalls cfg intr intrI n).p 31 [.s (.val (LAttr) a0)] (.one (.bool)) = law05_great n a0 := by
  cases n with
  | zero => rfl
  | succ n =>
    have h : (acalls cfg intr intrI (n + 1)).p 31 [.s (.val (LAttr) a0)] (.one (.bool)) = law05_great_top  (fun (sett0 : den (LAttr)) (t5 : den (.int .i64)) (t6 : den (.int .i64)) => loopN (law05_great_F2 (acalls cfg intr intrI n) n) n (law05_great_sh2 sett0 t5 t6)) a0 := by kernel_rfl
    have e2 : (fun (sett0 : den (LAttr)) (t5 : den (.int .i64)) (t6 : den (.int .i64)) => loopN (law05_great_F2 (acalls cfg intr intrI n) n) n (law05_great_sh2 sett0 t5 t6)) = law05_great_l2  n n := by funext sett0 t5 t6; exact law05_great_l2_eq (acalls cfg intr intrI n) n n sett0 t5 t6
    rw [h, e2]; rfl

noncomputable def B33 : Code := (Go.Proofs.Tryd.f33.body).getD .skip
noncomputable def attrs_May_sh5 (st0 : den (PSchema)) (sett1 : den (LAttr)) (et5 : den (.int .i64)) (t11 : den (LAttr)) (t12 : den (.int .i64)) (t13 : den (.int .i64)) : St := ⟨[.s (.val (PSchema) st0), .s (.val (LAttr) sett1), U, U, U, .s (.val (.int .i64) et5), U, U, U, U, U, .s (.val (LAttr) t11), .s (.val (.int .i64) t12), .s (.val (.int .i64) t13), U, U, U, U, U, U, U, U, U, U, U, U, U, U, U, U, U, U, U, U, U, U, U, U, U, U, U, U, U, U, U, U, U, U], []⟩
noncomputable def attrs_May_s5 (C_value_May : den (TValue) → Option (denR (.one (.bool)))) (C_Schema_Fits : den (PSchema) → den (.int .i64) → den (TValue) → Option (denR (.one (.bool))))   (LS5 : den (PSchema) → den (LAttr) → den (.int .i64) → den (LAttr) → den (.int .i64) → den (.int .i64) → Option (denR (.one (.int .i64)))) (st0 : den (PSchema)) (sett1 : den (LAttr)) (et5 : den (.int .i64)) (t11 : den (LAttr)) (t12 : den (.int .i64)) (t13 : den (.int .i64)) : Option (denR (.one (.int .i64))) := (bif (decide (t13 < t12)) then (bif decide (0 ≤ t13) && decide (t13 < (t11.length : Int)) then (bif (decide ((0 : Int) < t13)) then (bif decide (0 ≤ (IntKind.wrap .i64 (t13 - (1 : Int)))) && decide ((IntKind.wrap .i64 (t13 - (1 : Int))) < (sett1.length : Int)) then (bif (decide ((t11.getD (Int.toNat t13) (dflt (TAttr))).1 ≤ (sett1.getD (Int.toNat (IntKind.wrap .i64 (t13 - (1 : Int)))) (dflt (TAttr))).1)) then some (3 : Int) else ((C_value_May (((t11.getD (Int.toNat t13) (dflt (TAttr))).2).1)).bind fun r1 => (bif (!r1) then some (3 : Int) else ((C_Schema_Fits st0 ((t11.getD (Int.toNat t13) (dflt (TAttr))).1) (((t11.getD (Int.toNat t13) (dflt (TAttr))).2).1)).bind fun r2 => (bif (!r2) then LS5 st0 sett1 (4 : Int) t11 t12 (IntKind.wrap .i64 (t13 + (1 : Int))) else LS5 st0 sett1 et5 t11 t12 (IntKind.wrap .i64 (t13 + (1 : Int)))))))) else none) else ((C_value_May (((t11.getD (Int.toNat t13) (dflt (TAttr))).2).1)).bind fun r3 => (bif (!r3) then some (3 : Int) else ((C_Schema_Fits st0 ((t11.getD (Int.toNat t13) (dflt (TAttr))).1) (((t11.getD (Int.toNat t13) (dflt (TAttr))).2).1)).bind fun r4 => (bif (!r4) then LS5 st0 sett1 (4 : Int) t11 t12 (IntKind.wrap .i64 (t13 + (1 : Int))) else LS5 st0 sett1 et5 t11 t12 (IntKind.wrap .i64 (t13 + (1 : Int)))))))) else none) else some et5)
noncomputable def attrs_May_l5 (C_value_May : den (TValue) → Option (denR (.one (.bool)))) (C_Schema_Fits : den (PSchema) → den (.int .i64) → den (TValue) → Option (denR (.one (.bool)))) (n : Nat)  : Nat → den (PSchema) → den (LAttr) → den (.int .i64) → den (LAttr) → den (.int .i64) → den (.int .i64) → Option (denR (.one (.int .i64)))
  | 0, _, _, _, _, _, _ => none
  | m + 1, st0, sett1, et5, t11, t12, t13 => attrs_May_s5 C_value_May C_Schema_Fits   (fun (st0 : den (PSchema)) (sett1 : den (LAttr)) (et5 : den (.int .i64)) (t11 : den (LAttr)) (t12 : den (.int .i64)) (t13 : den (.int .i64)) => attrs_May_l5 C_value_May C_Schema_Fits n  m st0 sett1 et5 t11 t12 t13) st0 sett1 et5 t11 t12 t13
noncomputable def attrs_May_g5 (C_value_May : den (TValue) → Option (denR (.one (.bool)))) (C_Schema_Fits : den (PSchema) → den (.int .i64) → den (TValue) → Option (denR (.one (.bool))))   : List (den (TAttr)) → den (PSchema) → den (LAttr) → den (.int .i64) → den (.int .i64) → Option (denR (.one (.int .i64)))
  | [], st0, sett1, et5, t13 => some et5
  | x :: r, st0, sett1, et5, t13 => (bif (decide ((0 : Int) < t13)) then (bif decide (0 ≤ (IntKind.wrap .i64 (t13 - (1 : Int)))) && decide ((IntKind.wrap .i64 (t13 - (1 : Int))) < (sett1.length : Int)) then (bif (decide (x.1 ≤ (sett1.getD (Int.toNat (IntKind.wrap .i64 (t13 - (1 : Int)))) (dflt (TAttr))).1)) then some (3 : Int) else ((C_value_May x.2.1).bind fun r5 => (bif (!r5) then some (3 : Int) else ((C_Schema_Fits st0 x.1 x.2.1).bind fun r6 => (bif (!r6) then attrs_May_g5 C_value_May C_Schema_Fits   r st0 sett1 (4 : Int) (t13 + (1 : Int)) else attrs_May_g5 C_value_May C_Schema_Fits   r st0 sett1 et5 (t13 + (1 : Int))))))) else none) else ((C_value_May x.2.1).bind fun r7 => (bif (!r7) then some (3 : Int) else ((C_Schema_Fits st0 x.1 x.2.1).bind fun r8 => (bif (!r8) then attrs_May_g5 C_value_May C_Schema_Fits   r st0 sett1 (4 : Int) (t13 + (1 : Int)) else attrs_May_g5 C_value_May C_Schema_Fits   r st0 sett1 et5 (t13 + (1 : Int)))))))
theorem attrs_May_l5_list (C_value_May : den (TValue) → Option (denR (.one (.bool)))) (C_Schema_Fits : den (PSchema) → den (.int .i64) → den (TValue) → Option (denR (.one (.bool)))) (n : Nat)  : ∀ (m i : Nat) (st0 : den (PSchema)) (sett1 : den (LAttr)) (et5 : den (.int .i64)) (t11 : den (LAttr)), t11.length - i < m → i ≤ t11.length → t11.length < 4611686018427387904 → attrs_May_l5 C_value_May C_Schema_Fits n  m st0 sett1 et5 t11 (t11.length : Int) (i : Int) = attrs_May_g5 C_value_May C_Schema_Fits   (t11.drop i) st0 sett1 et5 (i : Int) := by
  intro m
  induction m with
  | zero => intro i st0 sett1 et5 t11 h1; omega
  | succ m ih =>
    intro i st0 sett1 et5 t11 h1 h2 h3
    show attrs_May_s5 C_value_May C_Schema_Fits   (fun (st0 : den (PSchema)) (sett1 : den (LAttr)) (et5 : den (.int .i64)) (t11 : den (LAttr)) (t12 : den (.int .i64)) (t13 : den (.int .i64)) => attrs_May_l5 C_value_May C_Schema_Fits n  m st0 sett1 et5 t11 t12 t13) st0 sett1 et5 t11 (t11.length : Int) (i : Int) = _
    unfold attrs_May_s5
    have b0 : decide ((0 : Int) ≤ (i : Int)) = true := decide_eq_true (by omega)
    rcases Nat.lt_or_ge i t11.length with hi | hi
    · have b1 : decide ((i : Int) < (t11.length : Int)) = true := decide_eq_true (by omega)
      have bw : IntKind.i64.wrap ((i : Int) + (1 : Int)) = ((i + 1 : Nat) : Int) := w64s (by omega)
      have ih' : ∀ (st0 : den (PSchema)) (sett1 : den (LAttr)) (et5 : den (.int .i64)), attrs_May_l5 C_value_May C_Schema_Fits n  m st0 sett1 et5 t11 (t11.length : Int) ((i + 1 : Nat) : Int) = attrs_May_g5 C_value_May C_Schema_Fits   (t11.drop (i + 1)) st0 sett1 et5 ((i + 1 : Nat) : Int) := fun st0 sett1 et5 => ih (i + 1) st0 sett1 et5 t11 (by omega) (by omega) h3
      simp only [b0, b1, bw, Bool.and_true, Bool.true_and, cond_true, Int.toNat_natCast, ih']
      rw [drop_getD hi (dflt (TAttr))]
      rfl
    · have b1 : decide ((i : Int) < (t11.length : Int)) = false := decide_eq_false (by omega)
      simp only [b1, cond_false]
      rw [List.drop_eq_nil_of_le hi]
      rfl
noncomputable def attrs_May_F5 (call : Call0) (n : Nat)  : (St → Option (denR (.one (.int .i64)))) → St → Option (denR (.one (.int .i64))) := fun rec => exec cfg call n 33 (cat B33 [1, 1, 1, 0, 1, 0, 0]) (kLoop rec (lk2 33 5 cfg.keep) (kBlock 0 (kSq (exec cfg call n 33 (cat B33 [1, 1, 1, 1])) (kret cfg Go.Proofs.Tryd.f33 (.one (.int .i64))))))
theorem attrs_May_l5_eq (call : Call0) (n : Nat)  : ∀ (m : Nat) (st0 : den (PSchema)) (sett1 : den (LAttr)) (et5 : den (.int .i64)) (t11 : den (LAttr)) (t12 : den (.int .i64)) (t13 : den (.int .i64)), loopN (attrs_May_F5 call n ) m (attrs_May_sh5 st0 sett1 et5 t11 t12 t13) = attrs_May_l5 (fun (a0 : den (TValue)) => call.p 51 [.s (.val (TValue) a0)] (.one (.bool))) (fun (a0 : den (PSchema)) (a1 : den (.int .i64)) (a2 : den (TValue)) => call.p 34 [.s (.val (PSchema) a0), .s (.val (.int .i64) a1), .s (.val (TValue) a2)] (.one (.bool))) n  m st0 sett1 et5 t11 t12 t13 := by
  intro m
  induction m with
  | zero => intros; rfl
  | succ m ih =>
    intro st0 sett1 et5 t11 t12 t13
    have h : loopN (attrs_May_F5 call n ) (m + 1) (attrs_May_sh5 st0 sett1 et5 t11 t12 t13) = attrs_May_s5 (fun (a0 : den (TValue)) => call.p 51 [.s (.val (TValue) a0)] (.one (.bool))) (fun (a0 : den (PSchema)) (a1 : den (.int .i64)) (a2 : den (TValue)) => call.p 34 [.s (.val (PSchema) a0), .s (.val (.int .i64) a1), .s (.val (TValue) a2)] (.one (.bool)))   (fun (st0 : den (PSchema)) (sett1 : den (LAttr)) (et5 : den (.int .i64)) (t11 : den (LAttr)) (t12 : den (.int .i64)) (t13 : den (.int .i64)) => loopN (attrs_May_F5 call n ) m (attrs_May_sh5 st0 sett1 et5 t11 t12 t13)) st0 sett1 et5 t11 t12 t13 := by kernel_rfl
    have e0 : (fun (st0 : den (PSchema)) (sett1 : den (LAttr)) (et5 : den (.int .i64)) (t11 : den (LAttr)) (t12 : den (.int .i64)) (t13 : den (.int .i64)) => loopN (attrs_May_F5 call n ) m (attrs_May_sh5 st0 sett1 et5 t11 t12 t13)) = (fun (st0 : den (PSchema)) (sett1 : den (LAttr)) (et5 : den (.int .i64)) (t11 : den (LAttr)) (t12 : den (.int .i64)) (t13 : den (.int .i64)) => attrs_May_l5 (fun (a0 : den (TValue)) => call.p 51 [.s (.val (TValue) a0)] (.one (.bool))) (fun (a0 : den (PSchema)) (a1 : den (.int .i64)) (a2 : den (TValue)) => call.p 34 [.s (.val (PSchema) a0), .s (.val (.int .i64) a1), .s (.val (TValue) a2)] (.one (.bool))) n  m st0 sett1 et5 t11 t12 t13) := by funext st0 sett1 et5 t11 t12 t13; exact ih st0 sett1 et5 t11 t12 t13
    rw [h, e0]; rfl
noncomputable def attrs_May_top (C_value_May : den (TValue) → Option (denR (.one (.bool)))) (C_Schema_Fits : den (PSchema) → den (.int .i64) → den (TValue) → Option (denR (.one (.bool)))) (LL5 : den (PSchema) → den (LAttr) → den (.int .i64) → den (LAttr) → den (.int .i64) → den (.int .i64) → Option (denR (.one (.int .i64)))) (a0 : den (PSchema)) (a1 : den (LAttr)) : Option (denR (.one (.int .i64))) := (bif (decide ((64 : Int) < (a1.length : Int))) then some (3 : Int) else LL5 a0 a1 (0 : Int) a1 (a1.length : Int) (0 : Int))
noncomputable def attrs_May : Nat → den (PSchema) → den (LAttr) → Option (denR (.one (.int .i64)))
  | 0, _, _ => none
  | n + 1, a0, a1 => attrs_May_top (value_May n) (Schema_Fits n) (attrs_May_l5 (value_May n) (Schema_Fits n) n n) a0 a1
theorem attrs_May_eq (n : Nat) (a0 : den (PSchema)) (a1 : den (LAttr)) : (acalls cfg intr intrI n).p 33 [.s (.val (PSchema) a0), .s (.val (LAttr) a1)] (.one (.int .i64)) = attrs_May n a0 a1 := by
  cases n with
  | zero => rfl
  | succ n =>
    have h : (acalls cfg intr intrI (n + 1)).p 33 [.s (.val (PSchema) a0), .s (.val (LAttr) a1)] (.one (.int .i64)) = attrs_May_top (fun (a0 : den (TValue)) => (acalls cfg intr intrI n).p 51 [.s (.val (TValue) a0)] (.one (.bool))) (fun (a0 : den (PSchema)) (a1 : den (.int .i64)) (a2 : den (TValue)) => (acalls cfg intr intrI n).p 34 [.s (.val (PSchema) a0), .s (.val (.int .i64) a1), .s (.val (TValue) a2)] (.one (.bool))) (fun (st0 : den (PSchema)) (sett1 : den (LAttr)) (et5 : den (.int .i64)) (t11 : den (LAttr)) (t12 : den (.int .i64)) (t13 : den (.int .i64)) => loopN (attrs_May_F5 (acalls cfg intr intrI n) n) n (attrs_May_sh5 st0 sett1 et5 t11 t12 t13)) a0 a1 := by kernel_rfl
    have e5 : (fun (st0 : den (PSchema)) (sett1 : den (LAttr)) (et5 : den (.int .i64)) (t11 : den (LAttr)) (t12 : den (.int .i64)) (t13 : den (.int .i64)) => loopN (attrs_May_F5 (acalls cfg intr intrI n) n) n (attrs_May_sh5 st0 sett1 et5 t11 t12 t13)) = attrs_May_l5 (fun (a0 : den (TValue)) => (acalls cfg intr intrI n).p 51 [.s (.val (TValue) a0)] (.one (.bool))) (fun (a0 : den (PSchema)) (a1 : den (.int .i64)) (a2 : den (TValue)) => (acalls cfg intr intrI n).p 34 [.s (.val (PSchema) a0), .s (.val (.int .i64) a1), .s (.val (TValue) a2)] (.one (.bool))) n n := by funext st0 sett1 et5 t11 t12 t13; exact attrs_May_l5_eq (acalls cfg intr intrI n) n n st0 sett1 et5 t11 t12 t13
    have c_value_May : (fun (a0 : den (TValue)) => (acalls cfg intr intrI n).p 51 [.s (.val (TValue) a0)] (.one (.bool))) = value_May n := by funext a0; exact value_May_eq n a0
    have c_Schema_Fits : (fun (a0 : den (PSchema)) (a1 : den (.int .i64)) (a2 : den (TValue)) => (acalls cfg intr intrI n).p 34 [.s (.val (PSchema) a0), .s (.val (.int .i64) a1), .s (.val (TValue) a2)] (.one (.bool))) = Schema_Fits n := by funext a0 a1 a2; exact Schema_Fits_eq n a0 a1 a2
    rw [h, e5, c_value_May, c_Schema_Fits]; rfl

noncomputable def attrs_Part_1_top (C_Schema_Find : den (PSchema) → den (.int .i64) → Option (denR (.two (TKey) (.bool))))  (a0 : den (TAttr)) (a1 : den (PSchema)) (a2 : den (.bool)) : Option (denR (.one (.bool))) := ((C_Schema_Find a1 a0.1).bind fun r1 => (bif (!r1.2) then some true else some (!eqT (.bool) r1.1.2.1 a2)))
noncomputable def attrs_Part_1 : Nat → den (TAttr) → den (PSchema) → den (.bool) → Option (denR (.one (.bool)))
  | 0, _, _, _ => none
  | n + 1, a0, a1, a2 => attrs_Part_1_top (Schema_Find n)  a0 a1 a2
theorem attrs_Part_1_eq (n : Nat) (a0 : den (TAttr)) (a1 : den (PSchema)) (a2 : den (.bool)) : (acalls cfg intr intrI n).p 68 [.s (.val (TAttr) a0), .s (.eptr (PSchema) a1), .s (.eptr (.bool) a2)] (.one (.bool)) = attrs_Part_1 n a0 a1 a2 := by
  cases n with
  | zero => rfl
  | succ n =>
    have h : (acalls cfg intr intrI (n + 1)).p 68 [.s (.val (TAttr) a0), .s (.eptr (PSchema) a1), .s (.eptr (.bool) a2)] (.one (.bool)) = attrs_Part_1_top (fun (a0 : den (PSchema)) (a1 : den (.int .i64)) => (acalls cfg intr intrI n).p 50 [.s (.val (PSchema) a0), .s (.val (.int .i64) a1)] (.two (TKey) (.bool)))  a0 a1 a2 := by kernel_rfl
    have c_Schema_Find : (fun (a0 : den (PSchema)) (a1 : den (.int .i64)) => (acalls cfg intr intrI n).p 50 [.s (.val (PSchema) a0), .s (.val (.int .i64) a1)] (.two (TKey) (.bool))) = Schema_Find n := by funext a0 a1; exact Schema_Find_eq n a0 a1
    rw [h, c_Schema_Find]; rfl

noncomputable def slices_IndexFunc_Attr__attrs_Part_1_sh2 (st0 : den (LAttr)) (ft1_0 : den (PSchema)) (ft1_1 : den (.bool)) (t7 : den (.int .i64)) (t8 : den (.int .i64)) : St := ⟨[.s (.val (LAttr) st0), .fn 68 [.eptr (PSchema) ft1_0, .eptr (.bool) ft1_1], U, U, U, U, U, .s (.val (.int .i64) t7), .s (.val (.int .i64) t8), U, U, U, U, U, U, U, U, U, U], []⟩
noncomputable def slices_IndexFunc_Attr__attrs_Part_1_s2 (C_attrs_Part_1 : den (TAttr) → den (PSchema) → den (.bool) → Option (denR (.one (.bool))))   (LS2 : den (LAttr) → den (PSchema) → den (.bool) → den (.int .i64) → den (.int .i64) → Option (denR (.one (.int .i64)))) (st0 : den (LAttr)) (ft1_0 : den (PSchema)) (ft1_1 : den (.bool)) (t7 : den (.int .i64)) (t8 : den (.int .i64)) : Option (denR (.one (.int .i64))) := (bif (decide (t8 < t7)) then (bif decide (0 ≤ t8) && decide (t8 < (st0.length : Int)) then ((C_attrs_Part_1 (st0.getD (Int.toNat t8) (dflt (TAttr))) ft1_0 ft1_1).bind fun r1 => (bif r1 then some t8 else LS2 st0 ft1_0 ft1_1 t7 (IntKind.wrap .i64 (t8 + (1 : Int))))) else none) else some (-1 : Int))
noncomputable def slices_IndexFunc_Attr__attrs_Part_1_l2 (C_attrs_Part_1 : den (TAttr) → den (PSchema) → den (.bool) → Option (denR (.one (.bool)))) (n : Nat)  : Nat → den (LAttr) → den (PSchema) → den (.bool) → den (.int .i64) → den (.int .i64) → Option (denR (.one (.int .i64)))
  | 0, _, _, _, _, _ => none
  | m + 1, st0, ft1_0, ft1_1, t7, t8 => slices_IndexFunc_Attr__attrs_Part_1_s2 C_attrs_Part_1   (fun (st0 : den (LAttr)) (ft1_0 : den (PSchema)) (ft1_1 : den (.bool)) (t7 : den (.int .i64)) (t8 : den (.int .i64)) => slices_IndexFunc_Attr__attrs_Part_1_l2 C_attrs_Part_1 n  m st0 ft1_0 ft1_1 t7 t8) st0 ft1_0 ft1_1 t7 t8
noncomputable def slices_IndexFunc_Attr__attrs_Part_1_g2 (C_attrs_Part_1 : den (TAttr) → den (PSchema) → den (.bool) → Option (denR (.one (.bool))))   : List (den (TAttr)) → den (PSchema) → den (.bool) → den (.int .i64) → Option (denR (.one (.int .i64)))
  | [], ft1_0, ft1_1, t8 => some (-1 : Int)
  | x :: r, ft1_0, ft1_1, t8 => ((C_attrs_Part_1 x ft1_0 ft1_1).bind fun r2 => (bif r2 then some t8 else slices_IndexFunc_Attr__attrs_Part_1_g2 C_attrs_Part_1   r ft1_0 ft1_1 (t8 + (1 : Int))))
theorem slices_IndexFunc_Attr__attrs_Part_1_l2_list (C_attrs_Part_1 : den (TAttr) → den (PSchema) → den (.bool) → Option (denR (.one (.bool)))) (n : Nat)  : ∀ (m i : Nat) (st0 : den (LAttr)) (ft1_0 : den (PSchema)) (ft1_1 : den (.bool)), st0.length - i < m → i ≤ st0.length → st0.length < 4611686018427387904 → slices_IndexFunc_Attr__attrs_Part_1_l2 C_attrs_Part_1 n  m st0 ft1_0 ft1_1 (st0.length : Int) (i : Int) = slices_IndexFunc_Attr__attrs_Part_1_g2 C_attrs_Part_1   (st0.drop i) ft1_0 ft1_1 (i : Int) := by
  intro m
  induction m with
  | zero => intro i st0 ft1_0 ft1_1 h1; omega
  | succ m ih =>
    intro i st0 ft1_0 ft1_1 h1 h2 h3
    show slices_IndexFunc_Attr__attrs_Part_1_s2 C_attrs_Part_1   (fun (st0 : den (LAttr)) (ft1_0 : den (PSchema)) (ft1_1 : den (.bool)) (t7 : den (.int .i64)) (t8 : den (.int .i64)) => slices_IndexFunc_Attr__attrs_Part_1_l2 C_attrs_Part_1 n  m st0 ft1_0 ft1_1 t7 t8) st0 ft1_0 ft1_1 (st0.length : Int) (i : Int) = _
    unfold slices_IndexFunc_Attr__attrs_Part_1_s2
    have b0 : decide ((0 : Int) ≤ (i : Int)) = true := decide_eq_true (by omega)
    rcases Nat.lt_or_ge i st0.length with hi | hi
    · have b1 : decide ((i : Int) < (st0.length : Int)) = true := decide_eq_true (by omega)
      have bw : IntKind.i64.wrap ((i : Int) + (1 : Int)) = ((i + 1 : Nat) : Int) := w64s (by omega)
      have ih' : ∀ (ft1_0 : den (PSchema)) (ft1_1 : den (.bool)), slices_IndexFunc_Attr__attrs_Part_1_l2 C_attrs_Part_1 n  m st0 ft1_0 ft1_1 (st0.length : Int) ((i + 1 : Nat) : Int) = slices_IndexFunc_Attr__attrs_Part_1_g2 C_attrs_Part_1   (st0.drop (i + 1)) ft1_0 ft1_1 ((i + 1 : Nat) : Int) := fun ft1_0 ft1_1 => ih (i + 1) st0 ft1_0 ft1_1 (by omega) (by omega) h3
      simp only [b0, b1, bw, Bool.and_true, Bool.true_and, cond_true, Int.toNat_natCast, ih']
      rw [drop_getD hi (dflt (TAttr))]
      rfl
    · have b1 : decide ((i : Int) < (st0.length : Int)) = false := decide_eq_false (by omega)
      simp only [b1, cond_false]
      rw [List.drop_eq_nil_of_le hi]
      rfl
noncomputable def slices_IndexFunc_Attr__attrs_Part_1_F2 (call : Call0) (n : Nat)  : (St → Option (denR (.one (.int .i64)))) → St → Option (denR (.one (.int .i64))) := fun rec => exec cfg call n 85 (cat B85 [1, 0, 1, 0, 0]) (kLoop rec (lk2 85 2 cfg.keep) (kBlock 0 (kSq (exec cfg call n 85 (cat B85 [1, 1])) (kret cfg Go.Proofs.Tryd.f85 (.one (.int .i64))))))
theorem slices_IndexFunc_Attr__attrs_Part_1_l2_eq (call : Call0) (n : Nat)  : ∀ (m : Nat) (st0 : den (LAttr)) (ft1_0 : den (PSchema)) (ft1_1 : den (.bool)) (t7 : den (.int .i64)) (t8 : den (.int .i64)), loopN (slices_IndexFunc_Attr__attrs_Part_1_F2 call n ) m (slices_IndexFunc_Attr__attrs_Part_1_sh2 st0 ft1_0 ft1_1 t7 t8) = slices_IndexFunc_Attr__attrs_Part_1_l2 (fun (a0 : den (TAttr)) (a1 : den (PSchema)) (a2 : den (.bool)) => call.p 68 [.s (.val (TAttr) a0), .s (.eptr (PSchema) a1), .s (.eptr (.bool) a2)] (.one (.bool))) n  m st0 ft1_0 ft1_1 t7 t8 := by
  intro m
  induction m with
  | zero => intros; rfl
  | succ m ih =>
    intro st0 ft1_0 ft1_1 t7 t8
    have h : loopN (slices_IndexFunc_Attr__attrs_Part_1_F2 call n ) (m + 1) (slices_IndexFunc_Attr__attrs_Part_1_sh2 st0 ft1_0 ft1_1 t7 t8) = slices_IndexFunc_Attr__attrs_Part_1_s2 (fun (a0 : den (TAttr)) (a1 : den (PSchema)) (a2 : den (.bool)) => call.p 68 [.s (.val (TAttr) a0), .s (.eptr (PSchema) a1), .s (.eptr (.bool) a2)] (.one (.bool)))   (fun (st0 : den (LAttr)) (ft1_0 : den (PSchema)) (ft1_1 : den (.bool)) (t7 : den (.int .i64)) (t8 : den (.int .i64)) => loopN (slices_IndexFunc_Attr__attrs_Part_1_F2 call n ) m (slices_IndexFunc_Attr__attrs_Part_1_sh2 st0 ft1_0 ft1_1 t7 t8)) st0 ft1_0 ft1_1 t7 t8 := by kernel_rfl
    have e0 : (fun (st0 : den (LAttr)) (ft1_0 : den (PSchema)) (ft1_1 : den (.bool)) (t7 : den (.int .i64)) (t8 : den (.int .i64)) => loopN (slices_IndexFunc_Attr__attrs_Part_1_F2 call n ) m (slices_IndexFunc_Attr__attrs_Part_1_sh2 st0 ft1_0 ft1_1 t7 t8)) = (fun (st0 : den (LAttr)) (ft1_0 : den (PSchema)) (ft1_1 : den (.bool)) (t7 : den (.int .i64)) (t8 : den (.int .i64)) => slices_IndexFunc_Attr__attrs_Part_1_l2 (fun (a0 : den (TAttr)) (a1 : den (PSchema)) (a2 : den (.bool)) => call.p 68 [.s (.val (TAttr) a0), .s (.eptr (PSchema) a1), .s (.eptr (.bool) a2)] (.one (.bool))) n  m st0 ft1_0 ft1_1 t7 t8) := by funext st0 ft1_0 ft1_1 t7 t8; exact ih st0 ft1_0 ft1_1 t7 t8
    rw [h, e0]; rfl
noncomputable def slices_IndexFunc_Attr__attrs_Part_1_top (C_attrs_Part_1 : den (TAttr) → den (PSchema) → den (.bool) → Option (denR (.one (.bool)))) (LL2 : den (LAttr) → den (PSchema) → den (.bool) → den (.int .i64) → den (.int .i64) → Option (denR (.one (.int .i64)))) (a0 : den (LAttr)) (a1_0 : den (PSchema)) (a1_1 : den (.bool)) : Option (denR (.one (.int .i64))) := LL2 a0 a1_0 a1_1 (a0.length : Int) (0 : Int)
noncomputable def slices_IndexFunc_Attr__attrs_Part_1 : Nat → den (LAttr) → den (PSchema) → den (.bool) → Option (denR (.one (.int .i64)))
  | 0, _, _, _ => none
  | n + 1, a0, a1_0, a1_1 => slices_IndexFunc_Attr__attrs_Part_1_top (attrs_Part_1 n) (slices_IndexFunc_Attr__attrs_Part_1_l2 (attrs_Part_1 n) n n) a0 a1_0 a1_1
theorem slices_IndexFunc_Attr__attrs_Part_1_eq (n : Nat) (a0 : den (LAttr)) (a1_0 : den (PSchema)) (a1_1 : den (.bool)) : (acalls cfg intr intrI n).p 85 [.s (.val (LAttr) a0), .fn 68 [.eptr (PSchema) a1_0, .eptr (.bool) a1_1]] (.one (.int .i64)) = slices_IndexFunc_Attr__attrs_Part_1 n a0 a1_0 a1_1 := by
  cases n with
  | zero => rfl
  | succ n =>
    have h : (acalls cfg intr intrI (n + 1)).p 85 [.s (.val (LAttr) a0), .fn 68 [.eptr (PSchema) a1_0, .eptr (.bool) a1_1]] (.one (.int .i64)) = slices_IndexFunc_Attr__attrs_Part_1_top (fun (a0 : den (TAttr)) (a1 : den (PSchema)) (a2 : den (.bool)) => (acalls cfg intr intrI n).p 68 [.s (.val (TAttr) a0), .s (.eptr (PSchema) a1), .s (.eptr (.bool) a2)] (.one (.bool))) (fun (st0 : den (LAttr)) (ft1_0 : den (PSchema)) (ft1_1 : den (.bool)) (t7 : den (.int .i64)) (t8 : den (.int .i64)) => loopN (slices_IndexFunc_Attr__attrs_Part_1_F2 (acalls cfg intr intrI n) n) n (slices_IndexFunc_Attr__attrs_Part_1_sh2 st0 ft1_0 ft1_1 t7 t8)) a0 a1_0 a1_1 := by kernel_rfl
    have e2 : (fun (st0 : den (LAttr)) (ft1_0 : den (PSchema)) (ft1_1 : den (.bool)) (t7 : den (.int .i64)) (t8 : den (.int .i64)) => loopN (slices_IndexFunc_Attr__attrs_Part_1_F2 (acalls cfg intr intrI n) n) n (slices_IndexFunc_Attr__attrs_Part_1_sh2 st0 ft1_0 ft1_1 t7 t8)) = slices_IndexFunc_Attr__attrs_Part_1_l2 (fun (a0 : den (TAttr)) (a1 : den (PSchema)) (a2 : den (.bool)) => (acalls cfg intr intrI n).p 68 [.s (.val (TAttr) a0), .s (.eptr (PSchema) a1), .s (.eptr (.bool) a2)] (.one (.bool))) n n := by funext st0 ft1_0 ft1_1 t7 t8; exact slices_IndexFunc_Attr__attrs_Part_1_l2_eq (acalls cfg intr intrI n) n n st0 ft1_0 ft1_1 t7 t8
    have c_attrs_Part_1 : (fun (a0 : den (TAttr)) (a1 : den (PSchema)) (a2 : den (.bool)) => (acalls cfg intr intrI n).p 68 [.s (.val (TAttr) a0), .s (.eptr (PSchema) a1), .s (.eptr (.bool) a2)] (.one (.bool))) = attrs_Part_1 n := by funext a0 a1 a2; exact attrs_Part_1_eq n a0 a1 a2
    rw [h, e2, c_attrs_Part_1]; rfl

noncomputable def slices_DeleteFunc_Attr__attrs_Part_1_sh5 (delt1_0 : den (PSchema)) (delt1_1 : den (.bool)) (it5 : den (.int .i64)) (jt6 : den (.int .i64)) (o42 : den (LAttr)) : St := ⟨[.s (.arr 42), .fn 68 [.eptr (PSchema) delt1_0, .eptr (.bool) delt1_1], U, U, U, .s (.val (.int .i64) it5), .s (.val (.int .i64) jt6), U, U, U, U, U, U, U, U, U, U, U, U, U, U, U, U, U, U, U, U, U, U, U, U, U, U, U, U, U, U, U, U, U, U, U], [(42, .arr 44 (TAttr) o42)]⟩
noncomputable def slices_DeleteFunc_Attr__attrs_Part_1_s5 (C_slices_IndexFunc_Attr__attrs_Part_1 : den (LAttr) → den (PSchema) → den (.bool) → Option (denR (.one (.int .i64)))) (C_attrs_Part_1 : den (TAttr) → den (PSchema) → den (.bool) → Option (denR (.one (.bool))))   (LS5 : den (PSchema) → den (.bool) → den (.int .i64) → den (.int .i64) → den (LAttr) → Option (denS (⟨.row 44 (TAttr), [.dead]⟩ : Sig))) (delt1_0 : den (PSchema)) (delt1_1 : den (.bool)) (it5 : den (.int .i64)) (jt6 : den (.int .i64)) (o42 : den (LAttr)) : Option (denS (⟨.row 44 (TAttr), [.dead]⟩ : Sig)) := (bif (decide (jt6 < (o42.length : Int))) then (bif decide (0 ≤ jt6) && decide (jt6 < (o42.length : Int)) then ((C_attrs_Part_1 (o42.getD (Int.toNat jt6) (dflt (TAttr))) delt1_0 delt1_1).bind fun r2 => (bif (!r2) then (bif decide (0 ≤ it5) && decide (it5 < (o42.length : Int)) then LS5 delt1_0 delt1_1 (IntKind.wrap .i64 (it5 + (1 : Int))) (IntKind.wrap .i64 (jt6 + (1 : Int))) (o42.set (Int.toNat it5) (o42.getD (Int.toNat jt6) (dflt (TAttr)))) else none) else LS5 delt1_0 delt1_1 it5 (IntKind.wrap .i64 (jt6 + (1 : Int))) o42)) else none) else (bif decide (0 ≤ it5) && decide (it5 ≤ (o42.length : Int)) then (bif decide (0 ≤ it5) && decide (it5 ≤ ((o42.take (Int.toNat it5) ++ List.replicate (o42.length - (Int.toNat it5)) (dflt (TAttr))).length : Int)) then some (((o42.take (Int.toNat it5) ++ List.replicate (o42.length - (Int.toNat it5)) (dflt (TAttr))).take (Int.toNat it5)), ((), ())) else none) else none))
noncomputable def slices_DeleteFunc_Attr__attrs_Part_1_l5 (C_slices_IndexFunc_Attr__attrs_Part_1 : den (LAttr) → den (PSchema) → den (.bool) → Option (denR (.one (.int .i64)))) (C_attrs_Part_1 : den (TAttr) → den (PSchema) → den (.bool) → Option (denR (.one (.bool)))) (n : Nat)  : Nat → den (PSchema) → den (.bool) → den (.int .i64) → den (.int .i64) → den (LAttr) → Option (denS (⟨.row 44 (TAttr), [.dead]⟩ : Sig))
  | 0, _, _, _, _, _ => none
  | m + 1, delt1_0, delt1_1, it5, jt6, o42 => slices_DeleteFunc_Attr__attrs_Part_1_s5 C_slices_IndexFunc_Attr__attrs_Part_1 C_attrs_Part_1   (fun (delt1_0 : den (PSchema)) (delt1_1 : den (.bool)) (it5 : den (.int .i64)) (jt6 : den (.int .i64)) (o42 : den (LAttr)) => slices_DeleteFunc_Attr__attrs_Part_1_l5 C_slices_IndexFunc_Attr__attrs_Part_1 C_attrs_Part_1 n  m delt1_0 delt1_1 it5 jt6 o42) delt1_0 delt1_1 it5 jt6 o42
noncomputable def slices_DeleteFunc_Attr__attrs_Part_1_F5 (call : Call0) (n : Nat)  : (St → Option (denS (⟨.row 44 (TAttr), [.dead]⟩ : Sig))) → St → Option (denS (⟨.row 44 (TAttr), [.dead]⟩ : Sig)) := fun rec => exec cfg call n 66 (cat B66 [1, 1, 1, 0, 1, 0, 0]) (kLoop rec (lk2 66 5 cfg.keep) (kBlock 0 (kSq (exec cfg call n 66 (cat B66 [1, 1, 1, 1])) (kretS cfg Go.Proofs.Tryd.f66 (⟨.row 44 (TAttr), [.dead]⟩ : Sig)))))
theorem slices_DeleteFunc_Attr__attrs_Part_1_l5_eq (call : Call0) (n : Nat)  : ∀ (m : Nat) (delt1_0 : den (PSchema)) (delt1_1 : den (.bool)) (it5 : den (.int .i64)) (jt6 : den (.int .i64)) (o42 : den (LAttr)), loopN (slices_DeleteFunc_Attr__attrs_Part_1_F5 call n ) m (slices_DeleteFunc_Attr__attrs_Part_1_sh5 delt1_0 delt1_1 it5 jt6 o42) = slices_DeleteFunc_Attr__attrs_Part_1_l5 (fun (a0 : den (LAttr)) (a1_0 : den (PSchema)) (a1_1 : den (.bool)) => call.p 85 [.s (.val (LAttr) a0), .fn 68 [.eptr (PSchema) a1_0, .eptr (.bool) a1_1]] (.one (.int .i64))) (fun (a0 : den (TAttr)) (a1 : den (PSchema)) (a2 : den (.bool)) => call.p 68 [.s (.val (TAttr) a0), .s (.eptr (PSchema) a1), .s (.eptr (.bool) a2)] (.one (.bool))) n  m delt1_0 delt1_1 it5 jt6 o42 := by
  intro m
  induction m with
  | zero => intros; rfl
  | succ m ih =>
    intro delt1_0 delt1_1 it5 jt6 o42
    have h : loopN (slices_DeleteFunc_Attr__attrs_Part_1_F5 call n ) (m + 1) (slices_DeleteFunc_Attr__attrs_Part_1_sh5 delt1_0 delt1_1 it5 jt6 o42) = slices_DeleteFunc_Attr__attrs_Part_1_s5 (fun (a0 : den (LAttr)) (a1_0 : den (PSchema)) (a1_1 : den (.bool)) => call.p 85 [.s (.val (LAttr) a0), .fn 68 [.eptr (PSchema) a1_0, .eptr (.bool) a1_1]] (.one (.int .i64))) (fun (a0 : den (TAttr)) (a1 : den (PSchema)) (a2 : den (.bool)) => call.p 68 [.s (.val (TAttr) a0), .s (.eptr (PSchema) a1), .s (.eptr (.bool) a2)] (.one (.bool)))   (fun (delt1_0 : den (PSchema)) (delt1_1 : den (.bool)) (it5 : den (.int .i64)) (jt6 : den (.int .i64)) (o42 : den (LAttr)) => loopN (slices_DeleteFunc_Attr__attrs_Part_1_F5 call n ) m (slices_DeleteFunc_Attr__attrs_Part_1_sh5 delt1_0 delt1_1 it5 jt6 o42)) delt1_0 delt1_1 it5 jt6 o42 := by kernel_rfl
    have e0 : (fun (delt1_0 : den (PSchema)) (delt1_1 : den (.bool)) (it5 : den (.int .i64)) (jt6 : den (.int .i64)) (o42 : den (LAttr)) => loopN (slices_DeleteFunc_Attr__attrs_Part_1_F5 call n ) m (slices_DeleteFunc_Attr__attrs_Part_1_sh5 delt1_0 delt1_1 it5 jt6 o42)) = (fun (delt1_0 : den (PSchema)) (delt1_1 : den (.bool)) (it5 : den (.int .i64)) (jt6 : den (.int .i64)) (o42 : den (LAttr)) => slices_DeleteFunc_Attr__attrs_Part_1_l5 (fun (a0 : den (LAttr)) (a1_0 : den (PSchema)) (a1_1 : den (.bool)) => call.p 85 [.s (.val (LAttr) a0), .fn 68 [.eptr (PSchema) a1_0, .eptr (.bool) a1_1]] (.one (.int .i64))) (fun (a0 : den (TAttr)) (a1 : den (PSchema)) (a2 : den (.bool)) => call.p 68 [.s (.val (TAttr) a0), .s (.eptr (PSchema) a1), .s (.eptr (.bool) a2)] (.one (.bool))) n  m delt1_0 delt1_1 it5 jt6 o42) := by funext delt1_0 delt1_1 it5 jt6 o42; exact ih delt1_0 delt1_1 it5 jt6 o42
    rw [h, e0]; rfl
noncomputable def slices_DeleteFunc_Attr__attrs_Part_1_top (C_slices_IndexFunc_Attr__attrs_Part_1 : den (LAttr) → den (PSchema) → den (.bool) → Option (denR (.one (.int .i64)))) (C_attrs_Part_1 : den (TAttr) → den (PSchema) → den (.bool) → Option (denR (.one (.bool)))) (LL5 : den (PSchema) → den (.bool) → den (.int .i64) → den (.int .i64) → den (LAttr) → Option (denS (⟨.row 44 (TAttr), [.dead]⟩ : Sig))) (a1_0 : den (PSchema)) (a1_1 : den (.bool)) (o0 : den (LAttr)) : Option (denS (⟨.row 44 (TAttr), [.dead]⟩ : Sig)) := ((C_slices_IndexFunc_Attr__attrs_Part_1 o0 a1_0 a1_1).bind fun r1 => (bif (decide (r1 = (-1 : Int))) then some (o0, ((), ())) else LL5 a1_0 a1_1 r1 (IntKind.wrap .i64 (r1 + (1 : Int))) o0))
noncomputable def slices_DeleteFunc_Attr__attrs_Part_1 : Nat → den (PSchema) → den (.bool) → den (LAttr) → Option (denS (⟨.row 44 (TAttr), [.dead]⟩ : Sig))
  | 0, _, _, _ => none
  | n + 1, a1_0, a1_1, o0 => slices_DeleteFunc_Attr__attrs_Part_1_top (slices_IndexFunc_Attr__attrs_Part_1 n) (attrs_Part_1 n) (slices_DeleteFunc_Attr__attrs_Part_1_l5 (slices_IndexFunc_Attr__attrs_Part_1 n) (attrs_Part_1 n) n n) a1_0 a1_1 o0
theorem slices_DeleteFunc_Attr__attrs_Part_1_eq (n : Nat) (a1_0 : den (PSchema)) (a1_1 : den (.bool)) (o0 : den (LAttr)) : (acalls cfg intr intrI n).i 66 [.s (.arr 42), .fn 68 [.eptr (PSchema) a1_0, .eptr (.bool) a1_1]] [(42, .arr 44 (TAttr) o0)] (⟨.row 44 (TAttr), [.dead]⟩ : Sig) = slices_DeleteFunc_Attr__attrs_Part_1 n a1_0 a1_1 o0 := by
  cases n with
  | zero => rfl
  | succ n =>
    have h : (acalls cfg intr intrI (n + 1)).i 66 [.s (.arr 42), .fn 68 [.eptr (PSchema) a1_0, .eptr (.bool) a1_1]] [(42, .arr 44 (TAttr) o0)] (⟨.row 44 (TAttr), [.dead]⟩ : Sig) = slices_DeleteFunc_Attr__attrs_Part_1_top (fun (a0 : den (LAttr)) (a1_0 : den (PSchema)) (a1_1 : den (.bool)) => (acalls cfg intr intrI n).p 85 [.s (.val (LAttr) a0), .fn 68 [.eptr (PSchema) a1_0, .eptr (.bool) a1_1]] (.one (.int .i64))) (fun (a0 : den (TAttr)) (a1 : den (PSchema)) (a2 : den (.bool)) => (acalls cfg intr intrI n).p 68 [.s (.val (TAttr) a0), .s (.eptr (PSchema) a1), .s (.eptr (.bool) a2)] (.one (.bool))) (fun (delt1_0 : den (PSchema)) (delt1_1 : den (.bool)) (it5 : den (.int .i64)) (jt6 : den (.int .i64)) (o42 : den (LAttr)) => loopN (slices_DeleteFunc_Attr__attrs_Part_1_F5 (acalls cfg intr intrI n) n) n (slices_DeleteFunc_Attr__attrs_Part_1_sh5 delt1_0 delt1_1 it5 jt6 o42)) a1_0 a1_1 o0 := by kernel_rfl
    have e5 : (fun (delt1_0 : den (PSchema)) (delt1_1 : den (.bool)) (it5 : den (.int .i64)) (jt6 : den (.int .i64)) (o42 : den (LAttr)) => loopN (slices_DeleteFunc_Attr__attrs_Part_1_F5 (acalls cfg intr intrI n) n) n (slices_DeleteFunc_Attr__attrs_Part_1_sh5 delt1_0 delt1_1 it5 jt6 o42)) = slices_DeleteFunc_Attr__attrs_Part_1_l5 (fun (a0 : den (LAttr)) (a1_0 : den (PSchema)) (a1_1 : den (.bool)) => (acalls cfg intr intrI n).p 85 [.s (.val (LAttr) a0), .fn 68 [.eptr (PSchema) a1_0, .eptr (.bool) a1_1]] (.one (.int .i64))) (fun (a0 : den (TAttr)) (a1 : den (PSchema)) (a2 : den (.bool)) => (acalls cfg intr intrI n).p 68 [.s (.val (TAttr) a0), .s (.eptr (PSchema) a1), .s (.eptr (.bool) a2)] (.one (.bool))) n n := by funext delt1_0 delt1_1 it5 jt6 o42; exact slices_DeleteFunc_Attr__attrs_Part_1_l5_eq (acalls cfg intr intrI n) n n delt1_0 delt1_1 it5 jt6 o42
    have c_slices_IndexFunc_Attr__attrs_Part_1 : (fun (a0 : den (LAttr)) (a1_0 : den (PSchema)) (a1_1 : den (.bool)) => (acalls cfg intr intrI n).p 85 [.s (.val (LAttr) a0), .fn 68 [.eptr (PSchema) a1_0, .eptr (.bool) a1_1]] (.one (.int .i64))) = slices_IndexFunc_Attr__attrs_Part_1 n := by funext a0 a1_0 a1_1; exact slices_IndexFunc_Attr__attrs_Part_1_eq n a0 a1_0 a1_1
    have c_attrs_Part_1 : (fun (a0 : den (TAttr)) (a1 : den (PSchema)) (a2 : den (.bool)) => (acalls cfg intr intrI n).p 68 [.s (.val (TAttr) a0), .s (.eptr (PSchema) a1), .s (.eptr (.bool) a2)] (.one (.bool))) = attrs_Part_1 n := by funext a0 a1 a2; exact attrs_Part_1_eq n a0 a1 a2
    rw [h, e5, c_slices_IndexFunc_Attr__attrs_Part_1, c_attrs_Part_1]; rfl

noncomputable def attrs_Part_top (C_slices_Clone_Attr : den (LAttr) → Option (denS (⟨.row 44 (TAttr), []⟩ : Sig))) (C_slices_DeleteFunc_Attr__attrs_Part_1 : den (PSchema) → den (.bool) → den (LAttr) → Option (denS (⟨.row 44 (TAttr), [.dead]⟩ : Sig)))  (a0 : den (PSchema)) (a1 : den (LAttr)) (a2 : den (.bool)) : Option (denR (.one (LAttr))) := ((C_slices_Clone_Attr a1).bind fun r1 => ((C_slices_DeleteFunc_Attr__attrs_Part_1 a0 a2 r1.1).bind fun r2 => some r2.1))
noncomputable def attrs_Part : Nat → den (PSchema) → den (LAttr) → den (.bool) → Option (denR (.one (LAttr)))
  | 0, _, _, _ => none
  | n + 1, a0, a1, a2 => attrs_Part_top (slices_Clone_Attr n) (slices_DeleteFunc_Attr__attrs_Part_1 n)  a0 a1 a2
theorem attrs_Part_eq (n : Nat) (a0 : den (PSchema)) (a1 : den (LAttr)) (a2 : den (.bool)) : (acalls cfg intr intrI n).p 37 [.s (.val (PSchema) a0), .s (.val (LAttr) a1), .s (.val (.bool) a2)] (.one (LAttr)) = attrs_Part n a0 a1 a2 := by
  cases n with
  | zero => rfl
  | succ n =>
    have h : (acalls cfg intr intrI (n + 1)).p 37 [.s (.val (PSchema) a0), .s (.val (LAttr) a1), .s (.val (.bool) a2)] (.one (LAttr)) = attrs_Part_top (fun (a0 : den (LAttr)) => (acalls cfg intr intrI n).i 64 [.s (.val (LAttr) a0)] [] (⟨.row 44 (TAttr), []⟩ : Sig)) (fun (a1_0 : den (PSchema)) (a1_1 : den (.bool)) (o0 : den (LAttr)) => (acalls cfg intr intrI n).i 66 [.s (.arr 42), .fn 68 [.eptr (PSchema) a1_0, .eptr (.bool) a1_1]] [(42, .arr 44 (TAttr) o0)] (⟨.row 44 (TAttr), [.dead]⟩ : Sig))  a0 a1 a2 := by kernel_rfl
    have c_slices_Clone_Attr : (fun (a0 : den (LAttr)) => (acalls cfg intr intrI n).i 64 [.s (.val (LAttr) a0)] [] (⟨.row 44 (TAttr), []⟩ : Sig)) = slices_Clone_Attr n := by funext a0; exact slices_Clone_Attr_eq n a0
    have c_slices_DeleteFunc_Attr__attrs_Part_1 : (fun (a1_0 : den (PSchema)) (a1_1 : den (.bool)) (o0 : den (LAttr)) => (acalls cfg intr intrI n).i 66 [.s (.arr 42), .fn 68 [.eptr (PSchema) a1_0, .eptr (.bool) a1_1]] [(42, .arr 44 (TAttr) o0)] (⟨.row 44 (TAttr), [.dead]⟩ : Sig)) = slices_DeleteFunc_Attr__attrs_Part_1 n := by funext a1_0 a1_1 o0; exact slices_DeleteFunc_Attr__attrs_Part_1_eq n a1_0 a1_1 o0
    rw [h, c_slices_Clone_Attr, c_slices_DeleteFunc_Attr__attrs_Part_1]; rfl

noncomputable def law05_AttrsStay_top (C_law05_known : Option (denR (.one (.bool)))) (C_law05_great : den (LAttr) → Option (denR (.one (.bool)))) (C_schema_New : den (LKey) → Option (denR (.two (PSchema) (.int .i64)))) (C_attrs_May : den (PSchema) → den (LAttr) → Option (denR (.one (.int .i64)))) (C_Schema_Fits : den (PSchema) → den (.int .i64) → den (TValue) → Option (denR (.one (.bool)))) (C_attrs_With : den (LAttr) → den (TAttr) → Option (denR (.one (LAttr)))) (C_attrs_Without : den (LAttr) → den (.int .i64) → Option (denR (.one (LAttr)))) (C_attrs_Part : den (PSchema) → den (LAttr) → den (.bool) → Option (denR (.one (LAttr))))  (a0 : den (LKey)) (a1 : den (LAttr)) (a2 : den (TAttr)) : Option (denR (.one (.bool))) := (bif (decide ((64 : Int) < (a0.length : Int))) then ((C_law05_known).bind fun r1 => some r1) else ((C_law05_great a1).bind fun r2 => (bif r2 then ((C_law05_known).bind fun r3 => some r3) else (bif (decide ((200 : Int) < (ByteArray.size a2.2.1.2.2.2.1 : Int))) then ((C_law05_known).bind fun r4 => some r4) else ((C_schema_New a0).bind fun r5 => (bif ((!decide (r5.2 = (0 : Int)))) then ((C_law05_known).bind fun r6 => some r6) else ((C_attrs_May r5.1 a1).bind fun r7 => (bif ((!decide (r7 = (0 : Int)))) then ((C_law05_known).bind fun r8 => some r8) else ((C_Schema_Fits r5.1 a2.1 a2.2.1).bind fun r9 => ((C_attrs_With a1 a2).bind fun r10 => ((C_attrs_May r5.1 r10).bind fun r11 => (bif (eqT (.bool) (decide (r11 = (0 : Int))) r9) then ((C_attrs_Without a1 a2.1).bind fun r12 => ((C_attrs_May r5.1 r12).bind fun r13 => (bif (decide (r13 = (0 : Int))) then ((C_attrs_Part r5.1 a1 true).bind fun r14 => ((C_attrs_May r5.1 r14).bind fun r15 => (bif (decide (r15 = (0 : Int))) then ((C_attrs_Part r5.1 a1 false).bind fun r16 => ((C_attrs_May r5.1 r16).bind fun r17 => (bif (decide (r17 = (0 : Int))) then ((C_law05_known).bind fun r18 => some r18) else some false))) else some false))) else some false))) else some false))))))))))))
noncomputable def law05_AttrsStay : Nat → den (LKey) → den (LAttr) → den (TAttr) → Option (denR (.one (.bool)))
  | 0, _, _, _ => none
  | n + 1, a0, a1, a2 => law05_AttrsStay_top (law05_known n) (law05_great n) (schema_New n) (attrs_May n) (Schema_Fits n) (attrs_With n) (attrs_Without n) (attrs_Part n)  a0 a1 a2
theorem law05_AttrsStay_eq (n : Nat) (a0 : den (LKey)) (a1 : den (LAttr)) (a2 : den (TAttr)) : (acalls cfg intr intrI n).p 6 [.s (.val (LKey) a0), .s (.val (LAttr) a1), .s (.val (TAttr) a2)] (.one (.bool)) = law05_AttrsStay n a0 a1 a2 := by
  cases n with
  | zero => rfl
  | succ n =>
    have h : (acalls cfg intr intrI (n + 1)).p 6 [.s (.val (LKey) a0), .s (.val (LAttr) a1), .s (.val (TAttr) a2)] (.one (.bool)) = law05_AttrsStay_top ((acalls cfg intr intrI n).p 32 [] (.one (.bool))) (fun (a0 : den (LAttr)) => (acalls cfg intr intrI n).p 31 [.s (.val (LAttr) a0)] (.one (.bool))) (fun (a0 : den (LKey)) => (acalls cfg intr intrI n).p 12 [.s (.val (LKey) a0)] (.two (PSchema) (.int .i64))) (fun (a0 : den (PSchema)) (a1 : den (LAttr)) => (acalls cfg intr intrI n).p 33 [.s (.val (PSchema) a0), .s (.val (LAttr) a1)] (.one (.int .i64))) (fun (a0 : den (PSchema)) (a1 : den (.int .i64)) (a2 : den (TValue)) => (acalls cfg intr intrI n).p 34 [.s (.val (PSchema) a0), .s (.val (.int .i64) a1), .s (.val (TValue) a2)] (.one (.bool))) (fun (a0 : den (LAttr)) (a1 : den (TAttr)) => (acalls cfg intr intrI n).p 35 [.s (.val (LAttr) a0), .s (.val (TAttr) a1)] (.one (LAttr))) (fun (a0 : den (LAttr)) (a1 : den (.int .i64)) => (acalls cfg intr intrI n).p 36 [.s (.val (LAttr) a0), .s (.val (.int .i64) a1)] (.one (LAttr))) (fun (a0 : den (PSchema)) (a1 : den (LAttr)) (a2 : den (.bool)) => (acalls cfg intr intrI n).p 37 [.s (.val (PSchema) a0), .s (.val (LAttr) a1), .s (.val (.bool) a2)] (.one (LAttr)))  a0 a1 a2 := by kernel_rfl
    have c_law05_known : ((acalls cfg intr intrI n).p 32 [] (.one (.bool))) = law05_known n := law05_known_eq n
    have c_law05_great : (fun (a0 : den (LAttr)) => (acalls cfg intr intrI n).p 31 [.s (.val (LAttr) a0)] (.one (.bool))) = law05_great n := by funext a0; exact law05_great_eq n a0
    have c_schema_New : (fun (a0 : den (LKey)) => (acalls cfg intr intrI n).p 12 [.s (.val (LKey) a0)] (.two (PSchema) (.int .i64))) = schema_New n := by funext a0; exact schema_New_eq n a0
    have c_attrs_May : (fun (a0 : den (PSchema)) (a1 : den (LAttr)) => (acalls cfg intr intrI n).p 33 [.s (.val (PSchema) a0), .s (.val (LAttr) a1)] (.one (.int .i64))) = attrs_May n := by funext a0 a1; exact attrs_May_eq n a0 a1
    have c_Schema_Fits : (fun (a0 : den (PSchema)) (a1 : den (.int .i64)) (a2 : den (TValue)) => (acalls cfg intr intrI n).p 34 [.s (.val (PSchema) a0), .s (.val (.int .i64) a1), .s (.val (TValue) a2)] (.one (.bool))) = Schema_Fits n := by funext a0 a1 a2; exact Schema_Fits_eq n a0 a1 a2
    have c_attrs_With : (fun (a0 : den (LAttr)) (a1 : den (TAttr)) => (acalls cfg intr intrI n).p 35 [.s (.val (LAttr) a0), .s (.val (TAttr) a1)] (.one (LAttr))) = attrs_With n := by funext a0 a1; exact attrs_With_eq n a0 a1
    have c_attrs_Without : (fun (a0 : den (LAttr)) (a1 : den (.int .i64)) => (acalls cfg intr intrI n).p 36 [.s (.val (LAttr) a0), .s (.val (.int .i64) a1)] (.one (LAttr))) = attrs_Without n := by funext a0 a1; exact attrs_Without_eq n a0 a1
    have c_attrs_Part : (fun (a0 : den (PSchema)) (a1 : den (LAttr)) (a2 : den (.bool)) => (acalls cfg intr intrI n).p 37 [.s (.val (PSchema) a0), .s (.val (LAttr) a1), .s (.val (.bool) a2)] (.one (LAttr))) = attrs_Part n := by funext a0 a1 a2; exact attrs_Part_eq n a0 a1 a2
    rw [h, c_law05_known, c_law05_great, c_schema_New, c_attrs_May, c_Schema_Fits, c_attrs_With, c_attrs_Without, c_attrs_Part]; rfl

end Go.Proofs.YtecangnmmbcbkaaDoor.Ab
