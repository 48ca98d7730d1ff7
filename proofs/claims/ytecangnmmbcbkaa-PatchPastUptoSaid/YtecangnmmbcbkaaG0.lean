/- The seat's functions as plain Lean functions, each shown to be what the abstract interpreter comes to (printed by try3.py). -/
import Derived.Test.YtecangnmmbcbkaaAJ
import Derived.Test.YtecangnmmbcbkaaProg
import Derived.KernelRfl
set_option linter.unusedVariables false
set_option maxRecDepth 100000
namespace Go.Proofs.Ytecangnmmbcbkaa.Ab
open Go
abbrev Y0 : Ty := .prod (.str) (.unit)
abbrev Y1 : Ty := .prod (.int .u64) (Y0)
abbrev Y2 : Ty := .prod (.int .i64) (Y1)
abbrev Y3 : Ty := .prod (.int .u8) (Y2)
abbrev Y4 : Ty := .prod (Y3) (.unit)
abbrev Y5 : Ty := .prod (.bool) (Y4)
abbrev Y6 : Ty := .prod (.int .i64) (Y5)
abbrev Y7 : Ty := .prod (.int .i64) (Y4)
abbrev Y8 : Ty := .slice (Y7)
abbrev Y9 : Ty := .slice (Y8)
abbrev Y10 : Ty := .slice (Y6)
abbrev Y11 : Ty := .prod (.int .u8) (.unit)
abbrev Y12 : Ty := .prod (.bool) (Y11)
abbrev Y13 : Ty := .prod (.int .i64) (Y12)
abbrev Y14 : Ty := .prod (.int .i64) (Y13)
noncomputable def cfg : Cfg :=
  { ty := [(2, .int .i64), (3, .int .i64), (4, .bool), (5, .int .u8), (6, .int .u8), (7, Y14), (9, .str), (21, .int .i32), (22, Y8), (23, Y10), (36, .int .u64), (37, Y3), (38, Y3), (39, Y6), (40, Y6), (45, Y7), (46, Y7), (53, Y9), (71, .int .u64), (81, .int .u32), (82, .int .u8), (83, .int .u8), (86, .int .i32), (87, .int .i32)]
    el := [(22, 46), (23, 40), (53, 22)]
    bytes := [(46, 48), (40, 56), (22, 24)]
    fns := [(3, Go.Proofs.Try.f3), (4, Go.Proofs.Try.f4), (5, Go.Proofs.Try.f5), (8, Go.Proofs.Try.f8), (9, Go.Proofs.Try.f9), (10, Go.Proofs.Try.f10), (11, Go.Proofs.Try.f11), (12, Go.Proofs.Try.f12), (13, Go.Proofs.Try.f13), (14, Go.Proofs.Try.f14), (15, Go.Proofs.Try.f15), (16, Go.Proofs.Try.f16), (17, Go.Proofs.Try.f17), (18, Go.Proofs.Try.f18), (19, Go.Proofs.Try.f19), (23, Go.Proofs.Try.f23), (27, Go.Proofs.Try.f27), (28, Go.Proofs.Try.f28), (29, Go.Proofs.Try.f29), (30, Go.Proofs.Try.f30), (31, Go.Proofs.Try.f31), (32, Go.Proofs.Try.f32), (33, Go.Proofs.Try.f33), (34, Go.Proofs.Try.f34), (35, Go.Proofs.Try.f35), (41, Go.Proofs.Try.f41), (42, Go.Proofs.Try.f42), (43, Go.Proofs.Try.f43), (44, Go.Proofs.Try.f44), (48, Go.Proofs.Try.f48)]
    res := [(3, (.one (.bool))), (4, (.one (.bool))), (5, (.one (.bool))), (8, (.one (.bool))), (9, (.one (.bool))), (10, (.one (.bool))), (11, (.one (.bool))), (12, (.one (.bool))), (13, (.one (Y8))), (14, (.one (Y10))), (15, (.one (Y10))), (16, (.one (.bool))), (17, (.one (Y10))), (18, (.one (Y10))), (19, (.two (Y6) (.bool))), (23, (.two (Y3) (.bool))), (27, (.one (Y3))), (28, (.one (Y6))), (29, (.one (.bool))), (30, (.one (Y10))), (31, (.one (Y10))), (32, (.one (.bool))), (33, (.one (.bool))), (34, (.one (.bool))), (35, (.two (.int .i64) (.bool))), (41, (.one (.int .i64))), (42, (.two (.int .i64) (.bool))), (43, (.one (.int .i64))), (44, (.one (.int .i64))), (48, (.one (.bool)))]
    keep := [((5, 7), [1, 7, 8, 9, 53, 54]),
      ((8, 3), [0, 1, 5, 12, 13]),
      ((8, 8), [1, 5, 27, 28]),
      ((8, 12), [1, 5, 7, 27, 28, 42, 43]),
      ((9, 2), [0, 3]),
      ((10, 2), [0, 3]),
      ((12, 4), [0, 1, 5]),
      ((13, 4), [0, 5, 6, 9, 10, 11]),
      ((13, 6), [0, 5, 6, 8, 9, 10, 11]),
      ((14, 3), [0, 5, 10, 11, 12]),
      ((15, 4), [0, 5, 6, 11, 12, 13]),
      ((15, 6), [0, 5, 6, 8, 11, 12, 13]),
      ((15, 16), [5, 79, 80, 81]),
      ((17, 4), [0, 5, 6, 9, 10, 11]),
      ((17, 6), [0, 5, 6, 8, 9, 10, 11]),
      ((19, 2), [0, 1, 4, 6]),
      ((29, 4), [0, 1, 12, 13]),
      ((30, 5), [0, 1, 5, 6, 42]),
      ((41, 2), [0, 1, 7, 8]),
      ((42, 3), [0, 1, 2, 8, 9, 10])]
    inl := [(30, (⟨.row 40 (Y6), [.dead]⟩ : Sig)), (31, (⟨.row 40 (Y6), []⟩ : Sig))] }
def intr : Intr := []
noncomputable def intrI : IntrI := [(31, gClone 40 (Y6) 56)]
noncomputable def B8 : Code := (Go.Proofs.Try.f8.body).getD .skip
noncomputable def f8_sh12 (setst1 : den (Y9)) (nt5 : den (.int .i64)) (it7 : den (.int .i64)) (t27 : den (.int .i64)) (t28 : den (.int .i64)) (t42 : den (.int .i64)) (t43 : den (.int .i64)) : St := ⟨[U, .s (.val (Y9) setst1), U, U, U, .s (.val (.int .i64) nt5), U, .s (.val (.int .i64) it7), U, U, U, U, U, U, U, U, U, U, U, U, U, U, U, U, U, U, U, .s (.val (.int .i64) t27), .s (.val (.int .i64) t28), U, U, U, U, U, U, U, U, U, U, U, U, U, .s (.val (.int .i64) t42), .s (.val (.int .i64) t43), U, U, U, U, U, U, U, U, U, U, U, U, U, U, U, U, U, U], []⟩
noncomputable def f8_sh8 (setst1 : den (Y9)) (nt5 : den (.int .i64)) (t27 : den (.int .i64)) (t28 : den (.int .i64)) : St := ⟨[U, .s (.val (Y9) setst1), U, U, U, .s (.val (.int .i64) nt5), U, U, U, U, U, U, U, U, U, U, U, U, U, U, U, U, U, U, U, U, U, .s (.val (.int .i64) t27), .s (.val (.int .i64) t28), U, U, U, U, U, U, U, U, U, U, U, U, U, U, U, U, U, U, U, U, U, U, U, U, U, U, U, U, U, U, U, U, U], []⟩
noncomputable def f8_sh3 (pt0 : den (Y10)) (setst1 : den (Y9)) (nt5 : den (.int .i64)) (t12 : den (.int .i64)) (t13 : den (.int .i64)) : St := ⟨[.s (.val (Y10) pt0), .s (.val (Y9) setst1), U, U, U, .s (.val (.int .i64) nt5), U, U, U, U, U, U, .s (.val (.int .i64) t12), .s (.val (.int .i64) t13), U, U, U, U, U, U, U, U, U, U, U, U, U, U, U, U, U, U, U, U, U, U, U, U, U, U, U, U, U, U, U, U, U, U, U, U, U, U, U, U, U, U, U, U, U, U, U, U], []⟩
noncomputable def f8_s12   (LS8 : den (Y9) → den (.int .i64) → den (.int .i64) → den (.int .i64) → Option (denR (.one (.bool)))) (LS12 : den (Y9) → den (.int .i64) → den (.int .i64) → den (.int .i64) → den (.int .i64) → den (.int .i64) → den (.int .i64) → Option (denR (.one (.bool)))) (setst1 : den (Y9)) (nt5 : den (.int .i64)) (it7 : den (.int .i64)) (t27 : den (.int .i64)) (t28 : den (.int .i64)) (t42 : den (.int .i64)) (t43 : den (.int .i64)) : Option (denR (.one (.bool))) := (bif (decide (t43 < t42)) then (bif decide (0 ≤ it7) && decide (it7 < (setst1.length : Int)) then (bif decide (0 ≤ t43) && decide (t43 < ((setst1.getD (Int.toNat it7) (dflt (Y8))).length : Int)) then LS12 setst1 (IntKind.wrap .i64 (nt5 + (ByteArray.size ((((((((setst1.getD (Int.toNat it7) (dflt (Y8))).getD (Int.toNat t43) (dflt (Y7))).2).1).2).2).2).1) : Int))) it7 t27 t28 t42 (IntKind.wrap .i64 (t43 + (1 : Int))) else none) else none) else LS8 setst1 nt5 t27 (IntKind.wrap .i64 (t28 + (1 : Int))))
noncomputable def f8_l12  (n : Nat) (LS8 : den (Y9) → den (.int .i64) → den (.int .i64) → den (.int .i64) → Option (denR (.one (.bool)))) : Nat → den (Y9) → den (.int .i64) → den (.int .i64) → den (.int .i64) → den (.int .i64) → den (.int .i64) → den (.int .i64) → Option (denR (.one (.bool)))
  | 0, _, _, _, _, _, _, _ => none
  | m + 1, setst1, nt5, it7, t27, t28, t42, t43 => f8_s12   LS8 (fun (setst1 : den (Y9)) (nt5 : den (.int .i64)) (it7 : den (.int .i64)) (t27 : den (.int .i64)) (t28 : den (.int .i64)) (t42 : den (.int .i64)) (t43 : den (.int .i64)) => f8_l12  n LS8 m setst1 nt5 it7 t27 t28 t42 t43) setst1 nt5 it7 t27 t28 t42 t43
noncomputable def f8_F12 (call : Call0) (n : Nat) (r8 : St → Option (denR (.one (.bool)))) : (St → Option (denR (.one (.bool)))) → St → Option (denR (.one (.bool))) := fun rec => exec cfg call n 8 (cat B8 [1, 1, 1, 0, 1, 0, 0, 1, 1, 0, 0, 1, 1, 1, 0, 0]) (kLoop rec (lk2 8 12 cfg.keep) (kBlock 4 (kBlock 3 (kSq (exec cfg call n 8 (cat B8 [1, 1, 1, 0, 1, 0, 0, 1, 1, 1])) (kLoop r8 (lk2 8 8 cfg.keep) (kBlock 2 (kSq (exec cfg call n 8 (cat B8 [1, 1, 1, 1])) (kret cfg Go.Proofs.Try.f8 (.one (.bool))))))))))
theorem f8_l12_eq (call : Call0) (n : Nat) (r8 : St → Option (denR (.one (.bool)))) : ∀ (m : Nat) (setst1 : den (Y9)) (nt5 : den (.int .i64)) (it7 : den (.int .i64)) (t27 : den (.int .i64)) (t28 : den (.int .i64)) (t42 : den (.int .i64)) (t43 : den (.int .i64)), loopN (f8_F12 call n r8) m (f8_sh12 setst1 nt5 it7 t27 t28 t42 t43) = f8_l12  n (fun (setst1 : den (Y9)) (nt5 : den (.int .i64)) (t27 : den (.int .i64)) (t28 : den (.int .i64)) => r8 (f8_sh8 setst1 nt5 t27 t28)) m setst1 nt5 it7 t27 t28 t42 t43 := by
  intro m
  induction m with
  | zero => intros; rfl
  | succ m ih =>
    intro setst1 nt5 it7 t27 t28 t42 t43
    have h : loopN (f8_F12 call n r8) (m + 1) (f8_sh12 setst1 nt5 it7 t27 t28 t42 t43) = f8_s12   (fun (setst1 : den (Y9)) (nt5 : den (.int .i64)) (t27 : den (.int .i64)) (t28 : den (.int .i64)) => r8 (f8_sh8 setst1 nt5 t27 t28)) (fun (setst1 : den (Y9)) (nt5 : den (.int .i64)) (it7 : den (.int .i64)) (t27 : den (.int .i64)) (t28 : den (.int .i64)) (t42 : den (.int .i64)) (t43 : den (.int .i64)) => loopN (f8_F12 call n r8) m (f8_sh12 setst1 nt5 it7 t27 t28 t42 t43)) setst1 nt5 it7 t27 t28 t42 t43 := by kernel_rfl
    have e0 : (fun (setst1 : den (Y9)) (nt5 : den (.int .i64)) (it7 : den (.int .i64)) (t27 : den (.int .i64)) (t28 : den (.int .i64)) (t42 : den (.int .i64)) (t43 : den (.int .i64)) => loopN (f8_F12 call n r8) m (f8_sh12 setst1 nt5 it7 t27 t28 t42 t43)) = (fun (setst1 : den (Y9)) (nt5 : den (.int .i64)) (it7 : den (.int .i64)) (t27 : den (.int .i64)) (t28 : den (.int .i64)) (t42 : den (.int .i64)) (t43 : den (.int .i64)) => f8_l12  n (fun (setst1 : den (Y9)) (nt5 : den (.int .i64)) (t27 : den (.int .i64)) (t28 : den (.int .i64)) => r8 (f8_sh8 setst1 nt5 t27 t28)) m setst1 nt5 it7 t27 t28 t42 t43) := by funext setst1 nt5 it7 t27 t28 t42 t43; exact ih setst1 nt5 it7 t27 t28 t42 t43
    rw [h, e0]; rfl
noncomputable def f8_s8  (LL12 : den (Y9) → den (.int .i64) → den (.int .i64) → den (.int .i64) → den (.int .i64) → den (.int .i64) → den (.int .i64) → Option (denR (.one (.bool))))  (LS8 : den (Y9) → den (.int .i64) → den (.int .i64) → den (.int .i64) → Option (denR (.one (.bool)))) (setst1 : den (Y9)) (nt5 : den (.int .i64)) (t27 : den (.int .i64)) (t28 : den (.int .i64)) : Option (denR (.one (.bool))) := (bif (decide (t28 < t27)) then (bif decide (0 ≤ t28) && decide (t28 < (setst1.length : Int)) then (bif decide (0 ≤ t28) && decide (t28 < (setst1.length : Int)) then LL12 setst1 (IntKind.wrap .i64 (nt5 + ((setst1.getD (Int.toNat t28) (dflt (Y8))).length : Int))) t28 t27 t28 ((setst1.getD (Int.toNat t28) (dflt (Y8))).length : Int) (0 : Int) else none) else none) else some (decide ((4000 : Int) < nt5)))
noncomputable def f8_l8  (n : Nat)  : Nat → den (Y9) → den (.int .i64) → den (.int .i64) → den (.int .i64) → Option (denR (.one (.bool)))
  | 0, _, _, _, _ => none
  | m + 1, setst1, nt5, t27, t28 => f8_s8  (f8_l12  n (fun (setst1 : den (Y9)) (nt5 : den (.int .i64)) (t27 : den (.int .i64)) (t28 : den (.int .i64)) => f8_l8  n  m setst1 nt5 t27 t28) n)  (fun (setst1 : den (Y9)) (nt5 : den (.int .i64)) (t27 : den (.int .i64)) (t28 : den (.int .i64)) => f8_l8  n  m setst1 nt5 t27 t28) setst1 nt5 t27 t28
noncomputable def f8_F8 (call : Call0) (n : Nat)  : (St → Option (denR (.one (.bool)))) → St → Option (denR (.one (.bool))) := fun rec => exec cfg call n 8 (cat B8 [1, 1, 1, 0, 1, 0, 0]) (kLoop rec (lk2 8 8 cfg.keep) (kBlock 2 (kSq (exec cfg call n 8 (cat B8 [1, 1, 1, 1])) (kret cfg Go.Proofs.Try.f8 (.one (.bool))))))
theorem f8_l8_eq (call : Call0) (n : Nat)  : ∀ (m : Nat) (setst1 : den (Y9)) (nt5 : den (.int .i64)) (t27 : den (.int .i64)) (t28 : den (.int .i64)), loopN (f8_F8 call n ) m (f8_sh8 setst1 nt5 t27 t28) = f8_l8  n  m setst1 nt5 t27 t28 := by
  intro m
  induction m with
  | zero => intros; rfl
  | succ m ih =>
    intro setst1 nt5 t27 t28
    have h : loopN (f8_F8 call n ) (m + 1) (f8_sh8 setst1 nt5 t27 t28) = f8_s8  (fun (setst1 : den (Y9)) (nt5 : den (.int .i64)) (it7 : den (.int .i64)) (t27 : den (.int .i64)) (t28 : den (.int .i64)) (t42 : den (.int .i64)) (t43 : den (.int .i64)) => loopN (f8_F12 call n (loopN (f8_F8 call n ) m)) n (f8_sh12 setst1 nt5 it7 t27 t28 t42 t43))  (fun (setst1 : den (Y9)) (nt5 : den (.int .i64)) (t27 : den (.int .i64)) (t28 : den (.int .i64)) => loopN (f8_F8 call n ) m (f8_sh8 setst1 nt5 t27 t28)) setst1 nt5 t27 t28 := by kernel_rfl
    have e12 : (fun (setst1 : den (Y9)) (nt5 : den (.int .i64)) (it7 : den (.int .i64)) (t27 : den (.int .i64)) (t28 : den (.int .i64)) (t42 : den (.int .i64)) (t43 : den (.int .i64)) => loopN (f8_F12 call n (loopN (f8_F8 call n ) m)) n (f8_sh12 setst1 nt5 it7 t27 t28 t42 t43)) = f8_l12  n (fun (setst1 : den (Y9)) (nt5 : den (.int .i64)) (t27 : den (.int .i64)) (t28 : den (.int .i64)) => (loopN (f8_F8 call n ) m) (f8_sh8 setst1 nt5 t27 t28)) n := by funext setst1 nt5 it7 t27 t28 t42 t43; exact f8_l12_eq call n (loopN (f8_F8 call n ) m) n setst1 nt5 it7 t27 t28 t42 t43
    have e0 : (fun (setst1 : den (Y9)) (nt5 : den (.int .i64)) (t27 : den (.int .i64)) (t28 : den (.int .i64)) => loopN (f8_F8 call n ) m (f8_sh8 setst1 nt5 t27 t28)) = (fun (setst1 : den (Y9)) (nt5 : den (.int .i64)) (t27 : den (.int .i64)) (t28 : den (.int .i64)) => f8_l8  n  m setst1 nt5 t27 t28) := by funext setst1 nt5 t27 t28; exact ih setst1 nt5 t27 t28
    rw [h, e12, e0]; rfl
noncomputable def f8_s3  (LL8 : den (Y9) → den (.int .i64) → den (.int .i64) → den (.int .i64) → Option (denR (.one (.bool))))  (LS3 : den (Y10) → den (Y9) → den (.int .i64) → den (.int .i64) → den (.int .i64) → Option (denR (.one (.bool)))) (pt0 : den (Y10)) (setst1 : den (Y9)) (nt5 : den (.int .i64)) (t12 : den (.int .i64)) (t13 : den (.int .i64)) : Option (denR (.one (.bool))) := (bif (decide (t13 < t12)) then (bif decide (0 ≤ t13) && decide (t13 < (pt0.length : Int)) then LS3 pt0 setst1 (IntKind.wrap .i64 (nt5 + (ByteArray.size ((((((((pt0.getD (Int.toNat t13) (dflt (Y6))).2).2).1).2).2).2).1) : Int))) t12 (IntKind.wrap .i64 (t13 + (1 : Int))) else none) else LL8 setst1 nt5 (setst1.length : Int) (0 : Int))
noncomputable def f8_l3  (n : Nat)  : Nat → den (Y10) → den (Y9) → den (.int .i64) → den (.int .i64) → den (.int .i64) → Option (denR (.one (.bool)))
  | 0, _, _, _, _, _ => none
  | m + 1, pt0, setst1, nt5, t12, t13 => f8_s3  (f8_l8  n  n)  (fun (pt0 : den (Y10)) (setst1 : den (Y9)) (nt5 : den (.int .i64)) (t12 : den (.int .i64)) (t13 : den (.int .i64)) => f8_l3  n  m pt0 setst1 nt5 t12 t13) pt0 setst1 nt5 t12 t13
noncomputable def f8_F3 (call : Call0) (n : Nat)  : (St → Option (denR (.one (.bool)))) → St → Option (denR (.one (.bool))) := fun rec => exec cfg call n 8 (cat B8 [1, 1, 0, 1, 0, 0]) (kLoop rec (lk2 8 3 cfg.keep) (kBlock 0 (kSq (exec cfg call n 8 (cat B8 [1, 1, 1])) (kret cfg Go.Proofs.Try.f8 (.one (.bool))))))
theorem f8_l3_eq (call : Call0) (n : Nat)  : ∀ (m : Nat) (pt0 : den (Y10)) (setst1 : den (Y9)) (nt5 : den (.int .i64)) (t12 : den (.int .i64)) (t13 : den (.int .i64)), loopN (f8_F3 call n ) m (f8_sh3 pt0 setst1 nt5 t12 t13) = f8_l3  n  m pt0 setst1 nt5 t12 t13 := by
  intro m
  induction m with
  | zero => intros; rfl
  | succ m ih =>
    intro pt0 setst1 nt5 t12 t13
    have h : loopN (f8_F3 call n ) (m + 1) (f8_sh3 pt0 setst1 nt5 t12 t13) = f8_s3  (fun (setst1 : den (Y9)) (nt5 : den (.int .i64)) (t27 : den (.int .i64)) (t28 : den (.int .i64)) => loopN (f8_F8 call n ) n (f8_sh8 setst1 nt5 t27 t28))  (fun (pt0 : den (Y10)) (setst1 : den (Y9)) (nt5 : den (.int .i64)) (t12 : den (.int .i64)) (t13 : den (.int .i64)) => loopN (f8_F3 call n ) m (f8_sh3 pt0 setst1 nt5 t12 t13)) pt0 setst1 nt5 t12 t13 := by kernel_rfl
    have e8 : (fun (setst1 : den (Y9)) (nt5 : den (.int .i64)) (t27 : den (.int .i64)) (t28 : den (.int .i64)) => loopN (f8_F8 call n ) n (f8_sh8 setst1 nt5 t27 t28)) = f8_l8  n  n := by funext setst1 nt5 t27 t28; exact f8_l8_eq call n  n setst1 nt5 t27 t28
    have e0 : (fun (pt0 : den (Y10)) (setst1 : den (Y9)) (nt5 : den (.int .i64)) (t12 : den (.int .i64)) (t13 : den (.int .i64)) => loopN (f8_F3 call n ) m (f8_sh3 pt0 setst1 nt5 t12 t13)) = (fun (pt0 : den (Y10)) (setst1 : den (Y9)) (nt5 : den (.int .i64)) (t12 : den (.int .i64)) (t13 : den (.int .i64)) => f8_l3  n  m pt0 setst1 nt5 t12 t13) := by funext pt0 setst1 nt5 t12 t13; exact ih pt0 setst1 nt5 t12 t13
    rw [h, e8, e0]; rfl
noncomputable def f8_top  (LL3 : den (Y10) → den (Y9) → den (.int .i64) → den (.int .i64) → den (.int .i64) → Option (denR (.one (.bool)))) (a0 : den (Y10)) (a1 : den (Y9)) : Option (denR (.one (.bool))) := LL3 a0 a1 (a0.length : Int) (a0.length : Int) (0 : Int)
noncomputable def f8 : Nat → den (Y10) → den (Y9) → Option (denR (.one (.bool)))
  | 0, _, _ => none
  | n + 1, a0, a1 => f8_top  (f8_l3  n n) a0 a1
theorem f8_eq (n : Nat) (a0 : den (Y10)) (a1 : den (Y9)) : (acalls cfg intr intrI n).p 8 [.s (.val (Y10) a0), .s (.val (Y9) a1)] (.one (.bool)) = f8 n a0 a1 := by
  cases n with
  | zero => rfl
  | succ n =>
    have h : (acalls cfg intr intrI (n + 1)).p 8 [.s (.val (Y10) a0), .s (.val (Y9) a1)] (.one (.bool)) = f8_top  (fun (pt0 : den (Y10)) (setst1 : den (Y9)) (nt5 : den (.int .i64)) (t12 : den (.int .i64)) (t13 : den (.int .i64)) => loopN (f8_F3 (acalls cfg intr intrI n) n) n (f8_sh3 pt0 setst1 nt5 t12 t13)) a0 a1 := by kernel_rfl
    have e3 : (fun (pt0 : den (Y10)) (setst1 : den (Y9)) (nt5 : den (.int .i64)) (t12 : den (.int .i64)) (t13 : den (.int .i64)) => loopN (f8_F3 (acalls cfg intr intrI n) n) n (f8_sh3 pt0 setst1 nt5 t12 t13)) = f8_l3  n n := by funext pt0 setst1 nt5 t12 t13; exact f8_l3_eq (acalls cfg intr intrI n) n n pt0 setst1 nt5 t12 t13
    rw [h, e3]; rfl

noncomputable def f27_top   (a0 : den (.int .i64)) : Option (denR (.one (Y3))) := some ((2 : Int), (a0, ((0 : Int), ((⟨#[]⟩ : ByteArray), ()))))
noncomputable def f27 : Nat → den (.int .i64) → Option (denR (.one (Y3)))
  | 0, _ => none
  | n + 1, a0 => f27_top   a0
theorem f27_eq (n : Nat) (a0 : den (.int .i64)) : (acalls cfg intr intrI n).p 27 [.s (.val (.int .i64) a0)] (.one (Y3)) = f27 n a0 := by
  cases n with
  | zero => rfl
  | succ n =>
    have h : (acalls cfg intr intrI (n + 1)).p 27 [.s (.val (.int .i64) a0)] (.one (Y3)) = f27_top   a0 := by kernel_rfl
    rw [h]; rfl

noncomputable def f28_top   (a0 : den (Y7)) : Option (denR (.one (Y6))) := some (a0.1, (false, (a0.2.1, ())))
noncomputable def f28 : Nat → den (Y7) → Option (denR (.one (Y6)))
  | 0, _ => none
  | n + 1, a0 => f28_top   a0
theorem f28_eq (n : Nat) (a0 : den (Y7)) : (acalls cfg intr intrI n).p 28 [.s (.val (Y7) a0)] (.one (Y6)) = f28 n a0 := by
  cases n with
  | zero => rfl
  | succ n =>
    have h : (acalls cfg intr intrI (n + 1)).p 28 [.s (.val (Y7) a0)] (.one (Y6)) = f28_top   a0 := by kernel_rfl
    rw [h]; rfl

noncomputable def B15 : Code := (Go.Proofs.Try.f15.body).getD .skip
noncomputable def f15_sh6 (t0 : den (Y8)) (t6 : den (.int .i64)) (t11 : den (Y8)) (t12 : den (.int .i64)) (t13 : den (.int .i64)) (o5 : den (Y10)) (o8 : den (Y7)) : St := ⟨[.s (.val (Y8) t0), U, U, U, U, .s (.arr 5), .s (.val (.int .i64) t6), U, .s (.ref 8 []), U, U, .s (.val (Y8) t11), .s (.val (.int .i64) t12), .s (.val (.int .i64) t13), U, U, U, U, U, U, U, U, U, U, U, U, U, U, U, U, U, U, U, U, U, U, U, U, U, U, U, U, U, U, U, U, U, U, U, U, U, U, U, U, U, U, U, U, U, U, U, U, U, U, U, U, U, U, U, U, U, U, U, U, U, U, U, U, U, U, U, U, U, U, U, U, U, U, U, U, U, U, U], [(5, .arr 40 (Y6) o5), (8, .box (Y7) o8)]⟩
noncomputable def f15_sh16 (t79 : den (Y8)) (t80 : den (.int .i64)) (t81 : den (.int .i64)) (o5 : den (Y10)) : St := ⟨[U, U, U, U, U, .s (.arr 5), U, U, U, U, U, U, U, U, U, U, U, U, U, U, U, U, U, U, U, U, U, U, U, U, U, U, U, U, U, U, U, U, U, U, U, U, U, U, U, U, U, U, U, U, U, U, U, U, U, U, U, U, U, U, U, U, U, U, U, U, U, U, U, U, U, U, U, U, U, U, U, U, U, .s (.val (Y8) t79), .s (.val (.int .i64) t80), .s (.val (.int .i64) t81), U, U, U, U, U, U, U, U, U, U, U], [(5, .arr 40 (Y6) o5)]⟩
noncomputable def f15_sh4 (t0 : den (Y8)) (t6 : den (.int .i64)) (t11 : den (Y8)) (t12 : den (.int .i64)) (t13 : den (.int .i64)) (o5 : den (Y10)) : St := ⟨[.s (.val (Y8) t0), U, U, U, U, .s (.arr 5), .s (.val (.int .i64) t6), U, U, U, U, .s (.val (Y8) t11), .s (.val (.int .i64) t12), .s (.val (.int .i64) t13), U, U, U, U, U, U, U, U, U, U, U, U, U, U, U, U, U, U, U, U, U, U, U, U, U, U, U, U, U, U, U, U, U, U, U, U, U, U, U, U, U, U, U, U, U, U, U, U, U, U, U, U, U, U, U, U, U, U, U, U, U, U, U, U, U, U, U, U, U, U, U, U, U, U, U, U, U, U, U], [(5, .arr 40 (Y6) o5)]⟩
noncomputable def f15_s6 (C_f28 : den (Y7) → Option (denR (.one (Y6))))  (LS4 : den (Y8) → den (.int .i64) → den (Y8) → den (.int .i64) → den (.int .i64) → den (Y10) → Option (denR (.one (Y10)))) (LS6 : den (Y8) → den (.int .i64) → den (Y8) → den (.int .i64) → den (.int .i64) → den (Y10) → den (Y7) → Option (denR (.one (Y10)))) (t0 : den (Y8)) (t6 : den (.int .i64)) (t11 : den (Y8)) (t12 : den (.int .i64)) (t13 : den (.int .i64)) (o5 : den (Y10)) (o8 : den (Y7)) : Option (denR (.one (Y10))) := (bif (decide (t6 < (t0.length : Int))) then (bif decide (0 ≤ t6) && decide (t6 < (t0.length : Int)) then (bif (decide ((t0.getD (Int.toNat t6) (dflt (Y7))).1 < o8.1)) then (bif decide (0 ≤ t6) && decide (t6 < (t0.length : Int)) then (bif decide ((o5.length + ([((t0.getD (Int.toNat t6) (dflt (Y7))).1, (true, (((0 : Int), ((0 : Int), ((0 : Int), ((⟨#[]⟩ : ByteArray), ())))), ())))] : List (den (Y6))).length) * 56 ≤ 140737488355328) then LS6 t0 (IntKind.wrap .i64 (t6 + (1 : Int))) t11 t12 t13 (o5 ++ ([((t0.getD (Int.toNat t6) (dflt (Y7))).1, (true, (((0 : Int), ((0 : Int), ((0 : Int), ((⟨#[]⟩ : ByteArray), ())))), ())))] : List (den (Y6)))) o8 else none) else none) else (bif (decide (t6 < (t0.length : Int))) then (bif decide (0 ≤ t6) && decide (t6 < (t0.length : Int)) then (bif (decide ((t0.getD (Int.toNat t6) (dflt (Y7))).1 = o8.1)) then (bif decide (0 ≤ t6) && decide (t6 < (t0.length : Int)) then (bif (!eqT (Y3) (((t0.getD (Int.toNat t6) (dflt (Y7))).2).1) o8.2.1) then ((C_f28 o8).bind fun r1 => (bif decide ((o5.length + ([r1] : List (den (Y6))).length) * 56 ≤ 140737488355328) then LS4 t0 (IntKind.wrap .i64 (t6 + (1 : Int))) t11 t12 (IntKind.wrap .i64 (t13 + (1 : Int))) (o5 ++ ([r1] : List (den (Y6)))) else none)) else LS4 t0 (IntKind.wrap .i64 (t6 + (1 : Int))) t11 t12 (IntKind.wrap .i64 (t13 + (1 : Int))) o5) else none) else ((C_f28 o8).bind fun r2 => (bif decide ((o5.length + ([r2] : List (den (Y6))).length) * 56 ≤ 140737488355328) then LS4 t0 t6 t11 t12 (IntKind.wrap .i64 (t13 + (1 : Int))) (o5 ++ ([r2] : List (den (Y6)))) else none))) else none) else ((C_f28 o8).bind fun r3 => (bif decide ((o5.length + ([r3] : List (den (Y6))).length) * 56 ≤ 140737488355328) then LS4 t0 t6 t11 t12 (IntKind.wrap .i64 (t13 + (1 : Int))) (o5 ++ ([r3] : List (den (Y6)))) else none)))) else none) else (bif (decide (t6 < (t0.length : Int))) then (bif decide (0 ≤ t6) && decide (t6 < (t0.length : Int)) then (bif (decide ((t0.getD (Int.toNat t6) (dflt (Y7))).1 = o8.1)) then (bif decide (0 ≤ t6) && decide (t6 < (t0.length : Int)) then (bif (!eqT (Y3) (((t0.getD (Int.toNat t6) (dflt (Y7))).2).1) o8.2.1) then ((C_f28 o8).bind fun r4 => (bif decide ((o5.length + ([r4] : List (den (Y6))).length) * 56 ≤ 140737488355328) then LS4 t0 (IntKind.wrap .i64 (t6 + (1 : Int))) t11 t12 (IntKind.wrap .i64 (t13 + (1 : Int))) (o5 ++ ([r4] : List (den (Y6)))) else none)) else LS4 t0 (IntKind.wrap .i64 (t6 + (1 : Int))) t11 t12 (IntKind.wrap .i64 (t13 + (1 : Int))) o5) else none) else ((C_f28 o8).bind fun r5 => (bif decide ((o5.length + ([r5] : List (den (Y6))).length) * 56 ≤ 140737488355328) then LS4 t0 t6 t11 t12 (IntKind.wrap .i64 (t13 + (1 : Int))) (o5 ++ ([r5] : List (den (Y6)))) else none))) else none) else ((C_f28 o8).bind fun r6 => (bif decide ((o5.length + ([r6] : List (den (Y6))).length) * 56 ≤ 140737488355328) then LS4 t0 t6 t11 t12 (IntKind.wrap .i64 (t13 + (1 : Int))) (o5 ++ ([r6] : List (den (Y6)))) else none))))
noncomputable def f15_l6 (C_f28 : den (Y7) → Option (denR (.one (Y6)))) (n : Nat) (LS4 : den (Y8) → den (.int .i64) → den (Y8) → den (.int .i64) → den (.int .i64) → den (Y10) → Option (denR (.one (Y10)))) : Nat → den (Y8) → den (.int .i64) → den (Y8) → den (.int .i64) → den (.int .i64) → den (Y10) → den (Y7) → Option (denR (.one (Y10)))
  | 0, _, _, _, _, _, _, _ => none
  | m + 1, t0, t6, t11, t12, t13, o5, o8 => f15_s6 C_f28  LS4 (fun (t0 : den (Y8)) (t6 : den (.int .i64)) (t11 : den (Y8)) (t12 : den (.int .i64)) (t13 : den (.int .i64)) (o5 : den (Y10)) (o8 : den (Y7)) => f15_l6 C_f28 n LS4 m t0 t6 t11 t12 t13 o5 o8) t0 t6 t11 t12 t13 o5 o8
noncomputable def f15_F6 (call : Call0) (n : Nat) (r4 : St → Option (denR (.one (Y10)))) : (St → Option (denR (.one (Y10)))) → St → Option (denR (.one (Y10))) := fun rec => exec cfg call n 15 (cat B15 [1, 1, 1, 0, 1, 0, 0, 1, 1, 0, 0, 1, 0, 0, 0]) (kLoop rec (lk2 15 6 cfg.keep) (kBlock 2 (kSq (exec cfg call n 15 (cat B15 [1, 1, 1, 0, 1, 0, 0, 1, 1, 0, 0, 1, 1])) (kBlock 1 (kSq (exec cfg call n 15 (cat B15 [1, 1, 1, 0, 1, 0, 0, 1, 1, 1])) (kLoop r4 (lk2 15 4 cfg.keep) (kBlock 0 (kSq (exec cfg call n 15 (cat B15 [1, 1, 1, 1])) (kret cfg Go.Proofs.Try.f15 (.one (Y10)))))))))))
theorem f15_l6_eq (call : Call0) (n : Nat) (r4 : St → Option (denR (.one (Y10)))) : ∀ (m : Nat) (t0 : den (Y8)) (t6 : den (.int .i64)) (t11 : den (Y8)) (t12 : den (.int .i64)) (t13 : den (.int .i64)) (o5 : den (Y10)) (o8 : den (Y7)), loopN (f15_F6 call n r4) m (f15_sh6 t0 t6 t11 t12 t13 o5 o8) = f15_l6 (fun (a0 : den (Y7)) => call.p 28 [.s (.val (Y7) a0)] (.one (Y6))) n (fun (t0 : den (Y8)) (t6 : den (.int .i64)) (t11 : den (Y8)) (t12 : den (.int .i64)) (t13 : den (.int .i64)) (o5 : den (Y10)) => r4 (f15_sh4 t0 t6 t11 t12 t13 o5)) m t0 t6 t11 t12 t13 o5 o8 := by
  intro m
  induction m with
  | zero => intros; rfl
  | succ m ih =>
    intro t0 t6 t11 t12 t13 o5 o8
    have h : loopN (f15_F6 call n r4) (m + 1) (f15_sh6 t0 t6 t11 t12 t13 o5 o8) = f15_s6 (fun (a0 : den (Y7)) => call.p 28 [.s (.val (Y7) a0)] (.one (Y6)))  (fun (t0 : den (Y8)) (t6 : den (.int .i64)) (t11 : den (Y8)) (t12 : den (.int .i64)) (t13 : den (.int .i64)) (o5 : den (Y10)) => r4 (f15_sh4 t0 t6 t11 t12 t13 o5)) (fun (t0 : den (Y8)) (t6 : den (.int .i64)) (t11 : den (Y8)) (t12 : den (.int .i64)) (t13 : den (.int .i64)) (o5 : den (Y10)) (o8 : den (Y7)) => loopN (f15_F6 call n r4) m (f15_sh6 t0 t6 t11 t12 t13 o5 o8)) t0 t6 t11 t12 t13 o5 o8 := by kernel_rfl
    have e0 : (fun (t0 : den (Y8)) (t6 : den (.int .i64)) (t11 : den (Y8)) (t12 : den (.int .i64)) (t13 : den (.int .i64)) (o5 : den (Y10)) (o8 : den (Y7)) => loopN (f15_F6 call n r4) m (f15_sh6 t0 t6 t11 t12 t13 o5 o8)) = (fun (t0 : den (Y8)) (t6 : den (.int .i64)) (t11 : den (Y8)) (t12 : den (.int .i64)) (t13 : den (.int .i64)) (o5 : den (Y10)) (o8 : den (Y7)) => f15_l6 (fun (a0 : den (Y7)) => call.p 28 [.s (.val (Y7) a0)] (.one (Y6))) n (fun (t0 : den (Y8)) (t6 : den (.int .i64)) (t11 : den (Y8)) (t12 : den (.int .i64)) (t13 : den (.int .i64)) (o5 : den (Y10)) => r4 (f15_sh4 t0 t6 t11 t12 t13 o5)) m t0 t6 t11 t12 t13 o5 o8) := by funext t0 t6 t11 t12 t13 o5 o8; exact ih t0 t6 t11 t12 t13 o5 o8
    rw [h, e0]; rfl
noncomputable def f15_s16 (C_f28 : den (Y7) → Option (denR (.one (Y6))))   (LS16 : den (Y8) → den (.int .i64) → den (.int .i64) → den (Y10) → Option (denR (.one (Y10)))) (t79 : den (Y8)) (t80 : den (.int .i64)) (t81 : den (.int .i64)) (o5 : den (Y10)) : Option (denR (.one (Y10))) := (bif (decide (t81 < t80)) then (bif decide (0 ≤ t81) && decide (t81 < (t79.length : Int)) then (bif decide ((o5.length + ([((t79.getD (Int.toNat t81) (dflt (Y7))).1, (true, (((0 : Int), ((0 : Int), ((0 : Int), ((⟨#[]⟩ : ByteArray), ())))), ())))] : List (den (Y6))).length) * 56 ≤ 140737488355328) then LS16 t79 t80 (IntKind.wrap .i64 (t81 + (1 : Int))) (o5 ++ ([((t79.getD (Int.toNat t81) (dflt (Y7))).1, (true, (((0 : Int), ((0 : Int), ((0 : Int), ((⟨#[]⟩ : ByteArray), ())))), ())))] : List (den (Y6)))) else none) else none) else some o5)
noncomputable def f15_l16 (C_f28 : den (Y7) → Option (denR (.one (Y6)))) (n : Nat)  : Nat → den (Y8) → den (.int .i64) → den (.int .i64) → den (Y10) → Option (denR (.one (Y10)))
  | 0, _, _, _, _ => none
  | m + 1, t79, t80, t81, o5 => f15_s16 C_f28   (fun (t79 : den (Y8)) (t80 : den (.int .i64)) (t81 : den (.int .i64)) (o5 : den (Y10)) => f15_l16 C_f28 n  m t79 t80 t81 o5) t79 t80 t81 o5
noncomputable def f15_F16 (call : Call0) (n : Nat)  : (St → Option (denR (.one (Y10)))) → St → Option (denR (.one (Y10))) := fun rec => exec cfg call n 15 (cat B15 [1, 1, 1, 1, 0, 1, 0, 0]) (kLoop rec (lk2 15 16 cfg.keep) (kBlock 4 (kSq (exec cfg call n 15 (cat B15 [1, 1, 1, 1, 1])) (kret cfg Go.Proofs.Try.f15 (.one (Y10))))))
theorem f15_l16_eq (call : Call0) (n : Nat)  : ∀ (m : Nat) (t79 : den (Y8)) (t80 : den (.int .i64)) (t81 : den (.int .i64)) (o5 : den (Y10)), loopN (f15_F16 call n ) m (f15_sh16 t79 t80 t81 o5) = f15_l16 (fun (a0 : den (Y7)) => call.p 28 [.s (.val (Y7) a0)] (.one (Y6))) n  m t79 t80 t81 o5 := by
  intro m
  induction m with
  | zero => intros; rfl
  | succ m ih =>
    intro t79 t80 t81 o5
    have h : loopN (f15_F16 call n ) (m + 1) (f15_sh16 t79 t80 t81 o5) = f15_s16 (fun (a0 : den (Y7)) => call.p 28 [.s (.val (Y7) a0)] (.one (Y6)))   (fun (t79 : den (Y8)) (t80 : den (.int .i64)) (t81 : den (.int .i64)) (o5 : den (Y10)) => loopN (f15_F16 call n ) m (f15_sh16 t79 t80 t81 o5)) t79 t80 t81 o5 := by kernel_rfl
    have e0 : (fun (t79 : den (Y8)) (t80 : den (.int .i64)) (t81 : den (.int .i64)) (o5 : den (Y10)) => loopN (f15_F16 call n ) m (f15_sh16 t79 t80 t81 o5)) = (fun (t79 : den (Y8)) (t80 : den (.int .i64)) (t81 : den (.int .i64)) (o5 : den (Y10)) => f15_l16 (fun (a0 : den (Y7)) => call.p 28 [.s (.val (Y7) a0)] (.one (Y6))) n  m t79 t80 t81 o5) := by funext t79 t80 t81 o5; exact ih t79 t80 t81 o5
    rw [h, e0]; rfl
noncomputable def f15_s4 (C_f28 : den (Y7) → Option (denR (.one (Y6)))) (LL6 : den (Y8) → den (.int .i64) → den (Y8) → den (.int .i64) → den (.int .i64) → den (Y10) → den (Y7) → Option (denR (.one (Y10)))) (LL16 : den (Y8) → den (.int .i64) → den (.int .i64) → den (Y10) → Option (denR (.one (Y10))))  (LS4 : den (Y8) → den (.int .i64) → den (Y8) → den (.int .i64) → den (.int .i64) → den (Y10) → Option (denR (.one (Y10)))) (t0 : den (Y8)) (t6 : den (.int .i64)) (t11 : den (Y8)) (t12 : den (.int .i64)) (t13 : den (.int .i64)) (o5 : den (Y10)) : Option (denR (.one (Y10))) := (bif (decide (t13 < t12)) then (bif decide (0 ≤ t13) && decide (t13 < (t11.length : Int)) then LL6 t0 t6 t11 t12 t13 o5 (t11.getD (Int.toNat t13) (dflt (Y7))) else none) else (bif decide (0 ≤ t6) && decide (t6 ≤ (t0.length : Int)) && decide ((t0.length : Int) ≤ (t0.length : Int)) then LL16 (t0.drop (Int.toNat t6)) ((t0.drop (Int.toNat t6)).length : Int) (0 : Int) o5 else none))
noncomputable def f15_l4 (C_f28 : den (Y7) → Option (denR (.one (Y6)))) (n : Nat)  : Nat → den (Y8) → den (.int .i64) → den (Y8) → den (.int .i64) → den (.int .i64) → den (Y10) → Option (denR (.one (Y10)))
  | 0, _, _, _, _, _, _ => none
  | m + 1, t0, t6, t11, t12, t13, o5 => f15_s4 C_f28 (f15_l6 C_f28 n (fun (t0 : den (Y8)) (t6 : den (.int .i64)) (t11 : den (Y8)) (t12 : den (.int .i64)) (t13 : den (.int .i64)) (o5 : den (Y10)) => f15_l4 C_f28 n  m t0 t6 t11 t12 t13 o5) n) (f15_l16 C_f28 n  n)  (fun (t0 : den (Y8)) (t6 : den (.int .i64)) (t11 : den (Y8)) (t12 : den (.int .i64)) (t13 : den (.int .i64)) (o5 : den (Y10)) => f15_l4 C_f28 n  m t0 t6 t11 t12 t13 o5) t0 t6 t11 t12 t13 o5
noncomputable def f15_F4 (call : Call0) (n : Nat)  : (St → Option (denR (.one (Y10)))) → St → Option (denR (.one (Y10))) := fun rec => exec cfg call n 15 (cat B15 [1, 1, 1, 0, 1, 0, 0]) (kLoop rec (lk2 15 4 cfg.keep) (kBlock 0 (kSq (exec cfg call n 15 (cat B15 [1, 1, 1, 1])) (kret cfg Go.Proofs.Try.f15 (.one (Y10))))))
theorem f15_l4_eq (call : Call0) (n : Nat)  : ∀ (m : Nat) (t0 : den (Y8)) (t6 : den (.int .i64)) (t11 : den (Y8)) (t12 : den (.int .i64)) (t13 : den (.int .i64)) (o5 : den (Y10)), loopN (f15_F4 call n ) m (f15_sh4 t0 t6 t11 t12 t13 o5) = f15_l4 (fun (a0 : den (Y7)) => call.p 28 [.s (.val (Y7) a0)] (.one (Y6))) n  m t0 t6 t11 t12 t13 o5 := by
  intro m
  induction m with
  | zero => intros; rfl
  | succ m ih =>
    intro t0 t6 t11 t12 t13 o5
    have h : loopN (f15_F4 call n ) (m + 1) (f15_sh4 t0 t6 t11 t12 t13 o5) = f15_s4 (fun (a0 : den (Y7)) => call.p 28 [.s (.val (Y7) a0)] (.one (Y6))) (fun (t0 : den (Y8)) (t6 : den (.int .i64)) (t11 : den (Y8)) (t12 : den (.int .i64)) (t13 : den (.int .i64)) (o5 : den (Y10)) (o8 : den (Y7)) => loopN (f15_F6 call n (loopN (f15_F4 call n ) m)) n (f15_sh6 t0 t6 t11 t12 t13 o5 o8)) (fun (t79 : den (Y8)) (t80 : den (.int .i64)) (t81 : den (.int .i64)) (o5 : den (Y10)) => loopN (f15_F16 call n ) n (f15_sh16 t79 t80 t81 o5))  (fun (t0 : den (Y8)) (t6 : den (.int .i64)) (t11 : den (Y8)) (t12 : den (.int .i64)) (t13 : den (.int .i64)) (o5 : den (Y10)) => loopN (f15_F4 call n ) m (f15_sh4 t0 t6 t11 t12 t13 o5)) t0 t6 t11 t12 t13 o5 := by kernel_rfl
    have e6 : (fun (t0 : den (Y8)) (t6 : den (.int .i64)) (t11 : den (Y8)) (t12 : den (.int .i64)) (t13 : den (.int .i64)) (o5 : den (Y10)) (o8 : den (Y7)) => loopN (f15_F6 call n (loopN (f15_F4 call n ) m)) n (f15_sh6 t0 t6 t11 t12 t13 o5 o8)) = f15_l6 (fun (a0 : den (Y7)) => call.p 28 [.s (.val (Y7) a0)] (.one (Y6))) n (fun (t0 : den (Y8)) (t6 : den (.int .i64)) (t11 : den (Y8)) (t12 : den (.int .i64)) (t13 : den (.int .i64)) (o5 : den (Y10)) => (loopN (f15_F4 call n ) m) (f15_sh4 t0 t6 t11 t12 t13 o5)) n := by funext t0 t6 t11 t12 t13 o5 o8; exact f15_l6_eq call n (loopN (f15_F4 call n ) m) n t0 t6 t11 t12 t13 o5 o8
    have e16 : (fun (t79 : den (Y8)) (t80 : den (.int .i64)) (t81 : den (.int .i64)) (o5 : den (Y10)) => loopN (f15_F16 call n ) n (f15_sh16 t79 t80 t81 o5)) = f15_l16 (fun (a0 : den (Y7)) => call.p 28 [.s (.val (Y7) a0)] (.one (Y6))) n  n := by funext t79 t80 t81 o5; exact f15_l16_eq call n  n t79 t80 t81 o5
    have e0 : (fun (t0 : den (Y8)) (t6 : den (.int .i64)) (t11 : den (Y8)) (t12 : den (.int .i64)) (t13 : den (.int .i64)) (o5 : den (Y10)) => loopN (f15_F4 call n ) m (f15_sh4 t0 t6 t11 t12 t13 o5)) = (fun (t0 : den (Y8)) (t6 : den (.int .i64)) (t11 : den (Y8)) (t12 : den (.int .i64)) (t13 : den (.int .i64)) (o5 : den (Y10)) => f15_l4 (fun (a0 : den (Y7)) => call.p 28 [.s (.val (Y7) a0)] (.one (Y6))) n  m t0 t6 t11 t12 t13 o5) := by funext t0 t6 t11 t12 t13 o5; exact ih t0 t6 t11 t12 t13 o5
    rw [h, e6, e16, e0]; rfl
noncomputable def f15_top (C_f28 : den (Y7) → Option (denR (.one (Y6)))) (LL4 : den (Y8) → den (.int .i64) → den (Y8) → den (.int .i64) → den (.int .i64) → den (Y10) → Option (denR (.one (Y10)))) (a0 : den (Y8)) (a1 : den (Y8)) : Option (denR (.one (Y10))) := LL4 a0 (0 : Int) a1 (a1.length : Int) (0 : Int) []
noncomputable def f15 : Nat → den (Y8) → den (Y8) → Option (denR (.one (Y10)))
  | 0, _, _ => none
  | n + 1, a0, a1 => f15_top (f28 n) (f15_l4 (f28 n) n n) a0 a1
theorem f15_eq (n : Nat) (a0 : den (Y8)) (a1 : den (Y8)) : (acalls cfg intr intrI n).p 15 [.s (.val (Y8) a0), .s (.val (Y8) a1)] (.one (Y10)) = f15 n a0 a1 := by
  cases n with
  | zero => rfl
  | succ n =>
    have h : (acalls cfg intr intrI (n + 1)).p 15 [.s (.val (Y8) a0), .s (.val (Y8) a1)] (.one (Y10)) = f15_top (fun (a0 : den (Y7)) => (acalls cfg intr intrI n).p 28 [.s (.val (Y7) a0)] (.one (Y6))) (fun (t0 : den (Y8)) (t6 : den (.int .i64)) (t11 : den (Y8)) (t12 : den (.int .i64)) (t13 : den (.int .i64)) (o5 : den (Y10)) => loopN (f15_F4 (acalls cfg intr intrI n) n) n (f15_sh4 t0 t6 t11 t12 t13 o5)) a0 a1 := by kernel_rfl
    have e4 : (fun (t0 : den (Y8)) (t6 : den (.int .i64)) (t11 : den (Y8)) (t12 : den (.int .i64)) (t13 : den (.int .i64)) (o5 : den (Y10)) => loopN (f15_F4 (acalls cfg intr intrI n) n) n (f15_sh4 t0 t6 t11 t12 t13 o5)) = f15_l4 (fun (a0 : den (Y7)) => (acalls cfg intr intrI n).p 28 [.s (.val (Y7) a0)] (.one (Y6))) n n := by funext t0 t6 t11 t12 t13 o5; exact f15_l4_eq (acalls cfg intr intrI n) n n t0 t6 t11 t12 t13 o5
    have c_f28 : (fun (a0 : den (Y7)) => (acalls cfg intr intrI n).p 28 [.s (.val (Y7) a0)] (.one (Y6))) = f28 n := by funext a0; exact f28_eq n a0
    rw [h, e4, c_f28]; rfl

noncomputable def B29 : Code := (Go.Proofs.Try.f29.body).getD .skip
noncomputable def f29_sh4 (s1t0 : den (Y10)) (s2t1 : den (Y10)) (t12 : den (.int .i64)) (t13 : den (.int .i64)) : St := ⟨[.s (.val (Y10) s1t0), .s (.val (Y10) s2t1), U, U, U, U, U, U, U, U, U, U, .s (.val (.int .i64) t12), .s (.val (.int .i64) t13), U, U, U, U, U, U, U, U, U, U, U, U], []⟩
noncomputable def f29_s4    (LS4 : den (Y10) → den (Y10) → den (.int .i64) → den (.int .i64) → Option (denR (.one (.bool)))) (s1t0 : den (Y10)) (s2t1 : den (Y10)) (t12 : den (.int .i64)) (t13 : den (.int .i64)) : Option (denR (.one (.bool))) := (bif (decide (t13 < t12)) then (bif decide (0 ≤ t13) && decide (t13 < (s1t0.length : Int)) then (bif decide (0 ≤ t13) && decide (t13 < (s2t1.length : Int)) then (bif (!eqT (Y6) (s1t0.getD (Int.toNat t13) (dflt (Y6))) (s2t1.getD (Int.toNat t13) (dflt (Y6)))) then some false else LS4 s1t0 s2t1 t12 (IntKind.wrap .i64 (t13 + (1 : Int)))) else none) else none) else some true)
noncomputable def f29_l4  (n : Nat)  : Nat → den (Y10) → den (Y10) → den (.int .i64) → den (.int .i64) → Option (denR (.one (.bool)))
  | 0, _, _, _, _ => none
  | m + 1, s1t0, s2t1, t12, t13 => f29_s4    (fun (s1t0 : den (Y10)) (s2t1 : den (Y10)) (t12 : den (.int .i64)) (t13 : den (.int .i64)) => f29_l4  n  m s1t0 s2t1 t12 t13) s1t0 s2t1 t12 t13
noncomputable def f29_F4 (call : Call0) (n : Nat)  : (St → Option (denR (.one (.bool)))) → St → Option (denR (.one (.bool))) := fun rec => exec cfg call n 29 (cat B29 [1, 1, 0, 1, 0, 0]) (kLoop rec (lk2 29 4 cfg.keep) (kBlock 0 (kSq (exec cfg call n 29 (cat B29 [1, 1, 1])) (kret cfg Go.Proofs.Try.f29 (.one (.bool))))))
theorem f29_l4_eq (call : Call0) (n : Nat)  : ∀ (m : Nat) (s1t0 : den (Y10)) (s2t1 : den (Y10)) (t12 : den (.int .i64)) (t13 : den (.int .i64)), loopN (f29_F4 call n ) m (f29_sh4 s1t0 s2t1 t12 t13) = f29_l4  n  m s1t0 s2t1 t12 t13 := by
  intro m
  induction m with
  | zero => intros; rfl
  | succ m ih =>
    intro s1t0 s2t1 t12 t13
    have h : loopN (f29_F4 call n ) (m + 1) (f29_sh4 s1t0 s2t1 t12 t13) = f29_s4    (fun (s1t0 : den (Y10)) (s2t1 : den (Y10)) (t12 : den (.int .i64)) (t13 : den (.int .i64)) => loopN (f29_F4 call n ) m (f29_sh4 s1t0 s2t1 t12 t13)) s1t0 s2t1 t12 t13 := by kernel_rfl
    have e0 : (fun (s1t0 : den (Y10)) (s2t1 : den (Y10)) (t12 : den (.int .i64)) (t13 : den (.int .i64)) => loopN (f29_F4 call n ) m (f29_sh4 s1t0 s2t1 t12 t13)) = (fun (s1t0 : den (Y10)) (s2t1 : den (Y10)) (t12 : den (.int .i64)) (t13 : den (.int .i64)) => f29_l4  n  m s1t0 s2t1 t12 t13) := by funext s1t0 s2t1 t12 t13; exact ih s1t0 s2t1 t12 t13
    rw [h, e0]; rfl
noncomputable def f29_top  (LL4 : den (Y10) → den (Y10) → den (.int .i64) → den (.int .i64) → Option (denR (.one (.bool)))) (a0 : den (Y10)) (a1 : den (Y10)) : Option (denR (.one (.bool))) := (bif ((!decide ((a0.length : Int) = (a1.length : Int)))) then some false else LL4 a0 a1 (a0.length : Int) (0 : Int))
noncomputable def f29 : Nat → den (Y10) → den (Y10) → Option (denR (.one (.bool)))
  | 0, _, _ => none
  | n + 1, a0, a1 => f29_top  (f29_l4  n n) a0 a1
theorem f29_eq (n : Nat) (a0 : den (Y10)) (a1 : den (Y10)) : (acalls cfg intr intrI n).p 29 [.s (.val (Y10) a0), .s (.val (Y10) a1)] (.one (.bool)) = f29 n a0 a1 := by
  cases n with
  | zero => rfl
  | succ n =>
    have h : (acalls cfg intr intrI (n + 1)).p 29 [.s (.val (Y10) a0), .s (.val (Y10) a1)] (.one (.bool)) = f29_top  (fun (s1t0 : den (Y10)) (s2t1 : den (Y10)) (t12 : den (.int .i64)) (t13 : den (.int .i64)) => loopN (f29_F4 (acalls cfg intr intrI n) n) n (f29_sh4 s1t0 s2t1 t12 t13)) a0 a1 := by kernel_rfl
    have e4 : (fun (s1t0 : den (Y10)) (s2t1 : den (Y10)) (t12 : den (.int .i64)) (t13 : den (.int .i64)) => loopN (f29_F4 (acalls cfg intr intrI n) n) n (f29_sh4 s1t0 s2t1 t12 t13)) = f29_l4  n n := by funext s1t0 s2t1 t12 t13; exact f29_l4_eq (acalls cfg intr intrI n) n n s1t0 s2t1 t12 t13
    rw [h, e4]; rfl

noncomputable def f16_top (C_f29 : den (Y10) → den (Y10) → Option (denR (.one (.bool))))  (a0 : den (Y10)) (a1 : den (Y10)) : Option (denR (.one (.bool))) := ((C_f29 a0 a1).bind fun r1 => some r1)
noncomputable def f16 : Nat → den (Y10) → den (Y10) → Option (denR (.one (.bool)))
  | 0, _, _ => none
  | n + 1, a0, a1 => f16_top (f29 n)  a0 a1
theorem f16_eq (n : Nat) (a0 : den (Y10)) (a1 : den (Y10)) : (acalls cfg intr intrI n).p 16 [.s (.val (Y10) a0), .s (.val (Y10) a1)] (.one (.bool)) = f16 n a0 a1 := by
  cases n with
  | zero => rfl
  | succ n =>
    have h : (acalls cfg intr intrI (n + 1)).p 16 [.s (.val (Y10) a0), .s (.val (Y10) a1)] (.one (.bool)) = f16_top (fun (a0 : den (Y10)) (a1 : den (Y10)) => (acalls cfg intr intrI n).p 29 [.s (.val (Y10) a0), .s (.val (Y10) a1)] (.one (.bool)))  a0 a1 := by kernel_rfl
    have c_f29 : (fun (a0 : den (Y10)) (a1 : den (Y10)) => (acalls cfg intr intrI n).p 29 [.s (.val (Y10) a0), .s (.val (Y10) a1)] (.one (.bool))) = f29 n := by funext a0 a1; exact f29_eq n a0 a1
    rw [h, c_f29]; rfl

noncomputable def B13 : Code := (Go.Proofs.Try.f13.body).getD .skip
noncomputable def f13_sh6 (t0 : den (Y8)) (t6 : den (.int .i64)) (t9 : den (Y10)) (t10 : den (.int .i64)) (t11 : den (.int .i64)) (o5 : den (Y8)) (o8 : den (Y6)) : St := ⟨[.s (.val (Y8) t0), U, U, U, U, .s (.arr 5), .s (.val (.int .i64) t6), U, .s (.ref 8 []), .s (.val (Y10) t9), .s (.val (.int .i64) t10), .s (.val (.int .i64) t11), U, U, U, U, U, U, U, U, U, U, U, U, U, U, U, U, U, U, U, U, U, U, U, U, U, U, U, U, U, U, U, U, U, U, U, U, U, U, U, U, U, U, U, U, U, U, U, U, U, U, U, U, U, U, U, U, U, U, U, U, U, U, U, U], [(5, .arr 46 (Y7) o5), (8, .box (Y6) o8)]⟩
noncomputable def f13_sh4 (t0 : den (Y8)) (t6 : den (.int .i64)) (t9 : den (Y10)) (t10 : den (.int .i64)) (t11 : den (.int .i64)) (o5 : den (Y8)) : St := ⟨[.s (.val (Y8) t0), U, U, U, U, .s (.arr 5), .s (.val (.int .i64) t6), U, U, .s (.val (Y10) t9), .s (.val (.int .i64) t10), .s (.val (.int .i64) t11), U, U, U, U, U, U, U, U, U, U, U, U, U, U, U, U, U, U, U, U, U, U, U, U, U, U, U, U, U, U, U, U, U, U, U, U, U, U, U, U, U, U, U, U, U, U, U, U, U, U, U, U, U, U, U, U, U, U, U, U, U, U, U, U], [(5, .arr 46 (Y7) o5)]⟩
noncomputable def f13_s6   (LS4 : den (Y8) → den (.int .i64) → den (Y10) → den (.int .i64) → den (.int .i64) → den (Y8) → Option (denR (.one (Y8)))) (LS6 : den (Y8) → den (.int .i64) → den (Y10) → den (.int .i64) → den (.int .i64) → den (Y8) → den (Y6) → Option (denR (.one (Y8)))) (t0 : den (Y8)) (t6 : den (.int .i64)) (t9 : den (Y10)) (t10 : den (.int .i64)) (t11 : den (.int .i64)) (o5 : den (Y8)) (o8 : den (Y6)) : Option (denR (.one (Y8))) := (bif (decide (t6 < (t0.length : Int))) then (bif decide (0 ≤ t6) && decide (t6 < (t0.length : Int)) then (bif (decide ((t0.getD (Int.toNat t6) (dflt (Y7))).1 < o8.1)) then (bif decide (0 ≤ t6) && decide (t6 < (t0.length : Int)) then (bif decide ((o5.length + ([(t0.getD (Int.toNat t6) (dflt (Y7)))] : List (den (Y7))).length) * 48 ≤ 140737488355328) then LS6 t0 (IntKind.wrap .i64 (t6 + (1 : Int))) t9 t10 t11 (o5 ++ ([(t0.getD (Int.toNat t6) (dflt (Y7)))] : List (den (Y7)))) o8 else none) else none) else (bif decide (0 ≤ t6) && decide (t6 < (t0.length : Int)) then (bif (decide ((t0.getD (Int.toNat t6) (dflt (Y7))).1 = o8.1)) then (bif (!o8.2.1) then (bif decide ((o5.length + ([(o8.1, (o8.2.2.1, ()))] : List (den (Y7))).length) * 48 ≤ 140737488355328) then LS4 t0 (IntKind.wrap .i64 (t6 + (1 : Int))) t9 t10 (IntKind.wrap .i64 (t11 + (1 : Int))) (o5 ++ ([(o8.1, (o8.2.2.1, ()))] : List (den (Y7)))) else none) else LS4 t0 (IntKind.wrap .i64 (t6 + (1 : Int))) t9 t10 (IntKind.wrap .i64 (t11 + (1 : Int))) o5) else (bif (!o8.2.1) then (bif decide ((o5.length + ([(o8.1, (o8.2.2.1, ()))] : List (den (Y7))).length) * 48 ≤ 140737488355328) then LS4 t0 t6 t9 t10 (IntKind.wrap .i64 (t11 + (1 : Int))) (o5 ++ ([(o8.1, (o8.2.2.1, ()))] : List (den (Y7)))) else none) else LS4 t0 t6 t9 t10 (IntKind.wrap .i64 (t11 + (1 : Int))) o5)) else none)) else none) else (bif (!o8.2.1) then (bif decide ((o5.length + ([(o8.1, (o8.2.2.1, ()))] : List (den (Y7))).length) * 48 ≤ 140737488355328) then LS4 t0 t6 t9 t10 (IntKind.wrap .i64 (t11 + (1 : Int))) (o5 ++ ([(o8.1, (o8.2.2.1, ()))] : List (den (Y7)))) else none) else LS4 t0 t6 t9 t10 (IntKind.wrap .i64 (t11 + (1 : Int))) o5))
noncomputable def f13_l6  (n : Nat) (LS4 : den (Y8) → den (.int .i64) → den (Y10) → den (.int .i64) → den (.int .i64) → den (Y8) → Option (denR (.one (Y8)))) : Nat → den (Y8) → den (.int .i64) → den (Y10) → den (.int .i64) → den (.int .i64) → den (Y8) → den (Y6) → Option (denR (.one (Y8)))
  | 0, _, _, _, _, _, _, _ => none
  | m + 1, t0, t6, t9, t10, t11, o5, o8 => f13_s6   LS4 (fun (t0 : den (Y8)) (t6 : den (.int .i64)) (t9 : den (Y10)) (t10 : den (.int .i64)) (t11 : den (.int .i64)) (o5 : den (Y8)) (o8 : den (Y6)) => f13_l6  n LS4 m t0 t6 t9 t10 t11 o5 o8) t0 t6 t9 t10 t11 o5 o8
noncomputable def f13_F6 (call : Call0) (n : Nat) (r4 : St → Option (denR (.one (Y8)))) : (St → Option (denR (.one (Y8)))) → St → Option (denR (.one (Y8))) := fun rec => exec cfg call n 13 (cat B13 [1, 0, 1, 1, 1, 0, 1, 0, 0, 1, 1, 0, 0, 1, 0, 0, 0]) (kLoop rec (lk2 13 6 cfg.keep) (kBlock 2 (kSq (exec cfg call n 13 (cat B13 [1, 0, 1, 1, 1, 0, 1, 0, 0, 1, 1, 0, 0, 1, 1])) (kBlock 1 (kSq (exec cfg call n 13 (cat B13 [1, 0, 1, 1, 1, 0, 1, 0, 0, 1, 1, 1])) (kLoop r4 (lk2 13 4 cfg.keep) (kBlock 0 (kSq (exec cfg call n 13 (cat B13 [1, 0, 1, 1, 1, 1])) (kret cfg Go.Proofs.Try.f13 (.one (Y8)))))))))))
theorem f13_l6_eq (call : Call0) (n : Nat) (r4 : St → Option (denR (.one (Y8)))) : ∀ (m : Nat) (t0 : den (Y8)) (t6 : den (.int .i64)) (t9 : den (Y10)) (t10 : den (.int .i64)) (t11 : den (.int .i64)) (o5 : den (Y8)) (o8 : den (Y6)), loopN (f13_F6 call n r4) m (f13_sh6 t0 t6 t9 t10 t11 o5 o8) = f13_l6  n (fun (t0 : den (Y8)) (t6 : den (.int .i64)) (t9 : den (Y10)) (t10 : den (.int .i64)) (t11 : den (.int .i64)) (o5 : den (Y8)) => r4 (f13_sh4 t0 t6 t9 t10 t11 o5)) m t0 t6 t9 t10 t11 o5 o8 := by
  intro m
  induction m with
  | zero => intros; rfl
  | succ m ih =>
    intro t0 t6 t9 t10 t11 o5 o8
    have h : loopN (f13_F6 call n r4) (m + 1) (f13_sh6 t0 t6 t9 t10 t11 o5 o8) = f13_s6   (fun (t0 : den (Y8)) (t6 : den (.int .i64)) (t9 : den (Y10)) (t10 : den (.int .i64)) (t11 : den (.int .i64)) (o5 : den (Y8)) => r4 (f13_sh4 t0 t6 t9 t10 t11 o5)) (fun (t0 : den (Y8)) (t6 : den (.int .i64)) (t9 : den (Y10)) (t10 : den (.int .i64)) (t11 : den (.int .i64)) (o5 : den (Y8)) (o8 : den (Y6)) => loopN (f13_F6 call n r4) m (f13_sh6 t0 t6 t9 t10 t11 o5 o8)) t0 t6 t9 t10 t11 o5 o8 := by kernel_rfl
    have e0 : (fun (t0 : den (Y8)) (t6 : den (.int .i64)) (t9 : den (Y10)) (t10 : den (.int .i64)) (t11 : den (.int .i64)) (o5 : den (Y8)) (o8 : den (Y6)) => loopN (f13_F6 call n r4) m (f13_sh6 t0 t6 t9 t10 t11 o5 o8)) = (fun (t0 : den (Y8)) (t6 : den (.int .i64)) (t9 : den (Y10)) (t10 : den (.int .i64)) (t11 : den (.int .i64)) (o5 : den (Y8)) (o8 : den (Y6)) => f13_l6  n (fun (t0 : den (Y8)) (t6 : den (.int .i64)) (t9 : den (Y10)) (t10 : den (.int .i64)) (t11 : den (.int .i64)) (o5 : den (Y8)) => r4 (f13_sh4 t0 t6 t9 t10 t11 o5)) m t0 t6 t9 t10 t11 o5 o8) := by funext t0 t6 t9 t10 t11 o5 o8; exact ih t0 t6 t9 t10 t11 o5 o8
    rw [h, e0]; rfl
noncomputable def f13_s4  (LL6 : den (Y8) → den (.int .i64) → den (Y10) → den (.int .i64) → den (.int .i64) → den (Y8) → den (Y6) → Option (denR (.one (Y8))))  (LS4 : den (Y8) → den (.int .i64) → den (Y10) → den (.int .i64) → den (.int .i64) → den (Y8) → Option (denR (.one (Y8)))) (t0 : den (Y8)) (t6 : den (.int .i64)) (t9 : den (Y10)) (t10 : den (.int .i64)) (t11 : den (.int .i64)) (o5 : den (Y8)) : Option (denR (.one (Y8))) := (bif (decide (t11 < t10)) then (bif decide (0 ≤ t11) && decide (t11 < (t9.length : Int)) then LL6 t0 t6 t9 t10 t11 o5 (t9.getD (Int.toNat t11) (dflt (Y6))) else none) else (bif decide (0 ≤ t6) && decide (t6 ≤ (t0.length : Int)) && decide ((t0.length : Int) ≤ (t0.length : Int)) then (bif decide ((o5.length + (t0.drop (Int.toNat t6)).length) * 48 ≤ 140737488355328) then some (o5 ++ (t0.drop (Int.toNat t6))) else none) else none))
noncomputable def f13_l4  (n : Nat)  : Nat → den (Y8) → den (.int .i64) → den (Y10) → den (.int .i64) → den (.int .i64) → den (Y8) → Option (denR (.one (Y8)))
  | 0, _, _, _, _, _, _ => none
  | m + 1, t0, t6, t9, t10, t11, o5 => f13_s4  (f13_l6  n (fun (t0 : den (Y8)) (t6 : den (.int .i64)) (t9 : den (Y10)) (t10 : den (.int .i64)) (t11 : den (.int .i64)) (o5 : den (Y8)) => f13_l4  n  m t0 t6 t9 t10 t11 o5) n)  (fun (t0 : den (Y8)) (t6 : den (.int .i64)) (t9 : den (Y10)) (t10 : den (.int .i64)) (t11 : den (.int .i64)) (o5 : den (Y8)) => f13_l4  n  m t0 t6 t9 t10 t11 o5) t0 t6 t9 t10 t11 o5
noncomputable def f13_F4 (call : Call0) (n : Nat)  : (St → Option (denR (.one (Y8)))) → St → Option (denR (.one (Y8))) := fun rec => exec cfg call n 13 (cat B13 [1, 0, 1, 1, 1, 0, 1, 0, 0]) (kLoop rec (lk2 13 4 cfg.keep) (kBlock 0 (kSq (exec cfg call n 13 (cat B13 [1, 0, 1, 1, 1, 1])) (kret cfg Go.Proofs.Try.f13 (.one (Y8))))))
theorem f13_l4_eq (call : Call0) (n : Nat)  : ∀ (m : Nat) (t0 : den (Y8)) (t6 : den (.int .i64)) (t9 : den (Y10)) (t10 : den (.int .i64)) (t11 : den (.int .i64)) (o5 : den (Y8)), loopN (f13_F4 call n ) m (f13_sh4 t0 t6 t9 t10 t11 o5) = f13_l4  n  m t0 t6 t9 t10 t11 o5 := by
  intro m
  induction m with
  | zero => intros; rfl
  | succ m ih =>
    intro t0 t6 t9 t10 t11 o5
    have h : loopN (f13_F4 call n ) (m + 1) (f13_sh4 t0 t6 t9 t10 t11 o5) = f13_s4  (fun (t0 : den (Y8)) (t6 : den (.int .i64)) (t9 : den (Y10)) (t10 : den (.int .i64)) (t11 : den (.int .i64)) (o5 : den (Y8)) (o8 : den (Y6)) => loopN (f13_F6 call n (loopN (f13_F4 call n ) m)) n (f13_sh6 t0 t6 t9 t10 t11 o5 o8))  (fun (t0 : den (Y8)) (t6 : den (.int .i64)) (t9 : den (Y10)) (t10 : den (.int .i64)) (t11 : den (.int .i64)) (o5 : den (Y8)) => loopN (f13_F4 call n ) m (f13_sh4 t0 t6 t9 t10 t11 o5)) t0 t6 t9 t10 t11 o5 := by kernel_rfl
    have e6 : (fun (t0 : den (Y8)) (t6 : den (.int .i64)) (t9 : den (Y10)) (t10 : den (.int .i64)) (t11 : den (.int .i64)) (o5 : den (Y8)) (o8 : den (Y6)) => loopN (f13_F6 call n (loopN (f13_F4 call n ) m)) n (f13_sh6 t0 t6 t9 t10 t11 o5 o8)) = f13_l6  n (fun (t0 : den (Y8)) (t6 : den (.int .i64)) (t9 : den (Y10)) (t10 : den (.int .i64)) (t11 : den (.int .i64)) (o5 : den (Y8)) => (loopN (f13_F4 call n ) m) (f13_sh4 t0 t6 t9 t10 t11 o5)) n := by funext t0 t6 t9 t10 t11 o5 o8; exact f13_l6_eq call n (loopN (f13_F4 call n ) m) n t0 t6 t9 t10 t11 o5 o8
    have e0 : (fun (t0 : den (Y8)) (t6 : den (.int .i64)) (t9 : den (Y10)) (t10 : den (.int .i64)) (t11 : den (.int .i64)) (o5 : den (Y8)) => loopN (f13_F4 call n ) m (f13_sh4 t0 t6 t9 t10 t11 o5)) = (fun (t0 : den (Y8)) (t6 : den (.int .i64)) (t9 : den (Y10)) (t10 : den (.int .i64)) (t11 : den (.int .i64)) (o5 : den (Y8)) => f13_l4  n  m t0 t6 t9 t10 t11 o5) := by funext t0 t6 t9 t10 t11 o5; exact ih t0 t6 t9 t10 t11 o5
    rw [h, e6, e0]; rfl
noncomputable def f13_top  (LL4 : den (Y8) → den (.int .i64) → den (Y10) → den (.int .i64) → den (.int .i64) → den (Y8) → Option (denR (.one (Y8)))) (a0 : den (Y8)) (a1 : den (Y10)) : Option (denR (.one (Y8))) := LL4 a0 (0 : Int) a1 (a1.length : Int) (0 : Int) []
noncomputable def f13 : Nat → den (Y8) → den (Y10) → Option (denR (.one (Y8)))
  | 0, _, _ => none
  | n + 1, a0, a1 => f13_top  (f13_l4  n n) a0 a1
theorem f13_eq (n : Nat) (a0 : den (Y8)) (a1 : den (Y10)) : (acalls cfg intr intrI n).p 13 [.s (.val (Y8) a0), .s (.val (Y10) a1)] (.one (Y8)) = f13 n a0 a1 := by
  cases n with
  | zero => rfl
  | succ n =>
    have h : (acalls cfg intr intrI (n + 1)).p 13 [.s (.val (Y8) a0), .s (.val (Y10) a1)] (.one (Y8)) = f13_top  (fun (t0 : den (Y8)) (t6 : den (.int .i64)) (t9 : den (Y10)) (t10 : den (.int .i64)) (t11 : den (.int .i64)) (o5 : den (Y8)) => loopN (f13_F4 (acalls cfg intr intrI n) n) n (f13_sh4 t0 t6 t9 t10 t11 o5)) a0 a1 := by kernel_rfl
    have e4 : (fun (t0 : den (Y8)) (t6 : den (.int .i64)) (t9 : den (Y10)) (t10 : den (.int .i64)) (t11 : den (.int .i64)) (o5 : den (Y8)) => loopN (f13_F4 (acalls cfg intr intrI n) n) n (f13_sh4 t0 t6 t9 t10 t11 o5)) = f13_l4  n n := by funext t0 t6 t9 t10 t11 o5; exact f13_l4_eq (acalls cfg intr intrI n) n n t0 t6 t9 t10 t11 o5
    rw [h, e4]; rfl

noncomputable def B12 : Code := (Go.Proofs.Try.f12.body).getD .skip
noncomputable def f12_sh4 (at0 : den (Y8)) (bt1 : den (Y8)) (it5 : den (.int .i64)) : St := ⟨[.s (.val (Y8) at0), .s (.val (Y8) bt1), U, U, U, .s (.val (.int .i64) it5), U, U, U, U, U, U, U, U, U, U, U, U, U, U, U, U, U, U, U, U], []⟩
noncomputable def f12_s4    (LS4 : den (Y8) → den (Y8) → den (.int .i64) → Option (denR (.one (.bool)))) (at0 : den (Y8)) (bt1 : den (Y8)) (it5 : den (.int .i64)) : Option (denR (.one (.bool))) := (bif (decide (it5 < (at0.length : Int))) then (bif decide (0 ≤ it5) && decide (it5 < (at0.length : Int)) then (bif decide (0 ≤ it5) && decide (it5 < (bt1.length : Int)) then (bif (!eqT (Y7) (at0.getD (Int.toNat it5) (dflt (Y7))) (bt1.getD (Int.toNat it5) (dflt (Y7)))) then some false else LS4 at0 bt1 (IntKind.wrap .i64 (it5 + (1 : Int)))) else none) else none) else some true)
noncomputable def f12_l4  (n : Nat)  : Nat → den (Y8) → den (Y8) → den (.int .i64) → Option (denR (.one (.bool)))
  | 0, _, _, _ => none
  | m + 1, at0, bt1, it5 => f12_s4    (fun (at0 : den (Y8)) (bt1 : den (Y8)) (it5 : den (.int .i64)) => f12_l4  n  m at0 bt1 it5) at0 bt1 it5
noncomputable def f12_F4 (call : Call0) (n : Nat)  : (St → Option (denR (.one (.bool)))) → St → Option (denR (.one (.bool))) := fun rec => exec cfg call n 12 (cat B12 [1, 1, 0, 1, 0, 0]) (kLoop rec (lk2 12 4 cfg.keep) (kBlock 0 (kSq (exec cfg call n 12 (cat B12 [1, 1, 1])) (kret cfg Go.Proofs.Try.f12 (.one (.bool))))))
theorem f12_l4_eq (call : Call0) (n : Nat)  : ∀ (m : Nat) (at0 : den (Y8)) (bt1 : den (Y8)) (it5 : den (.int .i64)), loopN (f12_F4 call n ) m (f12_sh4 at0 bt1 it5) = f12_l4  n  m at0 bt1 it5 := by
  intro m
  induction m with
  | zero => intros; rfl
  | succ m ih =>
    intro at0 bt1 it5
    have h : loopN (f12_F4 call n ) (m + 1) (f12_sh4 at0 bt1 it5) = f12_s4    (fun (at0 : den (Y8)) (bt1 : den (Y8)) (it5 : den (.int .i64)) => loopN (f12_F4 call n ) m (f12_sh4 at0 bt1 it5)) at0 bt1 it5 := by kernel_rfl
    have e0 : (fun (at0 : den (Y8)) (bt1 : den (Y8)) (it5 : den (.int .i64)) => loopN (f12_F4 call n ) m (f12_sh4 at0 bt1 it5)) = (fun (at0 : den (Y8)) (bt1 : den (Y8)) (it5 : den (.int .i64)) => f12_l4  n  m at0 bt1 it5) := by funext at0 bt1 it5; exact ih at0 bt1 it5
    rw [h, e0]; rfl
noncomputable def f12_top  (LL4 : den (Y8) → den (Y8) → den (.int .i64) → Option (denR (.one (.bool)))) (a0 : den (Y8)) (a1 : den (Y8)) : Option (denR (.one (.bool))) := (bif ((!decide ((a0.length : Int) = (a1.length : Int)))) then some false else LL4 a0 a1 (0 : Int))
noncomputable def f12 : Nat → den (Y8) → den (Y8) → Option (denR (.one (.bool)))
  | 0, _, _ => none
  | n + 1, a0, a1 => f12_top  (f12_l4  n n) a0 a1
theorem f12_eq (n : Nat) (a0 : den (Y8)) (a1 : den (Y8)) : (acalls cfg intr intrI n).p 12 [.s (.val (Y8) a0), .s (.val (Y8) a1)] (.one (.bool)) = f12 n a0 a1 := by
  cases n with
  | zero => rfl
  | succ n =>
    have h : (acalls cfg intr intrI (n + 1)).p 12 [.s (.val (Y8) a0), .s (.val (Y8) a1)] (.one (.bool)) = f12_top  (fun (at0 : den (Y8)) (bt1 : den (Y8)) (it5 : den (.int .i64)) => loopN (f12_F4 (acalls cfg intr intrI n) n) n (f12_sh4 at0 bt1 it5)) a0 a1 := by kernel_rfl
    have e4 : (fun (at0 : den (Y8)) (bt1 : den (Y8)) (it5 : den (.int .i64)) => loopN (f12_F4 (acalls cfg intr intrI n) n) n (f12_sh4 at0 bt1 it5)) = f12_l4  n n := by funext at0 bt1 it5; exact f12_l4_eq (acalls cfg intr intrI n) n n at0 bt1 it5
    rw [h, e4]; rfl

noncomputable def f48_top   (a0 : den (.int .i64)) : Option (denR (.one (.bool))) := some ((!decide (a0 = a0)))
noncomputable def f48 : Nat → den (.int .i64) → Option (denR (.one (.bool)))
  | 0, _ => none
  | n + 1, a0 => f48_top   a0
theorem f48_eq (n : Nat) (a0 : den (.int .i64)) : (acalls cfg intr intrI n).p 48 [.s (.val (.int .i64) a0)] (.one (.bool)) = f48 n a0 := by
  cases n with
  | zero => rfl
  | succ n =>
    have h : (acalls cfg intr intrI (n + 1)).p 48 [.s (.val (.int .i64) a0)] (.one (.bool)) = f48_top   a0 := by kernel_rfl
    rw [h]; rfl

noncomputable def f44_top (C_f48 : den (.int .i64) → Option (denR (.one (.bool))))  (a0 : den (.int .i64)) (a1 : den (.int .i64)) : Option (denR (.one (.int .i64))) := ((C_f48 a0).bind fun r1 => ((C_f48 a1).bind fun r2 => (bif r1 then (bif r2 then some (0 : Int) else some (-1 : Int)) else (bif r2 then some (1 : Int) else (bif (decide (a0 < a1)) then some (-1 : Int) else (bif (decide (a1 < a0)) then some (1 : Int) else some (0 : Int)))))))
noncomputable def f44 : Nat → den (.int .i64) → den (.int .i64) → Option (denR (.one (.int .i64)))
  | 0, _, _ => none
  | n + 1, a0, a1 => f44_top (f48 n)  a0 a1
theorem f44_eq (n : Nat) (a0 : den (.int .i64)) (a1 : den (.int .i64)) : (acalls cfg intr intrI n).p 44 [.s (.val (.int .i64) a0), .s (.val (.int .i64) a1)] (.one (.int .i64)) = f44 n a0 a1 := by
  cases n with
  | zero => rfl
  | succ n =>
    have h : (acalls cfg intr intrI (n + 1)).p 44 [.s (.val (.int .i64) a0), .s (.val (.int .i64) a1)] (.one (.int .i64)) = f44_top (fun (a0 : den (.int .i64)) => (acalls cfg intr intrI n).p 48 [.s (.val (.int .i64) a0)] (.one (.bool)))  a0 a1 := by kernel_rfl
    have c_f48 : (fun (a0 : den (.int .i64)) => (acalls cfg intr intrI n).p 48 [.s (.val (.int .i64) a0)] (.one (.bool))) = f48 n := by funext a0; exact f48_eq n a0
    rw [h, c_f48]; rfl

noncomputable def f43_top (C_f44 : den (.int .i64) → den (.int .i64) → Option (denR (.one (.int .i64))))  (a0 : den (Y7)) (a1 : den (.int .i64)) : Option (denR (.one (.int .i64))) := ((C_f44 a0.1 a1).bind fun r1 => some r1)
noncomputable def f43 : Nat → den (Y7) → den (.int .i64) → Option (denR (.one (.int .i64)))
  | 0, _, _ => none
  | n + 1, a0, a1 => f43_top (f44 n)  a0 a1
theorem f43_eq (n : Nat) (a0 : den (Y7)) (a1 : den (.int .i64)) : (acalls cfg intr intrI n).p 43 [.s (.val (Y7) a0), .s (.val (.int .i64) a1)] (.one (.int .i64)) = f43 n a0 a1 := by
  cases n with
  | zero => rfl
  | succ n =>
    have h : (acalls cfg intr intrI (n + 1)).p 43 [.s (.val (Y7) a0), .s (.val (.int .i64) a1)] (.one (.int .i64)) = f43_top (fun (a0 : den (.int .i64)) (a1 : den (.int .i64)) => (acalls cfg intr intrI n).p 44 [.s (.val (.int .i64) a0), .s (.val (.int .i64) a1)] (.one (.int .i64)))  a0 a1 := by kernel_rfl
    have c_f44 : (fun (a0 : den (.int .i64)) (a1 : den (.int .i64)) => (acalls cfg intr intrI n).p 44 [.s (.val (.int .i64) a0), .s (.val (.int .i64) a1)] (.one (.int .i64))) = f44 n := by funext a0 a1; exact f44_eq n a0 a1
    rw [h, c_f44]; rfl

noncomputable def B42 : Code := (Go.Proofs.Try.f42.body).getD .skip
noncomputable def f42_sh3 (xt0 : den (Y8)) (targett1 : den (.int .i64)) (nt8 : den (.int .i64)) (it9 : den (.int .i64)) (jt10 : den (.int .i64)) : St := ⟨[.s (.val (Y8) xt0), .s (.val (.int .i64) targett1), .fn 43 [], U, U, U, U, U, .s (.val (.int .i64) nt8), .s (.val (.int .i64) it9), .s (.val (.int .i64) jt10), U, U, U, U, U, U, U, U, U, U, U, U, U, U, U, U, U, U, U, U, U, U, U, U, U, U, U, U, U, U, U, U, U, U, U, U, U, U], []⟩
noncomputable def f42_s3 (C_f43 : den (Y7) → den (.int .i64) → Option (denR (.one (.int .i64))))   (LS3 : den (Y8) → den (.int .i64) → den (.int .i64) → den (.int .i64) → den (.int .i64) → Option (denR (.two (.int .i64) (.bool)))) (xt0 : den (Y8)) (targett1 : den (.int .i64)) (nt8 : den (.int .i64)) (it9 : den (.int .i64)) (jt10 : den (.int .i64)) : Option (denR (.two (.int .i64) (.bool))) := (bif (decide (it9 < jt10)) then (bif decide (0 ≤ (IntKind.wrap .i64 (Int.fdiv (IntKind.wrap .u64 (IntKind.wrap .i64 (it9 + jt10))) (2 ^ (min (Int.toNat (1 : Int)) (IntKind.bits .u64)))))) && decide ((IntKind.wrap .i64 (Int.fdiv (IntKind.wrap .u64 (IntKind.wrap .i64 (it9 + jt10))) (2 ^ (min (Int.toNat (1 : Int)) (IntKind.bits .u64))))) < (xt0.length : Int)) then ((C_f43 (xt0.getD (Int.toNat (IntKind.wrap .i64 (Int.fdiv (IntKind.wrap .u64 (IntKind.wrap .i64 (it9 + jt10))) (2 ^ (min (Int.toNat (1 : Int)) (IntKind.bits .u64)))))) (dflt (Y7))) targett1).bind fun r1 => (bif (decide (r1 < (0 : Int))) then LS3 xt0 targett1 nt8 (IntKind.wrap .i64 ((IntKind.wrap .i64 (Int.fdiv (IntKind.wrap .u64 (IntKind.wrap .i64 (it9 + jt10))) (2 ^ (min (Int.toNat (1 : Int)) (IntKind.bits .u64))))) + (1 : Int))) jt10 else LS3 xt0 targett1 nt8 it9 (IntKind.wrap .i64 (Int.fdiv (IntKind.wrap .u64 (IntKind.wrap .i64 (it9 + jt10))) (2 ^ (min (Int.toNat (1 : Int)) (IntKind.bits .u64))))))) else none) else (bif (decide (it9 < nt8)) then (bif decide (0 ≤ it9) && decide (it9 < (xt0.length : Int)) then ((C_f43 (xt0.getD (Int.toNat it9) (dflt (Y7))) targett1).bind fun r2 => some (it9, (decide (r2 = (0 : Int))))) else none) else some (it9, false)))
noncomputable def f42_l3 (C_f43 : den (Y7) → den (.int .i64) → Option (denR (.one (.int .i64)))) (n : Nat)  : Nat → den (Y8) → den (.int .i64) → den (.int .i64) → den (.int .i64) → den (.int .i64) → Option (denR (.two (.int .i64) (.bool)))
  | 0, _, _, _, _, _ => none
  | m + 1, xt0, targett1, nt8, it9, jt10 => f42_s3 C_f43   (fun (xt0 : den (Y8)) (targett1 : den (.int .i64)) (nt8 : den (.int .i64)) (it9 : den (.int .i64)) (jt10 : den (.int .i64)) => f42_l3 C_f43 n  m xt0 targett1 nt8 it9 jt10) xt0 targett1 nt8 it9 jt10
noncomputable def f42_F3 (call : Call0) (n : Nat)  : (St → Option (denR (.two (.int .i64) (.bool)))) → St → Option (denR (.two (.int .i64) (.bool))) := fun rec => exec cfg call n 42 (cat B42 [1, 1, 1, 0, 0, 0]) (kLoop rec (lk2 42 3 cfg.keep) (kBlock 0 (kSq (exec cfg call n 42 (cat B42 [1, 1, 1, 1])) (kret cfg Go.Proofs.Try.f42 (.two (.int .i64) (.bool))))))
theorem f42_l3_eq (call : Call0) (n : Nat)  : ∀ (m : Nat) (xt0 : den (Y8)) (targett1 : den (.int .i64)) (nt8 : den (.int .i64)) (it9 : den (.int .i64)) (jt10 : den (.int .i64)), loopN (f42_F3 call n ) m (f42_sh3 xt0 targett1 nt8 it9 jt10) = f42_l3 (fun (a0 : den (Y7)) (a1 : den (.int .i64)) => call.p 43 [.s (.val (Y7) a0), .s (.val (.int .i64) a1)] (.one (.int .i64))) n  m xt0 targett1 nt8 it9 jt10 := by
  intro m
  induction m with
  | zero => intros; rfl
  | succ m ih =>
    intro xt0 targett1 nt8 it9 jt10
    have h : loopN (f42_F3 call n ) (m + 1) (f42_sh3 xt0 targett1 nt8 it9 jt10) = f42_s3 (fun (a0 : den (Y7)) (a1 : den (.int .i64)) => call.p 43 [.s (.val (Y7) a0), .s (.val (.int .i64) a1)] (.one (.int .i64)))   (fun (xt0 : den (Y8)) (targett1 : den (.int .i64)) (nt8 : den (.int .i64)) (it9 : den (.int .i64)) (jt10 : den (.int .i64)) => loopN (f42_F3 call n ) m (f42_sh3 xt0 targett1 nt8 it9 jt10)) xt0 targett1 nt8 it9 jt10 := by kernel_rfl
    have e0 : (fun (xt0 : den (Y8)) (targett1 : den (.int .i64)) (nt8 : den (.int .i64)) (it9 : den (.int .i64)) (jt10 : den (.int .i64)) => loopN (f42_F3 call n ) m (f42_sh3 xt0 targett1 nt8 it9 jt10)) = (fun (xt0 : den (Y8)) (targett1 : den (.int .i64)) (nt8 : den (.int .i64)) (it9 : den (.int .i64)) (jt10 : den (.int .i64)) => f42_l3 (fun (a0 : den (Y7)) (a1 : den (.int .i64)) => call.p 43 [.s (.val (Y7) a0), .s (.val (.int .i64) a1)] (.one (.int .i64))) n  m xt0 targett1 nt8 it9 jt10) := by funext xt0 targett1 nt8 it9 jt10; exact ih xt0 targett1 nt8 it9 jt10
    rw [h, e0]; rfl
noncomputable def f42_top (C_f43 : den (Y7) → den (.int .i64) → Option (denR (.one (.int .i64)))) (LL3 : den (Y8) → den (.int .i64) → den (.int .i64) → den (.int .i64) → den (.int .i64) → Option (denR (.two (.int .i64) (.bool)))) (a0 : den (Y8)) (a1 : den (.int .i64)) : Option (denR (.two (.int .i64) (.bool))) := LL3 a0 a1 (a0.length : Int) (0 : Int) (a0.length : Int)
noncomputable def f42 : Nat → den (Y8) → den (.int .i64) → Option (denR (.two (.int .i64) (.bool)))
  | 0, _, _ => none
  | n + 1, a0, a1 => f42_top (f43 n) (f42_l3 (f43 n) n n) a0 a1
theorem f42_eq (n : Nat) (a0 : den (Y8)) (a1 : den (.int .i64)) : (acalls cfg intr intrI n).p 42 [.s (.val (Y8) a0), .s (.val (.int .i64) a1), .fn 43 []] (.two (.int .i64) (.bool)) = f42 n a0 a1 := by
  cases n with
  | zero => rfl
  | succ n =>
    have h : (acalls cfg intr intrI (n + 1)).p 42 [.s (.val (Y8) a0), .s (.val (.int .i64) a1), .fn 43 []] (.two (.int .i64) (.bool)) = f42_top (fun (a0 : den (Y7)) (a1 : den (.int .i64)) => (acalls cfg intr intrI n).p 43 [.s (.val (Y7) a0), .s (.val (.int .i64) a1)] (.one (.int .i64))) (fun (xt0 : den (Y8)) (targett1 : den (.int .i64)) (nt8 : den (.int .i64)) (it9 : den (.int .i64)) (jt10 : den (.int .i64)) => loopN (f42_F3 (acalls cfg intr intrI n) n) n (f42_sh3 xt0 targett1 nt8 it9 jt10)) a0 a1 := by kernel_rfl
    have e3 : (fun (xt0 : den (Y8)) (targett1 : den (.int .i64)) (nt8 : den (.int .i64)) (it9 : den (.int .i64)) (jt10 : den (.int .i64)) => loopN (f42_F3 (acalls cfg intr intrI n) n) n (f42_sh3 xt0 targett1 nt8 it9 jt10)) = f42_l3 (fun (a0 : den (Y7)) (a1 : den (.int .i64)) => (acalls cfg intr intrI n).p 43 [.s (.val (Y7) a0), .s (.val (.int .i64) a1)] (.one (.int .i64))) n n := by funext xt0 targett1 nt8 it9 jt10; exact f42_l3_eq (acalls cfg intr intrI n) n n xt0 targett1 nt8 it9 jt10
    have c_f43 : (fun (a0 : den (Y7)) (a1 : den (.int .i64)) => (acalls cfg intr intrI n).p 43 [.s (.val (Y7) a0), .s (.val (.int .i64) a1)] (.one (.int .i64))) = f43 n := by funext a0 a1; exact f43_eq n a0 a1
    rw [h, e3, c_f43]; rfl

noncomputable def f35_top (C_f42 : den (Y8) → den (.int .i64) → Option (denR (.two (.int .i64) (.bool))))  (a0 : den (Y8)) (a1 : den (.int .i64)) : Option (denR (.two (.int .i64) (.bool))) := ((C_f42 a0 a1).bind fun r1 => some (r1.1, r1.2))
noncomputable def f35 : Nat → den (Y8) → den (.int .i64) → Option (denR (.two (.int .i64) (.bool)))
  | 0, _, _ => none
  | n + 1, a0, a1 => f35_top (f42 n)  a0 a1
theorem f35_eq (n : Nat) (a0 : den (Y8)) (a1 : den (.int .i64)) : (acalls cfg intr intrI n).p 35 [.s (.val (Y8) a0), .s (.val (.int .i64) a1)] (.two (.int .i64) (.bool)) = f35 n a0 a1 := by
  cases n with
  | zero => rfl
  | succ n =>
    have h : (acalls cfg intr intrI (n + 1)).p 35 [.s (.val (Y8) a0), .s (.val (.int .i64) a1)] (.two (.int .i64) (.bool)) = f35_top (fun (a0 : den (Y8)) (a1 : den (.int .i64)) => (acalls cfg intr intrI n).p 42 [.s (.val (Y8) a0), .s (.val (.int .i64) a1), .fn 43 []] (.two (.int .i64) (.bool)))  a0 a1 := by kernel_rfl
    have c_f42 : (fun (a0 : den (Y8)) (a1 : den (.int .i64)) => (acalls cfg intr intrI n).p 42 [.s (.val (Y8) a0), .s (.val (.int .i64) a1), .fn 43 []] (.two (.int .i64) (.bool))) = f42 n := by funext a0 a1; exact f42_eq n a0 a1
    rw [h, c_f42]; rfl

noncomputable def f23_top (C_f35 : den (Y8) → den (.int .i64) → Option (denR (.two (.int .i64) (.bool))))  (a0 : den (Y8)) (a1 : den (.int .i64)) : Option (denR (.two (Y3) (.bool))) := ((C_f35 a0 a1).bind fun r1 => (bif (!r1.2) then some (((0 : Int), ((0 : Int), ((0 : Int), ((⟨#[]⟩ : ByteArray), ())))), false) else (bif decide (0 ≤ r1.1) && decide (r1.1 < (a0.length : Int)) then some (((a0.getD (Int.toNat r1.1) (dflt (Y7))).2).1, true) else none)))
noncomputable def f23 : Nat → den (Y8) → den (.int .i64) → Option (denR (.two (Y3) (.bool)))
  | 0, _, _ => none
  | n + 1, a0, a1 => f23_top (f35 n)  a0 a1
theorem f23_eq (n : Nat) (a0 : den (Y8)) (a1 : den (.int .i64)) : (acalls cfg intr intrI n).p 23 [.s (.val (Y8) a0), .s (.val (.int .i64) a1)] (.two (Y3) (.bool)) = f23 n a0 a1 := by
  cases n with
  | zero => rfl
  | succ n =>
    have h : (acalls cfg intr intrI (n + 1)).p 23 [.s (.val (Y8) a0), .s (.val (.int .i64) a1)] (.two (Y3) (.bool)) = f23_top (fun (a0 : den (Y8)) (a1 : den (.int .i64)) => (acalls cfg intr intrI n).p 35 [.s (.val (Y8) a0), .s (.val (.int .i64) a1)] (.two (.int .i64) (.bool)))  a0 a1 := by kernel_rfl
    have c_f35 : (fun (a0 : den (Y8)) (a1 : den (.int .i64)) => (acalls cfg intr intrI n).p 35 [.s (.val (Y8) a0), .s (.val (.int .i64) a1)] (.two (.int .i64) (.bool))) = f35 n := by funext a0 a1; exact f35_eq n a0 a1
    rw [h, c_f35]; rfl

noncomputable def B14 : Code := (Go.Proofs.Try.f14.body).getD .skip
noncomputable def f14_sh3 (sett0 : den (Y8)) (t10 : den (Y10)) (t11 : den (.int .i64)) (t12 : den (.int .i64)) (outo5 : den (Y10)) : St := ⟨[.s (.val (Y8) sett0), U, U, U, U, .s (.arr 5), U, U, U, U, .s (.val (Y10) t10), .s (.val (.int .i64) t11), .s (.val (.int .i64) t12), U, U, U, U, U, U, U, U, U, U, U, U, U, U, U, U, U, U, U, U, U, U, U, U, U, U, U, U, U, U, U, U, U, U, U, U, U, U, U, U, U, U, U, U, U], [(5, .arr 40 (Y6) outo5)]⟩
noncomputable def f14_s3 (C_f23 : den (Y8) → den (.int .i64) → Option (denR (.two (Y3) (.bool))))   (LS3 : den (Y8) → den (Y10) → den (.int .i64) → den (.int .i64) → den (Y10) → Option (denR (.one (Y10)))) (sett0 : den (Y8)) (t10 : den (Y10)) (t11 : den (.int .i64)) (t12 : den (.int .i64)) (outo5 : den (Y10)) : Option (denR (.one (Y10))) := (bif (decide (t12 < t11)) then (bif decide (0 ≤ t12) && decide (t12 < (t10.length : Int)) then ((C_f23 sett0 ((t10.getD (Int.toNat t12) (dflt (Y6))).1)).bind fun r1 => (bif r1.2 then (bif ((t10.getD (Int.toNat t12) (dflt (Y6))).2).1 then (bif decide ((outo5.length + ([((t10.getD (Int.toNat t12) (dflt (Y6))).1, (false, (r1.1, ())))] : List (den (Y6))).length) * 56 ≤ 140737488355328) then LS3 sett0 t10 t11 (IntKind.wrap .i64 (t12 + (1 : Int))) (outo5 ++ ([((t10.getD (Int.toNat t12) (dflt (Y6))).1, (false, (r1.1, ())))] : List (den (Y6)))) else none) else (bif (!eqT (Y3) r1.1 ((((t10.getD (Int.toNat t12) (dflt (Y6))).2).2).1)) then (bif decide ((outo5.length + ([((t10.getD (Int.toNat t12) (dflt (Y6))).1, (false, (r1.1, ())))] : List (den (Y6))).length) * 56 ≤ 140737488355328) then LS3 sett0 t10 t11 (IntKind.wrap .i64 (t12 + (1 : Int))) (outo5 ++ ([((t10.getD (Int.toNat t12) (dflt (Y6))).1, (false, (r1.1, ())))] : List (den (Y6)))) else none) else (bif (!r1.2) then (bif (!((t10.getD (Int.toNat t12) (dflt (Y6))).2).1) then (bif decide ((outo5.length + ([((t10.getD (Int.toNat t12) (dflt (Y6))).1, (true, (((0 : Int), ((0 : Int), ((0 : Int), ((⟨#[]⟩ : ByteArray), ())))), ())))] : List (den (Y6))).length) * 56 ≤ 140737488355328) then LS3 sett0 t10 t11 (IntKind.wrap .i64 (t12 + (1 : Int))) (outo5 ++ ([((t10.getD (Int.toNat t12) (dflt (Y6))).1, (true, (((0 : Int), ((0 : Int), ((0 : Int), ((⟨#[]⟩ : ByteArray), ())))), ())))] : List (den (Y6)))) else none) else LS3 sett0 t10 t11 (IntKind.wrap .i64 (t12 + (1 : Int))) outo5) else LS3 sett0 t10 t11 (IntKind.wrap .i64 (t12 + (1 : Int))) outo5))) else (bif (!r1.2) then (bif (!((t10.getD (Int.toNat t12) (dflt (Y6))).2).1) then (bif decide ((outo5.length + ([((t10.getD (Int.toNat t12) (dflt (Y6))).1, (true, (((0 : Int), ((0 : Int), ((0 : Int), ((⟨#[]⟩ : ByteArray), ())))), ())))] : List (den (Y6))).length) * 56 ≤ 140737488355328) then LS3 sett0 t10 t11 (IntKind.wrap .i64 (t12 + (1 : Int))) (outo5 ++ ([((t10.getD (Int.toNat t12) (dflt (Y6))).1, (true, (((0 : Int), ((0 : Int), ((0 : Int), ((⟨#[]⟩ : ByteArray), ())))), ())))] : List (den (Y6)))) else none) else LS3 sett0 t10 t11 (IntKind.wrap .i64 (t12 + (1 : Int))) outo5) else LS3 sett0 t10 t11 (IntKind.wrap .i64 (t12 + (1 : Int))) outo5))) else none) else some outo5)
noncomputable def f14_l3 (C_f23 : den (Y8) → den (.int .i64) → Option (denR (.two (Y3) (.bool)))) (n : Nat)  : Nat → den (Y8) → den (Y10) → den (.int .i64) → den (.int .i64) → den (Y10) → Option (denR (.one (Y10)))
  | 0, _, _, _, _, _ => none
  | m + 1, sett0, t10, t11, t12, outo5 => f14_s3 C_f23   (fun (sett0 : den (Y8)) (t10 : den (Y10)) (t11 : den (.int .i64)) (t12 : den (.int .i64)) (outo5 : den (Y10)) => f14_l3 C_f23 n  m sett0 t10 t11 t12 outo5) sett0 t10 t11 t12 outo5
noncomputable def f14_F3 (call : Call0) (n : Nat)  : (St → Option (denR (.one (Y10)))) → St → Option (denR (.one (Y10))) := fun rec => exec cfg call n 14 (cat B14 [1, 1, 0, 1, 0, 0]) (kLoop rec (lk2 14 3 cfg.keep) (kBlock 0 (kSq (exec cfg call n 14 (cat B14 [1, 1, 1])) (kret cfg Go.Proofs.Try.f14 (.one (Y10))))))
theorem f14_l3_eq (call : Call0) (n : Nat)  : ∀ (m : Nat) (sett0 : den (Y8)) (t10 : den (Y10)) (t11 : den (.int .i64)) (t12 : den (.int .i64)) (outo5 : den (Y10)), loopN (f14_F3 call n ) m (f14_sh3 sett0 t10 t11 t12 outo5) = f14_l3 (fun (a0 : den (Y8)) (a1 : den (.int .i64)) => call.p 23 [.s (.val (Y8) a0), .s (.val (.int .i64) a1)] (.two (Y3) (.bool))) n  m sett0 t10 t11 t12 outo5 := by
  intro m
  induction m with
  | zero => intros; rfl
  | succ m ih =>
    intro sett0 t10 t11 t12 outo5
    have h : loopN (f14_F3 call n ) (m + 1) (f14_sh3 sett0 t10 t11 t12 outo5) = f14_s3 (fun (a0 : den (Y8)) (a1 : den (.int .i64)) => call.p 23 [.s (.val (Y8) a0), .s (.val (.int .i64) a1)] (.two (Y3) (.bool)))   (fun (sett0 : den (Y8)) (t10 : den (Y10)) (t11 : den (.int .i64)) (t12 : den (.int .i64)) (outo5 : den (Y10)) => loopN (f14_F3 call n ) m (f14_sh3 sett0 t10 t11 t12 outo5)) sett0 t10 t11 t12 outo5 := by kernel_rfl
    have e0 : (fun (sett0 : den (Y8)) (t10 : den (Y10)) (t11 : den (.int .i64)) (t12 : den (.int .i64)) (outo5 : den (Y10)) => loopN (f14_F3 call n ) m (f14_sh3 sett0 t10 t11 t12 outo5)) = (fun (sett0 : den (Y8)) (t10 : den (Y10)) (t11 : den (.int .i64)) (t12 : den (.int .i64)) (outo5 : den (Y10)) => f14_l3 (fun (a0 : den (Y8)) (a1 : den (.int .i64)) => call.p 23 [.s (.val (Y8) a0), .s (.val (.int .i64) a1)] (.two (Y3) (.bool))) n  m sett0 t10 t11 t12 outo5) := by funext sett0 t10 t11 t12 outo5; exact ih sett0 t10 t11 t12 outo5
    rw [h, e0]; rfl
noncomputable def f14_top (C_f23 : den (Y8) → den (.int .i64) → Option (denR (.two (Y3) (.bool)))) (LL3 : den (Y8) → den (Y10) → den (.int .i64) → den (.int .i64) → den (Y10) → Option (denR (.one (Y10)))) (a0 : den (Y8)) (a1 : den (Y10)) : Option (denR (.one (Y10))) := LL3 a0 a1 (a1.length : Int) (0 : Int) []
noncomputable def f14 : Nat → den (Y8) → den (Y10) → Option (denR (.one (Y10)))
  | 0, _, _ => none
  | n + 1, a0, a1 => f14_top (f23 n) (f14_l3 (f23 n) n n) a0 a1
theorem f14_eq (n : Nat) (a0 : den (Y8)) (a1 : den (Y10)) : (acalls cfg intr intrI n).p 14 [.s (.val (Y8) a0), .s (.val (Y10) a1)] (.one (Y10)) = f14 n a0 a1 := by
  cases n with
  | zero => rfl
  | succ n =>
    have h : (acalls cfg intr intrI (n + 1)).p 14 [.s (.val (Y8) a0), .s (.val (Y10) a1)] (.one (Y10)) = f14_top (fun (a0 : den (Y8)) (a1 : den (.int .i64)) => (acalls cfg intr intrI n).p 23 [.s (.val (Y8) a0), .s (.val (.int .i64) a1)] (.two (Y3) (.bool))) (fun (sett0 : den (Y8)) (t10 : den (Y10)) (t11 : den (.int .i64)) (t12 : den (.int .i64)) (outo5 : den (Y10)) => loopN (f14_F3 (acalls cfg intr intrI n) n) n (f14_sh3 sett0 t10 t11 t12 outo5)) a0 a1 := by kernel_rfl
    have e3 : (fun (sett0 : den (Y8)) (t10 : den (Y10)) (t11 : den (.int .i64)) (t12 : den (.int .i64)) (outo5 : den (Y10)) => loopN (f14_F3 (acalls cfg intr intrI n) n) n (f14_sh3 sett0 t10 t11 t12 outo5)) = f14_l3 (fun (a0 : den (Y8)) (a1 : den (.int .i64)) => (acalls cfg intr intrI n).p 23 [.s (.val (Y8) a0), .s (.val (.int .i64) a1)] (.two (Y3) (.bool))) n n := by funext sett0 t10 t11 t12 outo5; exact f14_l3_eq (acalls cfg intr intrI n) n n sett0 t10 t11 t12 outo5
    have c_f23 : (fun (a0 : den (Y8)) (a1 : den (.int .i64)) => (acalls cfg intr intrI n).p 23 [.s (.val (Y8) a0), .s (.val (.int .i64) a1)] (.two (Y3) (.bool))) = f23 n := by funext a0 a1; exact f23_eq n a0 a1
    rw [h, e3, c_f23]; rfl

noncomputable def f11_top (C_f27 : den (.int .i64) → Option (denR (.one (Y3)))) (C_f15 : den (Y8) → den (Y8) → Option (denR (.one (Y10)))) (C_f16 : den (Y10) → den (Y10) → Option (denR (.one (.bool)))) (C_f13 : den (Y8) → den (Y10) → Option (denR (.one (Y8)))) (C_f12 : den (Y8) → den (Y8) → Option (denR (.one (.bool)))) (C_f14 : den (Y8) → den (Y10) → Option (denR (.one (Y10))))   : Option (denR (.one (.bool))) := ((C_f27 (2 : Int)).bind fun r1 => ((C_f27 (4 : Int)).bind fun r2 => ((C_f27 (5 : Int)).bind fun r3 => ((C_f15 ([((1 : Int), (r1, ())), ((3 : Int), (r2, ()))] : den (Y8)) ([((3 : Int), (r3, ()))] : den (Y8))).bind fun r4 => ((C_f27 (5 : Int)).bind fun r5 => ((C_f16 r4 ([((1 : Int), (true, (((0 : Int), ((0 : Int), ((0 : Int), ((⟨#[]⟩ : ByteArray), ())))), ()))), ((3 : Int), (false, (r5, ())))] : den (Y10))).bind fun r6 => (bif r6 then ((C_f13 ([((1 : Int), (r1, ())), ((3 : Int), (r2, ()))] : den (Y8)) r4).bind fun r7 => ((C_f12 r7 ([((3 : Int), (r3, ()))] : den (Y8))).bind fun r8 => (bif r8 then ((C_f14 ([((1 : Int), (r1, ())), ((3 : Int), (r2, ()))] : den (Y8)) r4).bind fun r9 => ((C_f13 ([((3 : Int), (r3, ()))] : den (Y8)) r9).bind fun r10 => ((C_f12 r10 ([((1 : Int), (r1, ())), ((3 : Int), (r2, ()))] : den (Y8))).bind fun r11 => some r11))) else some false))) else some false)))))))
noncomputable def f11 : Nat → Option (denR (.one (.bool)))
  | 0 => none
  | n + 1 => f11_top (f27 n) (f15 n) (f16 n) (f13 n) (f12 n) (f14 n)  
theorem f11_eq (n : Nat)  : (acalls cfg intr intrI n).p 11 [] (.one (.bool)) = f11 n  := by
  cases n with
  | zero => rfl
  | succ n =>
    have h : (acalls cfg intr intrI (n + 1)).p 11 [] (.one (.bool)) = f11_top (fun (a0 : den (.int .i64)) => (acalls cfg intr intrI n).p 27 [.s (.val (.int .i64) a0)] (.one (Y3))) (fun (a0 : den (Y8)) (a1 : den (Y8)) => (acalls cfg intr intrI n).p 15 [.s (.val (Y8) a0), .s (.val (Y8) a1)] (.one (Y10))) (fun (a0 : den (Y10)) (a1 : den (Y10)) => (acalls cfg intr intrI n).p 16 [.s (.val (Y10) a0), .s (.val (Y10) a1)] (.one (.bool))) (fun (a0 : den (Y8)) (a1 : den (Y10)) => (acalls cfg intr intrI n).p 13 [.s (.val (Y8) a0), .s (.val (Y10) a1)] (.one (Y8))) (fun (a0 : den (Y8)) (a1 : den (Y8)) => (acalls cfg intr intrI n).p 12 [.s (.val (Y8) a0), .s (.val (Y8) a1)] (.one (.bool))) (fun (a0 : den (Y8)) (a1 : den (Y10)) => (acalls cfg intr intrI n).p 14 [.s (.val (Y8) a0), .s (.val (Y10) a1)] (.one (Y10)))   := by kernel_rfl
    have c_f27 : (fun (a0 : den (.int .i64)) => (acalls cfg intr intrI n).p 27 [.s (.val (.int .i64) a0)] (.one (Y3))) = f27 n := by funext a0; exact f27_eq n a0
    have c_f15 : (fun (a0 : den (Y8)) (a1 : den (Y8)) => (acalls cfg intr intrI n).p 15 [.s (.val (Y8) a0), .s (.val (Y8) a1)] (.one (Y10))) = f15 n := by funext a0 a1; exact f15_eq n a0 a1
    have c_f16 : (fun (a0 : den (Y10)) (a1 : den (Y10)) => (acalls cfg intr intrI n).p 16 [.s (.val (Y10) a0), .s (.val (Y10) a1)] (.one (.bool))) = f16 n := by funext a0 a1; exact f16_eq n a0 a1
    have c_f13 : (fun (a0 : den (Y8)) (a1 : den (Y10)) => (acalls cfg intr intrI n).p 13 [.s (.val (Y8) a0), .s (.val (Y10) a1)] (.one (Y8))) = f13 n := by funext a0 a1; exact f13_eq n a0 a1
    have c_f12 : (fun (a0 : den (Y8)) (a1 : den (Y8)) => (acalls cfg intr intrI n).p 12 [.s (.val (Y8) a0), .s (.val (Y8) a1)] (.one (.bool))) = f12 n := by funext a0 a1; exact f12_eq n a0 a1
    have c_f14 : (fun (a0 : den (Y8)) (a1 : den (Y10)) => (acalls cfg intr intrI n).p 14 [.s (.val (Y8) a0), .s (.val (Y10) a1)] (.one (Y10))) = f14 n := by funext a0 a1; exact f14_eq n a0 a1
    rw [h, c_f27, c_f15, c_f16, c_f13, c_f12, c_f14]; rfl

noncomputable def B9 : Code := (Go.Proofs.Try.f9.body).getD .skip
noncomputable def f9_sh2 (sett0 : den (Y8)) (it3 : den (.int .i64)) : St := ⟨[.s (.val (Y8) sett0), U, U, .s (.val (.int .i64) it3), U, U, U, U, U, U, U, U, U, U, U, U, U, U, U, U, U, U], []⟩
noncomputable def f9_s2    (LS2 : den (Y8) → den (.int .i64) → Option (denR (.one (.bool)))) (sett0 : den (Y8)) (it3 : den (.int .i64)) : Option (denR (.one (.bool))) := (bif (decide (it3 < (sett0.length : Int))) then (bif decide (0 ≤ (IntKind.wrap .i64 (it3 - (1 : Int)))) && decide ((IntKind.wrap .i64 (it3 - (1 : Int))) < (sett0.length : Int)) then (bif decide (0 ≤ it3) && decide (it3 < (sett0.length : Int)) then (bif (decide ((sett0.getD (Int.toNat it3) (dflt (Y7))).1 ≤ (sett0.getD (Int.toNat (IntKind.wrap .i64 (it3 - (1 : Int)))) (dflt (Y7))).1)) then some false else LS2 sett0 (IntKind.wrap .i64 (it3 + (1 : Int)))) else none) else none) else some true)
noncomputable def f9_l2  (n : Nat)  : Nat → den (Y8) → den (.int .i64) → Option (denR (.one (.bool)))
  | 0, _, _ => none
  | m + 1, sett0, it3 => f9_s2    (fun (sett0 : den (Y8)) (it3 : den (.int .i64)) => f9_l2  n  m sett0 it3) sett0 it3
noncomputable def f9_F2 (call : Call0) (n : Nat)  : (St → Option (denR (.one (.bool)))) → St → Option (denR (.one (.bool))) := fun rec => exec cfg call n 9 (cat B9 [1, 0, 1, 0, 0]) (kLoop rec (lk2 9 2 cfg.keep) (kBlock 0 (kSq (exec cfg call n 9 (cat B9 [1, 1])) (kret cfg Go.Proofs.Try.f9 (.one (.bool))))))
theorem f9_l2_eq (call : Call0) (n : Nat)  : ∀ (m : Nat) (sett0 : den (Y8)) (it3 : den (.int .i64)), loopN (f9_F2 call n ) m (f9_sh2 sett0 it3) = f9_l2  n  m sett0 it3 := by
  intro m
  induction m with
  | zero => intros; rfl
  | succ m ih =>
    intro sett0 it3
    have h : loopN (f9_F2 call n ) (m + 1) (f9_sh2 sett0 it3) = f9_s2    (fun (sett0 : den (Y8)) (it3 : den (.int .i64)) => loopN (f9_F2 call n ) m (f9_sh2 sett0 it3)) sett0 it3 := by kernel_rfl
    have e0 : (fun (sett0 : den (Y8)) (it3 : den (.int .i64)) => loopN (f9_F2 call n ) m (f9_sh2 sett0 it3)) = (fun (sett0 : den (Y8)) (it3 : den (.int .i64)) => f9_l2  n  m sett0 it3) := by funext sett0 it3; exact ih sett0 it3
    rw [h, e0]; rfl
noncomputable def f9_top  (LL2 : den (Y8) → den (.int .i64) → Option (denR (.one (.bool)))) (a0 : den (Y8)) : Option (denR (.one (.bool))) := LL2 a0 (1 : Int)
noncomputable def f9 : Nat → den (Y8) → Option (denR (.one (.bool)))
  | 0, _ => none
  | n + 1, a0 => f9_top  (f9_l2  n n) a0
theorem f9_eq (n : Nat) (a0 : den (Y8)) : (acalls cfg intr intrI n).p 9 [.s (.val (Y8) a0)] (.one (.bool)) = f9 n a0 := by
  cases n with
  | zero => rfl
  | succ n =>
    have h : (acalls cfg intr intrI (n + 1)).p 9 [.s (.val (Y8) a0)] (.one (.bool)) = f9_top  (fun (sett0 : den (Y8)) (it3 : den (.int .i64)) => loopN (f9_F2 (acalls cfg intr intrI n) n) n (f9_sh2 sett0 it3)) a0 := by kernel_rfl
    have e2 : (fun (sett0 : den (Y8)) (it3 : den (.int .i64)) => loopN (f9_F2 (acalls cfg intr intrI n) n) n (f9_sh2 sett0 it3)) = f9_l2  n n := by funext sett0 it3; exact f9_l2_eq (acalls cfg intr intrI n) n n sett0 it3
    rw [h, e2]; rfl

noncomputable def B10 : Code := (Go.Proofs.Try.f10.body).getD .skip
noncomputable def f10_sh2 (pt0 : den (Y10)) (it3 : den (.int .i64)) : St := ⟨[.s (.val (Y10) pt0), U, U, .s (.val (.int .i64) it3), U, U, U, U, U, U, U, U, U, U, U, U, U, U, U, U, U, U], []⟩
noncomputable def f10_s2    (LS2 : den (Y10) → den (.int .i64) → Option (denR (.one (.bool)))) (pt0 : den (Y10)) (it3 : den (.int .i64)) : Option (denR (.one (.bool))) := (bif (decide (it3 < (pt0.length : Int))) then (bif decide (0 ≤ (IntKind.wrap .i64 (it3 - (1 : Int)))) && decide ((IntKind.wrap .i64 (it3 - (1 : Int))) < (pt0.length : Int)) then (bif decide (0 ≤ it3) && decide (it3 < (pt0.length : Int)) then (bif (decide ((pt0.getD (Int.toNat it3) (dflt (Y6))).1 ≤ (pt0.getD (Int.toNat (IntKind.wrap .i64 (it3 - (1 : Int)))) (dflt (Y6))).1)) then some false else LS2 pt0 (IntKind.wrap .i64 (it3 + (1 : Int)))) else none) else none) else some true)
noncomputable def f10_l2  (n : Nat)  : Nat → den (Y10) → den (.int .i64) → Option (denR (.one (.bool)))
  | 0, _, _ => none
  | m + 1, pt0, it3 => f10_s2    (fun (pt0 : den (Y10)) (it3 : den (.int .i64)) => f10_l2  n  m pt0 it3) pt0 it3
noncomputable def f10_F2 (call : Call0) (n : Nat)  : (St → Option (denR (.one (.bool)))) → St → Option (denR (.one (.bool))) := fun rec => exec cfg call n 10 (cat B10 [1, 0, 1, 0, 0]) (kLoop rec (lk2 10 2 cfg.keep) (kBlock 0 (kSq (exec cfg call n 10 (cat B10 [1, 1])) (kret cfg Go.Proofs.Try.f10 (.one (.bool))))))
theorem f10_l2_eq (call : Call0) (n : Nat)  : ∀ (m : Nat) (pt0 : den (Y10)) (it3 : den (.int .i64)), loopN (f10_F2 call n ) m (f10_sh2 pt0 it3) = f10_l2  n  m pt0 it3 := by
  intro m
  induction m with
  | zero => intros; rfl
  | succ m ih =>
    intro pt0 it3
    have h : loopN (f10_F2 call n ) (m + 1) (f10_sh2 pt0 it3) = f10_s2    (fun (pt0 : den (Y10)) (it3 : den (.int .i64)) => loopN (f10_F2 call n ) m (f10_sh2 pt0 it3)) pt0 it3 := by kernel_rfl
    have e0 : (fun (pt0 : den (Y10)) (it3 : den (.int .i64)) => loopN (f10_F2 call n ) m (f10_sh2 pt0 it3)) = (fun (pt0 : den (Y10)) (it3 : den (.int .i64)) => f10_l2  n  m pt0 it3) := by funext pt0 it3; exact ih pt0 it3
    rw [h, e0]; rfl
noncomputable def f10_top  (LL2 : den (Y10) → den (.int .i64) → Option (denR (.one (.bool)))) (a0 : den (Y10)) : Option (denR (.one (.bool))) := LL2 a0 (1 : Int)
noncomputable def f10 : Nat → den (Y10) → Option (denR (.one (.bool)))
  | 0, _ => none
  | n + 1, a0 => f10_top  (f10_l2  n n) a0
theorem f10_eq (n : Nat) (a0 : den (Y10)) : (acalls cfg intr intrI n).p 10 [.s (.val (Y10) a0)] (.one (.bool)) = f10 n a0 := by
  cases n with
  | zero => rfl
  | succ n =>
    have h : (acalls cfg intr intrI (n + 1)).p 10 [.s (.val (Y10) a0)] (.one (.bool)) = f10_top  (fun (pt0 : den (Y10)) (it3 : den (.int .i64)) => loopN (f10_F2 (acalls cfg intr intrI n) n) n (f10_sh2 pt0 it3)) a0 := by kernel_rfl
    have e2 : (fun (pt0 : den (Y10)) (it3 : den (.int .i64)) => loopN (f10_F2 (acalls cfg intr intrI n) n) n (f10_sh2 pt0 it3)) = f10_l2  n n := by funext pt0 it3; exact f10_l2_eq (acalls cfg intr intrI n) n n pt0 it3
    rw [h, e2]; rfl

noncomputable def f3_top (C_f8 : den (Y10) → den (Y9) → Option (denR (.one (.bool)))) (C_f11 : Option (denR (.one (.bool)))) (C_f9 : den (Y8) → Option (denR (.one (.bool)))) (C_f10 : den (Y10) → Option (denR (.one (.bool)))) (C_f13 : den (Y8) → den (Y10) → Option (denR (.one (Y8)))) (C_f14 : den (Y8) → den (Y10) → Option (denR (.one (Y10)))) (C_f12 : den (Y8) → den (Y8) → Option (denR (.one (.bool)))) (C_f15 : den (Y8) → den (Y8) → Option (denR (.one (Y10)))) (C_f16 : den (Y10) → den (Y10) → Option (denR (.one (.bool))))  (a0 : den (Y8)) (a1 : den (Y8)) (a2 : den (Y10)) : Option (denR (.one (.bool))) := ((C_f8 a2 ([a0, a1] : den (Y9))).bind fun r1 => (bif r1 then ((C_f11).bind fun r2 => some r2) else ((C_f9 a0).bind fun r3 => (bif (!r3) then ((C_f11).bind fun r4 => some r4) else ((C_f9 a1).bind fun r5 => (bif (!r5) then ((C_f11).bind fun r6 => some r6) else ((C_f10 a2).bind fun r7 => (bif (!r7) then ((C_f11).bind fun r8 => some r8) else ((C_f13 a0 a2).bind fun r9 => ((C_f14 a0 a2).bind fun r10 => ((C_f13 r9 r10).bind fun r11 => ((C_f12 r11 a0).bind fun r12 => (bif (!r12) then some false else ((C_f15 a0 a1).bind fun r13 => ((C_f13 a0 r13).bind fun r14 => ((C_f12 r14 a1).bind fun r15 => (bif (!r15) then some false else ((C_f15 a0 a0).bind fun r16 => (bif ((!decide ((r16.length : Int) = (0 : Int)))) then some false else ((C_f15 a0 a1).bind fun r17 => ((C_f14 a0 r17).bind fun r18 => ((C_f15 a1 a0).bind fun r19 => ((C_f16 r18 r19).bind fun r20 => (bif r20 then ((C_f11).bind fun r21 => some r21) else some false))))))))))))))))))))))))
noncomputable def f3 : Nat → den (Y8) → den (Y8) → den (Y10) → Option (denR (.one (.bool)))
  | 0, _, _, _ => none
  | n + 1, a0, a1, a2 => f3_top (f8 n) (f11 n) (f9 n) (f10 n) (f13 n) (f14 n) (f12 n) (f15 n) (f16 n)  a0 a1 a2
theorem f3_eq (n : Nat) (a0 : den (Y8)) (a1 : den (Y8)) (a2 : den (Y10)) : (acalls cfg intr intrI n).p 3 [.s (.val (Y8) a0), .s (.val (Y8) a1), .s (.val (Y10) a2)] (.one (.bool)) = f3 n a0 a1 a2 := by
  cases n with
  | zero => rfl
  | succ n =>
    have h : (acalls cfg intr intrI (n + 1)).p 3 [.s (.val (Y8) a0), .s (.val (Y8) a1), .s (.val (Y10) a2)] (.one (.bool)) = f3_top (fun (a0 : den (Y10)) (a1 : den (Y9)) => (acalls cfg intr intrI n).p 8 [.s (.val (Y10) a0), .s (.val (Y9) a1)] (.one (.bool))) ((acalls cfg intr intrI n).p 11 [] (.one (.bool))) (fun (a0 : den (Y8)) => (acalls cfg intr intrI n).p 9 [.s (.val (Y8) a0)] (.one (.bool))) (fun (a0 : den (Y10)) => (acalls cfg intr intrI n).p 10 [.s (.val (Y10) a0)] (.one (.bool))) (fun (a0 : den (Y8)) (a1 : den (Y10)) => (acalls cfg intr intrI n).p 13 [.s (.val (Y8) a0), .s (.val (Y10) a1)] (.one (Y8))) (fun (a0 : den (Y8)) (a1 : den (Y10)) => (acalls cfg intr intrI n).p 14 [.s (.val (Y8) a0), .s (.val (Y10) a1)] (.one (Y10))) (fun (a0 : den (Y8)) (a1 : den (Y8)) => (acalls cfg intr intrI n).p 12 [.s (.val (Y8) a0), .s (.val (Y8) a1)] (.one (.bool))) (fun (a0 : den (Y8)) (a1 : den (Y8)) => (acalls cfg intr intrI n).p 15 [.s (.val (Y8) a0), .s (.val (Y8) a1)] (.one (Y10))) (fun (a0 : den (Y10)) (a1 : den (Y10)) => (acalls cfg intr intrI n).p 16 [.s (.val (Y10) a0), .s (.val (Y10) a1)] (.one (.bool)))  a0 a1 a2 := by kernel_rfl
    have c_f8 : (fun (a0 : den (Y10)) (a1 : den (Y9)) => (acalls cfg intr intrI n).p 8 [.s (.val (Y10) a0), .s (.val (Y9) a1)] (.one (.bool))) = f8 n := by funext a0 a1; exact f8_eq n a0 a1
    have c_f11 : ((acalls cfg intr intrI n).p 11 [] (.one (.bool))) = f11 n := f11_eq n
    have c_f9 : (fun (a0 : den (Y8)) => (acalls cfg intr intrI n).p 9 [.s (.val (Y8) a0)] (.one (.bool))) = f9 n := by funext a0; exact f9_eq n a0
    have c_f10 : (fun (a0 : den (Y10)) => (acalls cfg intr intrI n).p 10 [.s (.val (Y10) a0)] (.one (.bool))) = f10 n := by funext a0; exact f10_eq n a0
    have c_f13 : (fun (a0 : den (Y8)) (a1 : den (Y10)) => (acalls cfg intr intrI n).p 13 [.s (.val (Y8) a0), .s (.val (Y10) a1)] (.one (Y8))) = f13 n := by funext a0 a1; exact f13_eq n a0 a1
    have c_f14 : (fun (a0 : den (Y8)) (a1 : den (Y10)) => (acalls cfg intr intrI n).p 14 [.s (.val (Y8) a0), .s (.val (Y10) a1)] (.one (Y10))) = f14 n := by funext a0 a1; exact f14_eq n a0 a1
    have c_f12 : (fun (a0 : den (Y8)) (a1 : den (Y8)) => (acalls cfg intr intrI n).p 12 [.s (.val (Y8) a0), .s (.val (Y8) a1)] (.one (.bool))) = f12 n := by funext a0 a1; exact f12_eq n a0 a1
    have c_f15 : (fun (a0 : den (Y8)) (a1 : den (Y8)) => (acalls cfg intr intrI n).p 15 [.s (.val (Y8) a0), .s (.val (Y8) a1)] (.one (Y10))) = f15 n := by funext a0 a1; exact f15_eq n a0 a1
    have c_f16 : (fun (a0 : den (Y10)) (a1 : den (Y10)) => (acalls cfg intr intrI n).p 16 [.s (.val (Y10) a0), .s (.val (Y10) a1)] (.one (.bool))) = f16 n := by funext a0 a1; exact f16_eq n a0 a1
    rw [h, c_f8, c_f11, c_f9, c_f10, c_f13, c_f14, c_f12, c_f15, c_f16]; rfl

noncomputable def B17 : Code := (Go.Proofs.Try.f17.body).getD .skip
noncomputable def f17_sh6 (pt0 : den (Y10)) (it6 : den (.int .i64)) (t9 : den (Y10)) (t10 : den (.int .i64)) (t11 : den (.int .i64)) (outo5 : den (Y10)) (co8 : den (Y6)) : St := ⟨[.s (.val (Y10) pt0), U, U, U, U, .s (.arr 5), .s (.val (.int .i64) it6), U, .s (.ref 8 []), .s (.val (Y10) t9), .s (.val (.int .i64) t10), .s (.val (.int .i64) t11), U, U, U, U, U, U, U, U, U, U, U, U, U, U, U, U, U, U, U, U, U, U, U, U, U, U, U, U, U, U, U, U, U, U, U, U, U, U, U, U, U, U, U, U], [(5, .arr 40 (Y6) outo5), (8, .box (Y6) co8)]⟩
noncomputable def f17_sh4 (pt0 : den (Y10)) (it6 : den (.int .i64)) (t9 : den (Y10)) (t10 : den (.int .i64)) (t11 : den (.int .i64)) (outo5 : den (Y10)) : St := ⟨[.s (.val (Y10) pt0), U, U, U, U, .s (.arr 5), .s (.val (.int .i64) it6), U, U, .s (.val (Y10) t9), .s (.val (.int .i64) t10), .s (.val (.int .i64) t11), U, U, U, U, U, U, U, U, U, U, U, U, U, U, U, U, U, U, U, U, U, U, U, U, U, U, U, U, U, U, U, U, U, U, U, U, U, U, U, U, U, U, U, U], [(5, .arr 40 (Y6) outo5)]⟩
noncomputable def f17_s6   (LS4 : den (Y10) → den (.int .i64) → den (Y10) → den (.int .i64) → den (.int .i64) → den (Y10) → Option (denR (.one (Y10)))) (LS6 : den (Y10) → den (.int .i64) → den (Y10) → den (.int .i64) → den (.int .i64) → den (Y10) → den (Y6) → Option (denR (.one (Y10)))) (pt0 : den (Y10)) (it6 : den (.int .i64)) (t9 : den (Y10)) (t10 : den (.int .i64)) (t11 : den (.int .i64)) (outo5 : den (Y10)) (co8 : den (Y6)) : Option (denR (.one (Y10))) := (bif (decide (it6 < (pt0.length : Int))) then (bif decide (0 ≤ it6) && decide (it6 < (pt0.length : Int)) then (bif (decide ((pt0.getD (Int.toNat it6) (dflt (Y6))).1 ≤ co8.1)) then (bif decide (0 ≤ it6) && decide (it6 < (pt0.length : Int)) then (bif (decide ((pt0.getD (Int.toNat it6) (dflt (Y6))).1 < co8.1)) then (bif decide (0 ≤ it6) && decide (it6 < (pt0.length : Int)) then (bif decide ((outo5.length + ([(pt0.getD (Int.toNat it6) (dflt (Y6)))] : List (den (Y6))).length) * 56 ≤ 140737488355328) then LS6 pt0 (IntKind.wrap .i64 (it6 + (1 : Int))) t9 t10 t11 (outo5 ++ ([(pt0.getD (Int.toNat it6) (dflt (Y6)))] : List (den (Y6)))) co8 else none) else none) else LS6 pt0 (IntKind.wrap .i64 (it6 + (1 : Int))) t9 t10 t11 outo5 co8) else none) else (bif decide ((outo5.length + ([co8] : List (den (Y6))).length) * 56 ≤ 140737488355328) then LS4 pt0 it6 t9 t10 (IntKind.wrap .i64 (t11 + (1 : Int))) (outo5 ++ ([co8] : List (den (Y6)))) else none)) else none) else (bif decide ((outo5.length + ([co8] : List (den (Y6))).length) * 56 ≤ 140737488355328) then LS4 pt0 it6 t9 t10 (IntKind.wrap .i64 (t11 + (1 : Int))) (outo5 ++ ([co8] : List (den (Y6)))) else none))
noncomputable def f17_l6  (n : Nat) (LS4 : den (Y10) → den (.int .i64) → den (Y10) → den (.int .i64) → den (.int .i64) → den (Y10) → Option (denR (.one (Y10)))) : Nat → den (Y10) → den (.int .i64) → den (Y10) → den (.int .i64) → den (.int .i64) → den (Y10) → den (Y6) → Option (denR (.one (Y10)))
  | 0, _, _, _, _, _, _, _ => none
  | m + 1, pt0, it6, t9, t10, t11, outo5, co8 => f17_s6   LS4 (fun (pt0 : den (Y10)) (it6 : den (.int .i64)) (t9 : den (Y10)) (t10 : den (.int .i64)) (t11 : den (.int .i64)) (outo5 : den (Y10)) (co8 : den (Y6)) => f17_l6  n LS4 m pt0 it6 t9 t10 t11 outo5 co8) pt0 it6 t9 t10 t11 outo5 co8
noncomputable def f17_F6 (call : Call0) (n : Nat) (r4 : St → Option (denR (.one (Y10)))) : (St → Option (denR (.one (Y10)))) → St → Option (denR (.one (Y10))) := fun rec => exec cfg call n 17 (cat B17 [1, 1, 1, 0, 1, 0, 0, 1, 1, 0, 0, 1, 0, 0, 0]) (kLoop rec (lk2 17 6 cfg.keep) (kBlock 2 (kSq (exec cfg call n 17 (cat B17 [1, 1, 1, 0, 1, 0, 0, 1, 1, 0, 0, 1, 1])) (kBlock 1 (kSq (exec cfg call n 17 (cat B17 [1, 1, 1, 0, 1, 0, 0, 1, 1, 1])) (kLoop r4 (lk2 17 4 cfg.keep) (kBlock 0 (kSq (exec cfg call n 17 (cat B17 [1, 1, 1, 1])) (kret cfg Go.Proofs.Try.f17 (.one (Y10)))))))))))
theorem f17_l6_eq (call : Call0) (n : Nat) (r4 : St → Option (denR (.one (Y10)))) : ∀ (m : Nat) (pt0 : den (Y10)) (it6 : den (.int .i64)) (t9 : den (Y10)) (t10 : den (.int .i64)) (t11 : den (.int .i64)) (outo5 : den (Y10)) (co8 : den (Y6)), loopN (f17_F6 call n r4) m (f17_sh6 pt0 it6 t9 t10 t11 outo5 co8) = f17_l6  n (fun (pt0 : den (Y10)) (it6 : den (.int .i64)) (t9 : den (Y10)) (t10 : den (.int .i64)) (t11 : den (.int .i64)) (outo5 : den (Y10)) => r4 (f17_sh4 pt0 it6 t9 t10 t11 outo5)) m pt0 it6 t9 t10 t11 outo5 co8 := by
  intro m
  induction m with
  | zero => intros; rfl
  | succ m ih =>
    intro pt0 it6 t9 t10 t11 outo5 co8
    have h : loopN (f17_F6 call n r4) (m + 1) (f17_sh6 pt0 it6 t9 t10 t11 outo5 co8) = f17_s6   (fun (pt0 : den (Y10)) (it6 : den (.int .i64)) (t9 : den (Y10)) (t10 : den (.int .i64)) (t11 : den (.int .i64)) (outo5 : den (Y10)) => r4 (f17_sh4 pt0 it6 t9 t10 t11 outo5)) (fun (pt0 : den (Y10)) (it6 : den (.int .i64)) (t9 : den (Y10)) (t10 : den (.int .i64)) (t11 : den (.int .i64)) (outo5 : den (Y10)) (co8 : den (Y6)) => loopN (f17_F6 call n r4) m (f17_sh6 pt0 it6 t9 t10 t11 outo5 co8)) pt0 it6 t9 t10 t11 outo5 co8 := by kernel_rfl
    have e0 : (fun (pt0 : den (Y10)) (it6 : den (.int .i64)) (t9 : den (Y10)) (t10 : den (.int .i64)) (t11 : den (.int .i64)) (outo5 : den (Y10)) (co8 : den (Y6)) => loopN (f17_F6 call n r4) m (f17_sh6 pt0 it6 t9 t10 t11 outo5 co8)) = (fun (pt0 : den (Y10)) (it6 : den (.int .i64)) (t9 : den (Y10)) (t10 : den (.int .i64)) (t11 : den (.int .i64)) (outo5 : den (Y10)) (co8 : den (Y6)) => f17_l6  n (fun (pt0 : den (Y10)) (it6 : den (.int .i64)) (t9 : den (Y10)) (t10 : den (.int .i64)) (t11 : den (.int .i64)) (outo5 : den (Y10)) => r4 (f17_sh4 pt0 it6 t9 t10 t11 outo5)) m pt0 it6 t9 t10 t11 outo5 co8) := by funext pt0 it6 t9 t10 t11 outo5 co8; exact ih pt0 it6 t9 t10 t11 outo5 co8
    rw [h, e0]; rfl
noncomputable def f17_s4  (LL6 : den (Y10) → den (.int .i64) → den (Y10) → den (.int .i64) → den (.int .i64) → den (Y10) → den (Y6) → Option (denR (.one (Y10))))  (LS4 : den (Y10) → den (.int .i64) → den (Y10) → den (.int .i64) → den (.int .i64) → den (Y10) → Option (denR (.one (Y10)))) (pt0 : den (Y10)) (it6 : den (.int .i64)) (t9 : den (Y10)) (t10 : den (.int .i64)) (t11 : den (.int .i64)) (outo5 : den (Y10)) : Option (denR (.one (Y10))) := (bif (decide (t11 < t10)) then (bif decide (0 ≤ t11) && decide (t11 < (t9.length : Int)) then LL6 pt0 it6 t9 t10 t11 outo5 (t9.getD (Int.toNat t11) (dflt (Y6))) else none) else (bif decide (0 ≤ it6) && decide (it6 ≤ (pt0.length : Int)) && decide ((pt0.length : Int) ≤ (pt0.length : Int)) then (bif decide ((outo5.length + (pt0.drop (Int.toNat it6)).length) * 56 ≤ 140737488355328) then some (outo5 ++ (pt0.drop (Int.toNat it6))) else none) else none))
noncomputable def f17_l4  (n : Nat)  : Nat → den (Y10) → den (.int .i64) → den (Y10) → den (.int .i64) → den (.int .i64) → den (Y10) → Option (denR (.one (Y10)))
  | 0, _, _, _, _, _, _ => none
  | m + 1, pt0, it6, t9, t10, t11, outo5 => f17_s4  (f17_l6  n (fun (pt0 : den (Y10)) (it6 : den (.int .i64)) (t9 : den (Y10)) (t10 : den (.int .i64)) (t11 : den (.int .i64)) (outo5 : den (Y10)) => f17_l4  n  m pt0 it6 t9 t10 t11 outo5) n)  (fun (pt0 : den (Y10)) (it6 : den (.int .i64)) (t9 : den (Y10)) (t10 : den (.int .i64)) (t11 : den (.int .i64)) (outo5 : den (Y10)) => f17_l4  n  m pt0 it6 t9 t10 t11 outo5) pt0 it6 t9 t10 t11 outo5
noncomputable def f17_F4 (call : Call0) (n : Nat)  : (St → Option (denR (.one (Y10)))) → St → Option (denR (.one (Y10))) := fun rec => exec cfg call n 17 (cat B17 [1, 1, 1, 0, 1, 0, 0]) (kLoop rec (lk2 17 4 cfg.keep) (kBlock 0 (kSq (exec cfg call n 17 (cat B17 [1, 1, 1, 1])) (kret cfg Go.Proofs.Try.f17 (.one (Y10))))))
theorem f17_l4_eq (call : Call0) (n : Nat)  : ∀ (m : Nat) (pt0 : den (Y10)) (it6 : den (.int .i64)) (t9 : den (Y10)) (t10 : den (.int .i64)) (t11 : den (.int .i64)) (outo5 : den (Y10)), loopN (f17_F4 call n ) m (f17_sh4 pt0 it6 t9 t10 t11 outo5) = f17_l4  n  m pt0 it6 t9 t10 t11 outo5 := by
  intro m
  induction m with
  | zero => intros; rfl
  | succ m ih =>
    intro pt0 it6 t9 t10 t11 outo5
    have h : loopN (f17_F4 call n ) (m + 1) (f17_sh4 pt0 it6 t9 t10 t11 outo5) = f17_s4  (fun (pt0 : den (Y10)) (it6 : den (.int .i64)) (t9 : den (Y10)) (t10 : den (.int .i64)) (t11 : den (.int .i64)) (outo5 : den (Y10)) (co8 : den (Y6)) => loopN (f17_F6 call n (loopN (f17_F4 call n ) m)) n (f17_sh6 pt0 it6 t9 t10 t11 outo5 co8))  (fun (pt0 : den (Y10)) (it6 : den (.int .i64)) (t9 : den (Y10)) (t10 : den (.int .i64)) (t11 : den (.int .i64)) (outo5 : den (Y10)) => loopN (f17_F4 call n ) m (f17_sh4 pt0 it6 t9 t10 t11 outo5)) pt0 it6 t9 t10 t11 outo5 := by kernel_rfl
    have e6 : (fun (pt0 : den (Y10)) (it6 : den (.int .i64)) (t9 : den (Y10)) (t10 : den (.int .i64)) (t11 : den (.int .i64)) (outo5 : den (Y10)) (co8 : den (Y6)) => loopN (f17_F6 call n (loopN (f17_F4 call n ) m)) n (f17_sh6 pt0 it6 t9 t10 t11 outo5 co8)) = f17_l6  n (fun (pt0 : den (Y10)) (it6 : den (.int .i64)) (t9 : den (Y10)) (t10 : den (.int .i64)) (t11 : den (.int .i64)) (outo5 : den (Y10)) => (loopN (f17_F4 call n ) m) (f17_sh4 pt0 it6 t9 t10 t11 outo5)) n := by funext pt0 it6 t9 t10 t11 outo5 co8; exact f17_l6_eq call n (loopN (f17_F4 call n ) m) n pt0 it6 t9 t10 t11 outo5 co8
    have e0 : (fun (pt0 : den (Y10)) (it6 : den (.int .i64)) (t9 : den (Y10)) (t10 : den (.int .i64)) (t11 : den (.int .i64)) (outo5 : den (Y10)) => loopN (f17_F4 call n ) m (f17_sh4 pt0 it6 t9 t10 t11 outo5)) = (fun (pt0 : den (Y10)) (it6 : den (.int .i64)) (t9 : den (Y10)) (t10 : den (.int .i64)) (t11 : den (.int .i64)) (outo5 : den (Y10)) => f17_l4  n  m pt0 it6 t9 t10 t11 outo5) := by funext pt0 it6 t9 t10 t11 outo5; exact ih pt0 it6 t9 t10 t11 outo5
    rw [h, e6, e0]; rfl
noncomputable def f17_top  (LL4 : den (Y10) → den (.int .i64) → den (Y10) → den (.int .i64) → den (.int .i64) → den (Y10) → Option (denR (.one (Y10)))) (a0 : den (Y10)) (a1 : den (Y10)) : Option (denR (.one (Y10))) := LL4 a0 (0 : Int) a1 (a1.length : Int) (0 : Int) []
noncomputable def f17 : Nat → den (Y10) → den (Y10) → Option (denR (.one (Y10)))
  | 0, _, _ => none
  | n + 1, a0, a1 => f17_top  (f17_l4  n n) a0 a1
theorem f17_eq (n : Nat) (a0 : den (Y10)) (a1 : den (Y10)) : (acalls cfg intr intrI n).p 17 [.s (.val (Y10) a0), .s (.val (Y10) a1)] (.one (Y10)) = f17 n a0 a1 := by
  cases n with
  | zero => rfl
  | succ n =>
    have h : (acalls cfg intr intrI (n + 1)).p 17 [.s (.val (Y10) a0), .s (.val (Y10) a1)] (.one (Y10)) = f17_top  (fun (pt0 : den (Y10)) (it6 : den (.int .i64)) (t9 : den (Y10)) (t10 : den (.int .i64)) (t11 : den (.int .i64)) (outo5 : den (Y10)) => loopN (f17_F4 (acalls cfg intr intrI n) n) n (f17_sh4 pt0 it6 t9 t10 t11 outo5)) a0 a1 := by kernel_rfl
    have e4 : (fun (pt0 : den (Y10)) (it6 : den (.int .i64)) (t9 : den (Y10)) (t10 : den (.int .i64)) (t11 : den (.int .i64)) (outo5 : den (Y10)) => loopN (f17_F4 (acalls cfg intr intrI n) n) n (f17_sh4 pt0 it6 t9 t10 t11 outo5)) = f17_l4  n n := by funext pt0 it6 t9 t10 t11 outo5; exact f17_l4_eq (acalls cfg intr intrI n) n n pt0 it6 t9 t10 t11 outo5
    rw [h, e4]; rfl

noncomputable def f4_top (C_f8 : den (Y10) → den (Y9) → Option (denR (.one (.bool)))) (C_f11 : Option (denR (.one (.bool)))) (C_f9 : den (Y8) → Option (denR (.one (.bool)))) (C_f10 : den (Y10) → Option (denR (.one (.bool)))) (C_f13 : den (Y8) → den (Y10) → Option (denR (.one (Y8)))) (C_f17 : den (Y10) → den (Y10) → Option (denR (.one (Y10)))) (C_f12 : den (Y8) → den (Y8) → Option (denR (.one (.bool)))) (C_f16 : den (Y10) → den (Y10) → Option (denR (.one (.bool))))  (a0 : den (Y8)) (a1 : den (Y10)) (a2 : den (Y10)) (a3 : den (Y10)) : Option (denR (.one (.bool))) := ((C_f8 a1 ([a0] : den (Y9))).bind fun r1 => (bif r1 then ((C_f11).bind fun r2 => some r2) else ((C_f8 a2 ([] : den (Y9))).bind fun r3 => (bif r3 then ((C_f11).bind fun r4 => some r4) else ((C_f8 a3 ([] : den (Y9))).bind fun r5 => (bif r5 then ((C_f11).bind fun r6 => some r6) else ((C_f9 a0).bind fun r7 => (bif (!r7) then ((C_f11).bind fun r8 => some r8) else ((C_f10 a1).bind fun r9 => (bif (!r9) then ((C_f11).bind fun r10 => some r10) else ((C_f10 a2).bind fun r11 => (bif (!r11) then ((C_f11).bind fun r12 => some r12) else ((C_f10 a3).bind fun r13 => (bif (!r13) then ((C_f11).bind fun r14 => some r14) else ((C_f13 a0 a1).bind fun r15 => ((C_f13 r15 a2).bind fun r16 => ((C_f17 a1 a2).bind fun r17 => ((C_f13 a0 r17).bind fun r18 => ((C_f12 r16 r18).bind fun r19 => (bif (!r19) then some false else ((C_f13 a0 ([] : den (Y10))).bind fun r20 => ((C_f12 r20 a0).bind fun r21 => (bif (!r21) then some false else ((C_f17 a1 a2).bind fun r22 => ((C_f17 r22 a3).bind fun r23 => ((C_f17 a2 a3).bind fun r24 => ((C_f17 a1 r24).bind fun r25 => ((C_f16 r23 r25).bind fun r26 => (bif r26 then ((C_f17 a1 ([] : den (Y10))).bind fun r27 => ((C_f16 r27 a1).bind fun r28 => (bif r28 then ((C_f17 ([] : den (Y10)) a1).bind fun r29 => ((C_f16 r29 a1).bind fun r30 => (bif r30 then ((C_f11).bind fun r31 => some r31) else some false))) else some false))) else some false)))))))))))))))))))))))))))))
noncomputable def f4 : Nat → den (Y8) → den (Y10) → den (Y10) → den (Y10) → Option (denR (.one (.bool)))
  | 0, _, _, _, _ => none
  | n + 1, a0, a1, a2, a3 => f4_top (f8 n) (f11 n) (f9 n) (f10 n) (f13 n) (f17 n) (f12 n) (f16 n)  a0 a1 a2 a3
theorem f4_eq (n : Nat) (a0 : den (Y8)) (a1 : den (Y10)) (a2 : den (Y10)) (a3 : den (Y10)) : (acalls cfg intr intrI n).p 4 [.s (.val (Y8) a0), .s (.val (Y10) a1), .s (.val (Y10) a2), .s (.val (Y10) a3)] (.one (.bool)) = f4 n a0 a1 a2 a3 := by
  cases n with
  | zero => rfl
  | succ n =>
    have h : (acalls cfg intr intrI (n + 1)).p 4 [.s (.val (Y8) a0), .s (.val (Y10) a1), .s (.val (Y10) a2), .s (.val (Y10) a3)] (.one (.bool)) = f4_top (fun (a0 : den (Y10)) (a1 : den (Y9)) => (acalls cfg intr intrI n).p 8 [.s (.val (Y10) a0), .s (.val (Y9) a1)] (.one (.bool))) ((acalls cfg intr intrI n).p 11 [] (.one (.bool))) (fun (a0 : den (Y8)) => (acalls cfg intr intrI n).p 9 [.s (.val (Y8) a0)] (.one (.bool))) (fun (a0 : den (Y10)) => (acalls cfg intr intrI n).p 10 [.s (.val (Y10) a0)] (.one (.bool))) (fun (a0 : den (Y8)) (a1 : den (Y10)) => (acalls cfg intr intrI n).p 13 [.s (.val (Y8) a0), .s (.val (Y10) a1)] (.one (Y8))) (fun (a0 : den (Y10)) (a1 : den (Y10)) => (acalls cfg intr intrI n).p 17 [.s (.val (Y10) a0), .s (.val (Y10) a1)] (.one (Y10))) (fun (a0 : den (Y8)) (a1 : den (Y8)) => (acalls cfg intr intrI n).p 12 [.s (.val (Y8) a0), .s (.val (Y8) a1)] (.one (.bool))) (fun (a0 : den (Y10)) (a1 : den (Y10)) => (acalls cfg intr intrI n).p 16 [.s (.val (Y10) a0), .s (.val (Y10) a1)] (.one (.bool)))  a0 a1 a2 a3 := by kernel_rfl
    have c_f8 : (fun (a0 : den (Y10)) (a1 : den (Y9)) => (acalls cfg intr intrI n).p 8 [.s (.val (Y10) a0), .s (.val (Y9) a1)] (.one (.bool))) = f8 n := by funext a0 a1; exact f8_eq n a0 a1
    have c_f11 : ((acalls cfg intr intrI n).p 11 [] (.one (.bool))) = f11 n := f11_eq n
    have c_f9 : (fun (a0 : den (Y8)) => (acalls cfg intr intrI n).p 9 [.s (.val (Y8) a0)] (.one (.bool))) = f9 n := by funext a0; exact f9_eq n a0
    have c_f10 : (fun (a0 : den (Y10)) => (acalls cfg intr intrI n).p 10 [.s (.val (Y10) a0)] (.one (.bool))) = f10 n := by funext a0; exact f10_eq n a0
    have c_f13 : (fun (a0 : den (Y8)) (a1 : den (Y10)) => (acalls cfg intr intrI n).p 13 [.s (.val (Y8) a0), .s (.val (Y10) a1)] (.one (Y8))) = f13 n := by funext a0 a1; exact f13_eq n a0 a1
    have c_f17 : (fun (a0 : den (Y10)) (a1 : den (Y10)) => (acalls cfg intr intrI n).p 17 [.s (.val (Y10) a0), .s (.val (Y10) a1)] (.one (Y10))) = f17 n := by funext a0 a1; exact f17_eq n a0 a1
    have c_f12 : (fun (a0 : den (Y8)) (a1 : den (Y8)) => (acalls cfg intr intrI n).p 12 [.s (.val (Y8) a0), .s (.val (Y8) a1)] (.one (.bool))) = f12 n := by funext a0 a1; exact f12_eq n a0 a1
    have c_f16 : (fun (a0 : den (Y10)) (a1 : den (Y10)) => (acalls cfg intr intrI n).p 16 [.s (.val (Y10) a0), .s (.val (Y10) a1)] (.one (.bool))) = f16 n := by funext a0 a1; exact f16_eq n a0 a1
    rw [h, c_f8, c_f11, c_f9, c_f10, c_f13, c_f17, c_f12, c_f16]; rfl

noncomputable def f31 : Nat → den (Y10) → Option (denS (⟨.row 40 (Y6), []⟩ : Sig))
  | 0, _ => none
  | n + 1, a0 => bif decide ((0 + a0.length) * 56 ≤ 140737488355328) then some (a0, ()) else none
theorem f31_eq (n : Nat) (a0 : den (Y10)) : (acalls cfg intr intrI n).i 31 [.s (.val (Y10) a0)] [] (⟨.row 40 (Y6), []⟩ : Sig) = f31 n a0 := by
  cases n with
  | zero => rfl
  | succ n => kernel_rfl

noncomputable def f34_top   (a0 : den (Y6)) (a1 : den (Y6)) : Option (denR (.one (.bool))) := some (decide (a0.1 = a1.1))
noncomputable def f34 : Nat → den (Y6) → den (Y6) → Option (denR (.one (.bool)))
  | 0, _, _ => none
  | n + 1, a0, a1 => f34_top   a0 a1
theorem f34_eq (n : Nat) (a0 : den (Y6)) (a1 : den (Y6)) : (acalls cfg intr intrI n).p 34 [.s (.val (Y6) a0), .s (.eptr (Y6) a1)] (.one (.bool)) = f34 n a0 a1 := by
  cases n with
  | zero => rfl
  | succ n =>
    have h : (acalls cfg intr intrI (n + 1)).p 34 [.s (.val (Y6) a0), .s (.eptr (Y6) a1)] (.one (.bool)) = f34_top   a0 a1 := by kernel_rfl
    rw [h]; rfl

noncomputable def B41 : Code := (Go.Proofs.Try.f41.body).getD .skip
noncomputable def f41v1_sh2 (st0 : den (Y10)) (ft1_0 : den (Y6)) (t7 : den (.int .i64)) (t8 : den (.int .i64)) : St := ⟨[.s (.val (Y10) st0), .fn 34 [.eptr (Y6) ft1_0], U, U, U, U, U, .s (.val (.int .i64) t7), .s (.val (.int .i64) t8), U, U, U, U, U, U, U, U, U, U], []⟩
noncomputable def f41v1_s2 (C_f34 : den (Y6) → den (Y6) → Option (denR (.one (.bool))))   (LS2 : den (Y10) → den (Y6) → den (.int .i64) → den (.int .i64) → Option (denR (.one (.int .i64)))) (st0 : den (Y10)) (ft1_0 : den (Y6)) (t7 : den (.int .i64)) (t8 : den (.int .i64)) : Option (denR (.one (.int .i64))) := (bif (decide (t8 < t7)) then (bif decide (0 ≤ t8) && decide (t8 < (st0.length : Int)) then ((C_f34 (st0.getD (Int.toNat t8) (dflt (Y6))) ft1_0).bind fun r1 => (bif r1 then some t8 else LS2 st0 ft1_0 t7 (IntKind.wrap .i64 (t8 + (1 : Int))))) else none) else some (-1 : Int))
noncomputable def f41v1_l2 (C_f34 : den (Y6) → den (Y6) → Option (denR (.one (.bool)))) (n : Nat)  : Nat → den (Y10) → den (Y6) → den (.int .i64) → den (.int .i64) → Option (denR (.one (.int .i64)))
  | 0, _, _, _, _ => none
  | m + 1, st0, ft1_0, t7, t8 => f41v1_s2 C_f34   (fun (st0 : den (Y10)) (ft1_0 : den (Y6)) (t7 : den (.int .i64)) (t8 : den (.int .i64)) => f41v1_l2 C_f34 n  m st0 ft1_0 t7 t8) st0 ft1_0 t7 t8
noncomputable def f41v1_F2 (call : Call0) (n : Nat)  : (St → Option (denR (.one (.int .i64)))) → St → Option (denR (.one (.int .i64))) := fun rec => exec cfg call n 41 (cat B41 [1, 0, 1, 0, 0]) (kLoop rec (lk2 41 2 cfg.keep) (kBlock 0 (kSq (exec cfg call n 41 (cat B41 [1, 1])) (kret cfg Go.Proofs.Try.f41 (.one (.int .i64))))))
theorem f41v1_l2_eq (call : Call0) (n : Nat)  : ∀ (m : Nat) (st0 : den (Y10)) (ft1_0 : den (Y6)) (t7 : den (.int .i64)) (t8 : den (.int .i64)), loopN (f41v1_F2 call n ) m (f41v1_sh2 st0 ft1_0 t7 t8) = f41v1_l2 (fun (a0 : den (Y6)) (a1 : den (Y6)) => call.p 34 [.s (.val (Y6) a0), .s (.eptr (Y6) a1)] (.one (.bool))) n  m st0 ft1_0 t7 t8 := by
  intro m
  induction m with
  | zero => intros; rfl
  | succ m ih =>
    intro st0 ft1_0 t7 t8
    have h : loopN (f41v1_F2 call n ) (m + 1) (f41v1_sh2 st0 ft1_0 t7 t8) = f41v1_s2 (fun (a0 : den (Y6)) (a1 : den (Y6)) => call.p 34 [.s (.val (Y6) a0), .s (.eptr (Y6) a1)] (.one (.bool)))   (fun (st0 : den (Y10)) (ft1_0 : den (Y6)) (t7 : den (.int .i64)) (t8 : den (.int .i64)) => loopN (f41v1_F2 call n ) m (f41v1_sh2 st0 ft1_0 t7 t8)) st0 ft1_0 t7 t8 := by kernel_rfl
    have e0 : (fun (st0 : den (Y10)) (ft1_0 : den (Y6)) (t7 : den (.int .i64)) (t8 : den (.int .i64)) => loopN (f41v1_F2 call n ) m (f41v1_sh2 st0 ft1_0 t7 t8)) = (fun (st0 : den (Y10)) (ft1_0 : den (Y6)) (t7 : den (.int .i64)) (t8 : den (.int .i64)) => f41v1_l2 (fun (a0 : den (Y6)) (a1 : den (Y6)) => call.p 34 [.s (.val (Y6) a0), .s (.eptr (Y6) a1)] (.one (.bool))) n  m st0 ft1_0 t7 t8) := by funext st0 ft1_0 t7 t8; exact ih st0 ft1_0 t7 t8
    rw [h, e0]; rfl
noncomputable def f41v1_top (C_f34 : den (Y6) → den (Y6) → Option (denR (.one (.bool)))) (LL2 : den (Y10) → den (Y6) → den (.int .i64) → den (.int .i64) → Option (denR (.one (.int .i64)))) (a0 : den (Y10)) (a1_0 : den (Y6)) : Option (denR (.one (.int .i64))) := LL2 a0 a1_0 (a0.length : Int) (0 : Int)
noncomputable def f41v1 : Nat → den (Y10) → den (Y6) → Option (denR (.one (.int .i64)))
  | 0, _, _ => none
  | n + 1, a0, a1_0 => f41v1_top (f34 n) (f41v1_l2 (f34 n) n n) a0 a1_0
theorem f41v1_eq (n : Nat) (a0 : den (Y10)) (a1_0 : den (Y6)) : (acalls cfg intr intrI n).p 41 [.s (.val (Y10) a0), .fn 34 [.eptr (Y6) a1_0]] (.one (.int .i64)) = f41v1 n a0 a1_0 := by
  cases n with
  | zero => rfl
  | succ n =>
    have h : (acalls cfg intr intrI (n + 1)).p 41 [.s (.val (Y10) a0), .fn 34 [.eptr (Y6) a1_0]] (.one (.int .i64)) = f41v1_top (fun (a0 : den (Y6)) (a1 : den (Y6)) => (acalls cfg intr intrI n).p 34 [.s (.val (Y6) a0), .s (.eptr (Y6) a1)] (.one (.bool))) (fun (st0 : den (Y10)) (ft1_0 : den (Y6)) (t7 : den (.int .i64)) (t8 : den (.int .i64)) => loopN (f41v1_F2 (acalls cfg intr intrI n) n) n (f41v1_sh2 st0 ft1_0 t7 t8)) a0 a1_0 := by kernel_rfl
    have e2 : (fun (st0 : den (Y10)) (ft1_0 : den (Y6)) (t7 : den (.int .i64)) (t8 : den (.int .i64)) => loopN (f41v1_F2 (acalls cfg intr intrI n) n) n (f41v1_sh2 st0 ft1_0 t7 t8)) = f41v1_l2 (fun (a0 : den (Y6)) (a1 : den (Y6)) => (acalls cfg intr intrI n).p 34 [.s (.val (Y6) a0), .s (.eptr (Y6) a1)] (.one (.bool))) n n := by funext st0 ft1_0 t7 t8; exact f41v1_l2_eq (acalls cfg intr intrI n) n n st0 ft1_0 t7 t8
    have c_f34 : (fun (a0 : den (Y6)) (a1 : den (Y6)) => (acalls cfg intr intrI n).p 34 [.s (.val (Y6) a0), .s (.eptr (Y6) a1)] (.one (.bool))) = f34 n := by funext a0 a1; exact f34_eq n a0 a1
    rw [h, e2, c_f34]; rfl

noncomputable def f33_top (C_f41v1 : den (Y10) → den (Y6) → Option (denR (.one (.int .i64))))  (a0 : den (Y10)) (a1_0 : den (Y6)) : Option (denR (.one (.bool))) := ((C_f41v1 a0 a1_0).bind fun r1 => some (decide ((0 : Int) ≤ r1)))
noncomputable def f33 : Nat → den (Y10) → den (Y6) → Option (denR (.one (.bool)))
  | 0, _, _ => none
  | n + 1, a0, a1_0 => f33_top (f41v1 n)  a0 a1_0
theorem f33_eq (n : Nat) (a0 : den (Y10)) (a1_0 : den (Y6)) : (acalls cfg intr intrI n).p 33 [.s (.val (Y10) a0), .fn 34 [.eptr (Y6) a1_0]] (.one (.bool)) = f33 n a0 a1_0 := by
  cases n with
  | zero => rfl
  | succ n =>
    have h : (acalls cfg intr intrI (n + 1)).p 33 [.s (.val (Y10) a0), .fn 34 [.eptr (Y6) a1_0]] (.one (.bool)) = f33_top (fun (a0 : den (Y10)) (a1_0 : den (Y6)) => (acalls cfg intr intrI n).p 41 [.s (.val (Y10) a0), .fn 34 [.eptr (Y6) a1_0]] (.one (.int .i64)))  a0 a1_0 := by kernel_rfl
    have c_f41v1 : (fun (a0 : den (Y10)) (a1_0 : den (Y6)) => (acalls cfg intr intrI n).p 41 [.s (.val (Y10) a0), .fn 34 [.eptr (Y6) a1_0]] (.one (.int .i64))) = f41v1 n := by funext a0 a1_0; exact f41v1_eq n a0 a1_0
    rw [h, c_f41v1]; rfl

noncomputable def f32_top (C_f33 : den (Y10) → den (Y6) → Option (denR (.one (.bool))))  (a0 : den (Y6)) (a1 : den (Y10)) : Option (denR (.one (.bool))) := ((C_f33 a1 a0).bind fun r1 => some r1)
noncomputable def f32 : Nat → den (Y6) → den (Y10) → Option (denR (.one (.bool)))
  | 0, _, _ => none
  | n + 1, a0, a1 => f32_top (f33 n)  a0 a1
theorem f32_eq (n : Nat) (a0 : den (Y6)) (a1 : den (Y10)) : (acalls cfg intr intrI n).p 32 [.s (.val (Y6) a0), .s (.eptr (Y10) a1)] (.one (.bool)) = f32 n a0 a1 := by
  cases n with
  | zero => rfl
  | succ n =>
    have h : (acalls cfg intr intrI (n + 1)).p 32 [.s (.val (Y6) a0), .s (.eptr (Y10) a1)] (.one (.bool)) = f32_top (fun (a0 : den (Y10)) (a1_0 : den (Y6)) => (acalls cfg intr intrI n).p 33 [.s (.val (Y10) a0), .fn 34 [.eptr (Y6) a1_0]] (.one (.bool)))  a0 a1 := by kernel_rfl
    have c_f33 : (fun (a0 : den (Y10)) (a1_0 : den (Y6)) => (acalls cfg intr intrI n).p 33 [.s (.val (Y10) a0), .fn 34 [.eptr (Y6) a1_0]] (.one (.bool))) = f33 n := by funext a0 a1_0; exact f33_eq n a0 a1_0
    rw [h, c_f33]; rfl

noncomputable def f41_sh2 (st0 : den (Y10)) (ft1_0 : den (Y10)) (t7 : den (.int .i64)) (t8 : den (.int .i64)) : St := ⟨[.s (.val (Y10) st0), .fn 32 [.eptr (Y10) ft1_0], U, U, U, U, U, .s (.val (.int .i64) t7), .s (.val (.int .i64) t8), U, U, U, U, U, U, U, U, U, U], []⟩
noncomputable def f41_s2 (C_f32 : den (Y6) → den (Y10) → Option (denR (.one (.bool))))   (LS2 : den (Y10) → den (Y10) → den (.int .i64) → den (.int .i64) → Option (denR (.one (.int .i64)))) (st0 : den (Y10)) (ft1_0 : den (Y10)) (t7 : den (.int .i64)) (t8 : den (.int .i64)) : Option (denR (.one (.int .i64))) := (bif (decide (t8 < t7)) then (bif decide (0 ≤ t8) && decide (t8 < (st0.length : Int)) then ((C_f32 (st0.getD (Int.toNat t8) (dflt (Y6))) ft1_0).bind fun r1 => (bif r1 then some t8 else LS2 st0 ft1_0 t7 (IntKind.wrap .i64 (t8 + (1 : Int))))) else none) else some (-1 : Int))
noncomputable def f41_l2 (C_f32 : den (Y6) → den (Y10) → Option (denR (.one (.bool)))) (n : Nat)  : Nat → den (Y10) → den (Y10) → den (.int .i64) → den (.int .i64) → Option (denR (.one (.int .i64)))
  | 0, _, _, _, _ => none
  | m + 1, st0, ft1_0, t7, t8 => f41_s2 C_f32   (fun (st0 : den (Y10)) (ft1_0 : den (Y10)) (t7 : den (.int .i64)) (t8 : den (.int .i64)) => f41_l2 C_f32 n  m st0 ft1_0 t7 t8) st0 ft1_0 t7 t8
noncomputable def f41_F2 (call : Call0) (n : Nat)  : (St → Option (denR (.one (.int .i64)))) → St → Option (denR (.one (.int .i64))) := fun rec => exec cfg call n 41 (cat B41 [1, 0, 1, 0, 0]) (kLoop rec (lk2 41 2 cfg.keep) (kBlock 0 (kSq (exec cfg call n 41 (cat B41 [1, 1])) (kret cfg Go.Proofs.Try.f41 (.one (.int .i64))))))
theorem f41_l2_eq (call : Call0) (n : Nat)  : ∀ (m : Nat) (st0 : den (Y10)) (ft1_0 : den (Y10)) (t7 : den (.int .i64)) (t8 : den (.int .i64)), loopN (f41_F2 call n ) m (f41_sh2 st0 ft1_0 t7 t8) = f41_l2 (fun (a0 : den (Y6)) (a1 : den (Y10)) => call.p 32 [.s (.val (Y6) a0), .s (.eptr (Y10) a1)] (.one (.bool))) n  m st0 ft1_0 t7 t8 := by
  intro m
  induction m with
  | zero => intros; rfl
  | succ m ih =>
    intro st0 ft1_0 t7 t8
    have h : loopN (f41_F2 call n ) (m + 1) (f41_sh2 st0 ft1_0 t7 t8) = f41_s2 (fun (a0 : den (Y6)) (a1 : den (Y10)) => call.p 32 [.s (.val (Y6) a0), .s (.eptr (Y10) a1)] (.one (.bool)))   (fun (st0 : den (Y10)) (ft1_0 : den (Y10)) (t7 : den (.int .i64)) (t8 : den (.int .i64)) => loopN (f41_F2 call n ) m (f41_sh2 st0 ft1_0 t7 t8)) st0 ft1_0 t7 t8 := by kernel_rfl
    have e0 : (fun (st0 : den (Y10)) (ft1_0 : den (Y10)) (t7 : den (.int .i64)) (t8 : den (.int .i64)) => loopN (f41_F2 call n ) m (f41_sh2 st0 ft1_0 t7 t8)) = (fun (st0 : den (Y10)) (ft1_0 : den (Y10)) (t7 : den (.int .i64)) (t8 : den (.int .i64)) => f41_l2 (fun (a0 : den (Y6)) (a1 : den (Y10)) => call.p 32 [.s (.val (Y6) a0), .s (.eptr (Y10) a1)] (.one (.bool))) n  m st0 ft1_0 t7 t8) := by funext st0 ft1_0 t7 t8; exact ih st0 ft1_0 t7 t8
    rw [h, e0]; rfl
noncomputable def f41_top (C_f32 : den (Y6) → den (Y10) → Option (denR (.one (.bool)))) (LL2 : den (Y10) → den (Y10) → den (.int .i64) → den (.int .i64) → Option (denR (.one (.int .i64)))) (a0 : den (Y10)) (a1_0 : den (Y10)) : Option (denR (.one (.int .i64))) := LL2 a0 a1_0 (a0.length : Int) (0 : Int)
noncomputable def f41 : Nat → den (Y10) → den (Y10) → Option (denR (.one (.int .i64)))
  | 0, _, _ => none
  | n + 1, a0, a1_0 => f41_top (f32 n) (f41_l2 (f32 n) n n) a0 a1_0
theorem f41_eq (n : Nat) (a0 : den (Y10)) (a1_0 : den (Y10)) : (acalls cfg intr intrI n).p 41 [.s (.val (Y10) a0), .fn 32 [.eptr (Y10) a1_0]] (.one (.int .i64)) = f41 n a0 a1_0 := by
  cases n with
  | zero => rfl
  | succ n =>
    have h : (acalls cfg intr intrI (n + 1)).p 41 [.s (.val (Y10) a0), .fn 32 [.eptr (Y10) a1_0]] (.one (.int .i64)) = f41_top (fun (a0 : den (Y6)) (a1 : den (Y10)) => (acalls cfg intr intrI n).p 32 [.s (.val (Y6) a0), .s (.eptr (Y10) a1)] (.one (.bool))) (fun (st0 : den (Y10)) (ft1_0 : den (Y10)) (t7 : den (.int .i64)) (t8 : den (.int .i64)) => loopN (f41_F2 (acalls cfg intr intrI n) n) n (f41_sh2 st0 ft1_0 t7 t8)) a0 a1_0 := by kernel_rfl
    have e2 : (fun (st0 : den (Y10)) (ft1_0 : den (Y10)) (t7 : den (.int .i64)) (t8 : den (.int .i64)) => loopN (f41_F2 (acalls cfg intr intrI n) n) n (f41_sh2 st0 ft1_0 t7 t8)) = f41_l2 (fun (a0 : den (Y6)) (a1 : den (Y10)) => (acalls cfg intr intrI n).p 32 [.s (.val (Y6) a0), .s (.eptr (Y10) a1)] (.one (.bool))) n n := by funext st0 ft1_0 t7 t8; exact f41_l2_eq (acalls cfg intr intrI n) n n st0 ft1_0 t7 t8
    have c_f32 : (fun (a0 : den (Y6)) (a1 : den (Y10)) => (acalls cfg intr intrI n).p 32 [.s (.val (Y6) a0), .s (.eptr (Y10) a1)] (.one (.bool))) = f32 n := by funext a0 a1; exact f32_eq n a0 a1
    rw [h, e2, c_f32]; rfl

noncomputable def B30 : Code := (Go.Proofs.Try.f30.body).getD .skip
noncomputable def f30_sh5 (delt1_0 : den (Y10)) (it5 : den (.int .i64)) (jt6 : den (.int .i64)) (o42 : den (Y10)) : St := ⟨[.s (.arr 42), .fn 32 [.eptr (Y10) delt1_0], U, U, U, .s (.val (.int .i64) it5), .s (.val (.int .i64) jt6), U, U, U, U, U, U, U, U, U, U, U, U, U, U, U, U, U, U, U, U, U, U, U, U, U, U, U, U, U, U, U, U, U, U, U], [(42, .arr 40 (Y6) o42)]⟩
noncomputable def f30_s5 (C_f41 : den (Y10) → den (Y10) → Option (denR (.one (.int .i64)))) (C_f32 : den (Y6) → den (Y10) → Option (denR (.one (.bool))))   (LS5 : den (Y10) → den (.int .i64) → den (.int .i64) → den (Y10) → Option (denS (⟨.row 40 (Y6), [.dead]⟩ : Sig))) (delt1_0 : den (Y10)) (it5 : den (.int .i64)) (jt6 : den (.int .i64)) (o42 : den (Y10)) : Option (denS (⟨.row 40 (Y6), [.dead]⟩ : Sig)) := (bif (decide (jt6 < (o42.length : Int))) then (bif decide (0 ≤ jt6) && decide (jt6 < (o42.length : Int)) then ((C_f32 (o42.getD (Int.toNat jt6) (dflt (Y6))) delt1_0).bind fun r2 => (bif (!r2) then (bif decide (0 ≤ it5) && decide (it5 < (o42.length : Int)) then LS5 delt1_0 (IntKind.wrap .i64 (it5 + (1 : Int))) (IntKind.wrap .i64 (jt6 + (1 : Int))) (o42.set (Int.toNat it5) (o42.getD (Int.toNat jt6) (dflt (Y6)))) else none) else LS5 delt1_0 it5 (IntKind.wrap .i64 (jt6 + (1 : Int))) o42)) else none) else (bif decide (0 ≤ it5) && decide (it5 ≤ (o42.length : Int)) then (bif decide (0 ≤ it5) && decide (it5 ≤ ((o42.take (Int.toNat it5) ++ List.replicate (o42.length - (Int.toNat it5)) (dflt (Y6))).length : Int)) then some (((o42.take (Int.toNat it5) ++ List.replicate (o42.length - (Int.toNat it5)) (dflt (Y6))).take (Int.toNat it5)), ((), ())) else none) else none))
noncomputable def f30_l5 (C_f41 : den (Y10) → den (Y10) → Option (denR (.one (.int .i64)))) (C_f32 : den (Y6) → den (Y10) → Option (denR (.one (.bool)))) (n : Nat)  : Nat → den (Y10) → den (.int .i64) → den (.int .i64) → den (Y10) → Option (denS (⟨.row 40 (Y6), [.dead]⟩ : Sig))
  | 0, _, _, _, _ => none
  | m + 1, delt1_0, it5, jt6, o42 => f30_s5 C_f41 C_f32   (fun (delt1_0 : den (Y10)) (it5 : den (.int .i64)) (jt6 : den (.int .i64)) (o42 : den (Y10)) => f30_l5 C_f41 C_f32 n  m delt1_0 it5 jt6 o42) delt1_0 it5 jt6 o42
noncomputable def f30_F5 (call : Call0) (n : Nat)  : (St → Option (denS (⟨.row 40 (Y6), [.dead]⟩ : Sig))) → St → Option (denS (⟨.row 40 (Y6), [.dead]⟩ : Sig)) := fun rec => exec cfg call n 30 (cat B30 [1, 1, 1, 0, 1, 0, 0]) (kLoop rec (lk2 30 5 cfg.keep) (kBlock 0 (kSq (exec cfg call n 30 (cat B30 [1, 1, 1, 1])) (kretS cfg Go.Proofs.Try.f30 (⟨.row 40 (Y6), [.dead]⟩ : Sig)))))
theorem f30_l5_eq (call : Call0) (n : Nat)  : ∀ (m : Nat) (delt1_0 : den (Y10)) (it5 : den (.int .i64)) (jt6 : den (.int .i64)) (o42 : den (Y10)), loopN (f30_F5 call n ) m (f30_sh5 delt1_0 it5 jt6 o42) = f30_l5 (fun (a0 : den (Y10)) (a1_0 : den (Y10)) => call.p 41 [.s (.val (Y10) a0), .fn 32 [.eptr (Y10) a1_0]] (.one (.int .i64))) (fun (a0 : den (Y6)) (a1 : den (Y10)) => call.p 32 [.s (.val (Y6) a0), .s (.eptr (Y10) a1)] (.one (.bool))) n  m delt1_0 it5 jt6 o42 := by
  intro m
  induction m with
  | zero => intros; rfl
  | succ m ih =>
    intro delt1_0 it5 jt6 o42
    have h : loopN (f30_F5 call n ) (m + 1) (f30_sh5 delt1_0 it5 jt6 o42) = f30_s5 (fun (a0 : den (Y10)) (a1_0 : den (Y10)) => call.p 41 [.s (.val (Y10) a0), .fn 32 [.eptr (Y10) a1_0]] (.one (.int .i64))) (fun (a0 : den (Y6)) (a1 : den (Y10)) => call.p 32 [.s (.val (Y6) a0), .s (.eptr (Y10) a1)] (.one (.bool)))   (fun (delt1_0 : den (Y10)) (it5 : den (.int .i64)) (jt6 : den (.int .i64)) (o42 : den (Y10)) => loopN (f30_F5 call n ) m (f30_sh5 delt1_0 it5 jt6 o42)) delt1_0 it5 jt6 o42 := by kernel_rfl
    have e0 : (fun (delt1_0 : den (Y10)) (it5 : den (.int .i64)) (jt6 : den (.int .i64)) (o42 : den (Y10)) => loopN (f30_F5 call n ) m (f30_sh5 delt1_0 it5 jt6 o42)) = (fun (delt1_0 : den (Y10)) (it5 : den (.int .i64)) (jt6 : den (.int .i64)) (o42 : den (Y10)) => f30_l5 (fun (a0 : den (Y10)) (a1_0 : den (Y10)) => call.p 41 [.s (.val (Y10) a0), .fn 32 [.eptr (Y10) a1_0]] (.one (.int .i64))) (fun (a0 : den (Y6)) (a1 : den (Y10)) => call.p 32 [.s (.val (Y6) a0), .s (.eptr (Y10) a1)] (.one (.bool))) n  m delt1_0 it5 jt6 o42) := by funext delt1_0 it5 jt6 o42; exact ih delt1_0 it5 jt6 o42
    rw [h, e0]; rfl
noncomputable def f30_top (C_f41 : den (Y10) → den (Y10) → Option (denR (.one (.int .i64)))) (C_f32 : den (Y6) → den (Y10) → Option (denR (.one (.bool)))) (LL5 : den (Y10) → den (.int .i64) → den (.int .i64) → den (Y10) → Option (denS (⟨.row 40 (Y6), [.dead]⟩ : Sig))) (a1_0 : den (Y10)) (o0 : den (Y10)) : Option (denS (⟨.row 40 (Y6), [.dead]⟩ : Sig)) := ((C_f41 o0 a1_0).bind fun r1 => (bif (decide (r1 = (-1 : Int))) then some (o0, ((), ())) else LL5 a1_0 r1 (IntKind.wrap .i64 (r1 + (1 : Int))) o0))
noncomputable def f30 : Nat → den (Y10) → den (Y10) → Option (denS (⟨.row 40 (Y6), [.dead]⟩ : Sig))
  | 0, _, _ => none
  | n + 1, a1_0, o0 => f30_top (f41 n) (f32 n) (f30_l5 (f41 n) (f32 n) n n) a1_0 o0
theorem f30_eq (n : Nat) (a1_0 : den (Y10)) (o0 : den (Y10)) : (acalls cfg intr intrI n).i 30 [.s (.arr 42), .fn 32 [.eptr (Y10) a1_0]] [(42, .arr 40 (Y6) o0)] (⟨.row 40 (Y6), [.dead]⟩ : Sig) = f30 n a1_0 o0 := by
  cases n with
  | zero => rfl
  | succ n =>
    have h : (acalls cfg intr intrI (n + 1)).i 30 [.s (.arr 42), .fn 32 [.eptr (Y10) a1_0]] [(42, .arr 40 (Y6) o0)] (⟨.row 40 (Y6), [.dead]⟩ : Sig) = f30_top (fun (a0 : den (Y10)) (a1_0 : den (Y10)) => (acalls cfg intr intrI n).p 41 [.s (.val (Y10) a0), .fn 32 [.eptr (Y10) a1_0]] (.one (.int .i64))) (fun (a0 : den (Y6)) (a1 : den (Y10)) => (acalls cfg intr intrI n).p 32 [.s (.val (Y6) a0), .s (.eptr (Y10) a1)] (.one (.bool))) (fun (delt1_0 : den (Y10)) (it5 : den (.int .i64)) (jt6 : den (.int .i64)) (o42 : den (Y10)) => loopN (f30_F5 (acalls cfg intr intrI n) n) n (f30_sh5 delt1_0 it5 jt6 o42)) a1_0 o0 := by kernel_rfl
    have e5 : (fun (delt1_0 : den (Y10)) (it5 : den (.int .i64)) (jt6 : den (.int .i64)) (o42 : den (Y10)) => loopN (f30_F5 (acalls cfg intr intrI n) n) n (f30_sh5 delt1_0 it5 jt6 o42)) = f30_l5 (fun (a0 : den (Y10)) (a1_0 : den (Y10)) => (acalls cfg intr intrI n).p 41 [.s (.val (Y10) a0), .fn 32 [.eptr (Y10) a1_0]] (.one (.int .i64))) (fun (a0 : den (Y6)) (a1 : den (Y10)) => (acalls cfg intr intrI n).p 32 [.s (.val (Y6) a0), .s (.eptr (Y10) a1)] (.one (.bool))) n n := by funext delt1_0 it5 jt6 o42; exact f30_l5_eq (acalls cfg intr intrI n) n n delt1_0 it5 jt6 o42
    have c_f41 : (fun (a0 : den (Y10)) (a1_0 : den (Y10)) => (acalls cfg intr intrI n).p 41 [.s (.val (Y10) a0), .fn 32 [.eptr (Y10) a1_0]] (.one (.int .i64))) = f41 n := by funext a0 a1_0; exact f41_eq n a0 a1_0
    have c_f32 : (fun (a0 : den (Y6)) (a1 : den (Y10)) => (acalls cfg intr intrI n).p 32 [.s (.val (Y6) a0), .s (.eptr (Y10) a1)] (.one (.bool))) = f32 n := by funext a0 a1; exact f32_eq n a0 a1
    rw [h, e5, c_f41, c_f32]; rfl

noncomputable def f18_top (C_f31 : den (Y10) → Option (denS (⟨.row 40 (Y6), []⟩ : Sig))) (C_f30 : den (Y10) → den (Y10) → Option (denS (⟨.row 40 (Y6), [.dead]⟩ : Sig)))  (a0 : den (Y10)) (a1 : den (Y10)) : Option (denR (.one (Y10))) := ((C_f31 a0).bind fun r1 => ((C_f30 a1 r1.1).bind fun r2 => some r2.1))
noncomputable def f18 : Nat → den (Y10) → den (Y10) → Option (denR (.one (Y10)))
  | 0, _, _ => none
  | n + 1, a0, a1 => f18_top (f31 n) (f30 n)  a0 a1
theorem f18_eq (n : Nat) (a0 : den (Y10)) (a1 : den (Y10)) : (acalls cfg intr intrI n).p 18 [.s (.val (Y10) a0), .s (.val (Y10) a1)] (.one (Y10)) = f18 n a0 a1 := by
  cases n with
  | zero => rfl
  | succ n =>
    have h : (acalls cfg intr intrI (n + 1)).p 18 [.s (.val (Y10) a0), .s (.val (Y10) a1)] (.one (Y10)) = f18_top (fun (a0 : den (Y10)) => (acalls cfg intr intrI n).i 31 [.s (.val (Y10) a0)] [] (⟨.row 40 (Y6), []⟩ : Sig)) (fun (a1_0 : den (Y10)) (o0 : den (Y10)) => (acalls cfg intr intrI n).i 30 [.s (.arr 42), .fn 32 [.eptr (Y10) a1_0]] [(42, .arr 40 (Y6) o0)] (⟨.row 40 (Y6), [.dead]⟩ : Sig))  a0 a1 := by kernel_rfl
    have c_f31 : (fun (a0 : den (Y10)) => (acalls cfg intr intrI n).i 31 [.s (.val (Y10) a0)] [] (⟨.row 40 (Y6), []⟩ : Sig)) = f31 n := by funext a0; exact f31_eq n a0
    have c_f30 : (fun (a1_0 : den (Y10)) (o0 : den (Y10)) => (acalls cfg intr intrI n).i 30 [.s (.arr 42), .fn 32 [.eptr (Y10) a1_0]] [(42, .arr 40 (Y6) o0)] (⟨.row 40 (Y6), [.dead]⟩ : Sig)) = f30 n := by funext a1_0 o0; exact f30_eq n a1_0 o0
    rw [h, c_f31, c_f30]; rfl

noncomputable def B19 : Code := (Go.Proofs.Try.f19.body).getD .skip
noncomputable def f19_sh2 (pt0 : den (Y10)) (keyt1 : den (.int .i64)) (it6 : den (.int .i64)) (o4 : den (Y6)) : St := ⟨[.s (.val (Y10) pt0), .s (.val (.int .i64) keyt1), U, U, .s (.ref 4 []), U, .s (.val (.int .i64) it6), U, U, U, U, U, U, U, U, U, U, U, U, U, U, U, U, U, U], [(4, .box (Y6) o4)]⟩
noncomputable def f19_s2    (LS2 : den (Y10) → den (.int .i64) → den (.int .i64) → den (Y6) → Option (denR (.two (Y6) (.bool)))) (pt0 : den (Y10)) (keyt1 : den (.int .i64)) (it6 : den (.int .i64)) (o4 : den (Y6)) : Option (denR (.two (Y6) (.bool))) := (bif (decide (it6 < (pt0.length : Int))) then (bif decide (0 ≤ it6) && decide (it6 < (pt0.length : Int)) then (bif (decide ((pt0.getD (Int.toNat it6) (dflt (Y6))).1 = keyt1)) then (bif decide (0 ≤ it6) && decide (it6 < (pt0.length : Int)) then some ((pt0.getD (Int.toNat it6) (dflt (Y6))), true) else none) else LS2 pt0 keyt1 (IntKind.wrap .i64 (it6 + (1 : Int))) o4) else none) else some (((0 : Int), (false, (((0 : Int), ((0 : Int), ((0 : Int), ((⟨#[]⟩ : ByteArray), ())))), ()))), false))
noncomputable def f19_l2  (n : Nat)  : Nat → den (Y10) → den (.int .i64) → den (.int .i64) → den (Y6) → Option (denR (.two (Y6) (.bool)))
  | 0, _, _, _, _ => none
  | m + 1, pt0, keyt1, it6, o4 => f19_s2    (fun (pt0 : den (Y10)) (keyt1 : den (.int .i64)) (it6 : den (.int .i64)) (o4 : den (Y6)) => f19_l2  n  m pt0 keyt1 it6 o4) pt0 keyt1 it6 o4
noncomputable def f19_F2 (call : Call0) (n : Nat)  : (St → Option (denR (.two (Y6) (.bool)))) → St → Option (denR (.two (Y6) (.bool))) := fun rec => exec cfg call n 19 (cat B19 [1, 0, 1, 0, 0]) (kLoop rec (lk2 19 2 cfg.keep) (kBlock 0 (kSq (exec cfg call n 19 (cat B19 [1, 1])) (kret cfg Go.Proofs.Try.f19 (.two (Y6) (.bool))))))
theorem f19_l2_eq (call : Call0) (n : Nat)  : ∀ (m : Nat) (pt0 : den (Y10)) (keyt1 : den (.int .i64)) (it6 : den (.int .i64)) (o4 : den (Y6)), loopN (f19_F2 call n ) m (f19_sh2 pt0 keyt1 it6 o4) = f19_l2  n  m pt0 keyt1 it6 o4 := by
  intro m
  induction m with
  | zero => intros; rfl
  | succ m ih =>
    intro pt0 keyt1 it6 o4
    have h : loopN (f19_F2 call n ) (m + 1) (f19_sh2 pt0 keyt1 it6 o4) = f19_s2    (fun (pt0 : den (Y10)) (keyt1 : den (.int .i64)) (it6 : den (.int .i64)) (o4 : den (Y6)) => loopN (f19_F2 call n ) m (f19_sh2 pt0 keyt1 it6 o4)) pt0 keyt1 it6 o4 := by kernel_rfl
    have e0 : (fun (pt0 : den (Y10)) (keyt1 : den (.int .i64)) (it6 : den (.int .i64)) (o4 : den (Y6)) => loopN (f19_F2 call n ) m (f19_sh2 pt0 keyt1 it6 o4)) = (fun (pt0 : den (Y10)) (keyt1 : den (.int .i64)) (it6 : den (.int .i64)) (o4 : den (Y6)) => f19_l2  n  m pt0 keyt1 it6 o4) := by funext pt0 keyt1 it6 o4; exact ih pt0 keyt1 it6 o4
    rw [h, e0]; rfl
noncomputable def f19_top  (LL2 : den (Y10) → den (.int .i64) → den (.int .i64) → den (Y6) → Option (denR (.two (Y6) (.bool)))) (a0 : den (Y10)) (a1 : den (.int .i64)) : Option (denR (.two (Y6) (.bool))) := LL2 a0 a1 (0 : Int) ((0 : Int), (false, (((0 : Int), ((0 : Int), ((0 : Int), ((⟨#[]⟩ : ByteArray), ())))), ())))
noncomputable def f19 : Nat → den (Y10) → den (.int .i64) → Option (denR (.two (Y6) (.bool)))
  | 0, _, _ => none
  | n + 1, a0, a1 => f19_top  (f19_l2  n n) a0 a1
theorem f19_eq (n : Nat) (a0 : den (Y10)) (a1 : den (.int .i64)) : (acalls cfg intr intrI n).p 19 [.s (.val (Y10) a0), .s (.val (.int .i64) a1)] (.two (Y6) (.bool)) = f19 n a0 a1 := by
  cases n with
  | zero => rfl
  | succ n =>
    have h : (acalls cfg intr intrI (n + 1)).p 19 [.s (.val (Y10) a0), .s (.val (.int .i64) a1)] (.two (Y6) (.bool)) = f19_top  (fun (pt0 : den (Y10)) (keyt1 : den (.int .i64)) (it6 : den (.int .i64)) (o4 : den (Y6)) => loopN (f19_F2 (acalls cfg intr intrI n) n) n (f19_sh2 pt0 keyt1 it6 o4)) a0 a1 := by kernel_rfl
    have e2 : (fun (pt0 : den (Y10)) (keyt1 : den (.int .i64)) (it6 : den (.int .i64)) (o4 : den (Y6)) => loopN (f19_F2 (acalls cfg intr intrI n) n) n (f19_sh2 pt0 keyt1 it6 o4)) = f19_l2  n n := by funext pt0 keyt1 it6 o4; exact f19_l2_eq (acalls cfg intr intrI n) n n pt0 keyt1 it6 o4
    rw [h, e2]; rfl

noncomputable def B5 : Code := (Go.Proofs.Try.f5.body).getD .skip
noncomputable def f5_sh7 (t1 : den (Y10)) (t7 : den (Y8)) (t8 : den (Y8)) (t9 : den (Y10)) (t53 : den (.int .i64)) (t54 : den (.int .i64)) : St := ⟨[U, .s (.val (Y10) t1), U, U, U, U, U, .s (.val (Y8) t7), .s (.val (Y8) t8), .s (.val (Y10) t9), U, U, U, U, U, U, U, U, U, U, U, U, U, U, U, U, U, U, U, U, U, U, U, U, U, U, U, U, U, U, U, U, U, U, U, U, U, U, U, U, U, U, U, .s (.val (.int .i64) t53), .s (.val (.int .i64) t54), U, U, U, U, U, U, U, U, U, U, U, U, U, U, U, U, U, U, U, U], []⟩
noncomputable def f5_s7 (C_f8 : den (Y10) → den (Y9) → Option (denR (.one (.bool)))) (C_f11 : Option (denR (.one (.bool)))) (C_f9 : den (Y8) → Option (denR (.one (.bool)))) (C_f10 : den (Y10) → Option (denR (.one (.bool)))) (C_f13 : den (Y8) → den (Y10) → Option (denR (.one (Y8)))) (C_f18 : den (Y10) → den (Y10) → Option (denR (.one (Y10)))) (C_f19 : den (Y10) → den (.int .i64) → Option (denR (.two (Y6) (.bool)))) (C_f12 : den (Y8) → den (Y8) → Option (denR (.one (.bool))))   (LS7 : den (Y10) → den (Y8) → den (Y8) → den (Y10) → den (.int .i64) → den (.int .i64) → Option (denR (.one (.bool)))) (t1 : den (Y10)) (t7 : den (Y8)) (t8 : den (Y8)) (t9 : den (Y10)) (t53 : den (.int .i64)) (t54 : den (.int .i64)) : Option (denR (.one (.bool))) := (bif (decide (t54 < t53)) then (bif decide (0 ≤ t54) && decide (t54 < (t9.length : Int)) then ((C_f19 t1 ((t9.getD (Int.toNat t54) (dflt (Y6))).1)).bind fun r17 => (bif r17.2 then some false else LS7 t1 t7 t8 t9 t53 (IntKind.wrap .i64 (t54 + (1 : Int))))) else none) else ((C_f12 t7 t8).bind fun r18 => (bif r18 then ((C_f11).bind fun r19 => some r19) else some false)))
noncomputable def f5_l7 (C_f8 : den (Y10) → den (Y9) → Option (denR (.one (.bool)))) (C_f11 : Option (denR (.one (.bool)))) (C_f9 : den (Y8) → Option (denR (.one (.bool)))) (C_f10 : den (Y10) → Option (denR (.one (.bool)))) (C_f13 : den (Y8) → den (Y10) → Option (denR (.one (Y8)))) (C_f18 : den (Y10) → den (Y10) → Option (denR (.one (Y10)))) (C_f19 : den (Y10) → den (.int .i64) → Option (denR (.two (Y6) (.bool)))) (C_f12 : den (Y8) → den (Y8) → Option (denR (.one (.bool)))) (n : Nat)  : Nat → den (Y10) → den (Y8) → den (Y8) → den (Y10) → den (.int .i64) → den (.int .i64) → Option (denR (.one (.bool)))
  | 0, _, _, _, _, _, _ => none
  | m + 1, t1, t7, t8, t9, t53, t54 => f5_s7 C_f8 C_f11 C_f9 C_f10 C_f13 C_f18 C_f19 C_f12   (fun (t1 : den (Y10)) (t7 : den (Y8)) (t8 : den (Y8)) (t9 : den (Y10)) (t53 : den (.int .i64)) (t54 : den (.int .i64)) => f5_l7 C_f8 C_f11 C_f9 C_f10 C_f13 C_f18 C_f19 C_f12 n  m t1 t7 t8 t9 t53 t54) t1 t7 t8 t9 t53 t54
noncomputable def f5_F7 (call : Call0) (n : Nat)  : (St → Option (denR (.one (.bool)))) → St → Option (denR (.one (.bool))) := fun rec => exec cfg call n 5 (cat B5 [1, 1, 1, 1, 1, 0, 1, 0, 0]) (kLoop rec (lk2 5 7 cfg.keep) (kBlock 0 (kSq (exec cfg call n 5 (cat B5 [1, 1, 1, 1, 1, 1])) (kret cfg Go.Proofs.Try.f5 (.one (.bool))))))
theorem f5_l7_eq (call : Call0) (n : Nat)  : ∀ (m : Nat) (t1 : den (Y10)) (t7 : den (Y8)) (t8 : den (Y8)) (t9 : den (Y10)) (t53 : den (.int .i64)) (t54 : den (.int .i64)), loopN (f5_F7 call n ) m (f5_sh7 t1 t7 t8 t9 t53 t54) = f5_l7 (fun (a0 : den (Y10)) (a1 : den (Y9)) => call.p 8 [.s (.val (Y10) a0), .s (.val (Y9) a1)] (.one (.bool))) (call.p 11 [] (.one (.bool))) (fun (a0 : den (Y8)) => call.p 9 [.s (.val (Y8) a0)] (.one (.bool))) (fun (a0 : den (Y10)) => call.p 10 [.s (.val (Y10) a0)] (.one (.bool))) (fun (a0 : den (Y8)) (a1 : den (Y10)) => call.p 13 [.s (.val (Y8) a0), .s (.val (Y10) a1)] (.one (Y8))) (fun (a0 : den (Y10)) (a1 : den (Y10)) => call.p 18 [.s (.val (Y10) a0), .s (.val (Y10) a1)] (.one (Y10))) (fun (a0 : den (Y10)) (a1 : den (.int .i64)) => call.p 19 [.s (.val (Y10) a0), .s (.val (.int .i64) a1)] (.two (Y6) (.bool))) (fun (a0 : den (Y8)) (a1 : den (Y8)) => call.p 12 [.s (.val (Y8) a0), .s (.val (Y8) a1)] (.one (.bool))) n  m t1 t7 t8 t9 t53 t54 := by
  intro m
  induction m with
  | zero => intros; rfl
  | succ m ih =>
    intro t1 t7 t8 t9 t53 t54
    have h : loopN (f5_F7 call n ) (m + 1) (f5_sh7 t1 t7 t8 t9 t53 t54) = f5_s7 (fun (a0 : den (Y10)) (a1 : den (Y9)) => call.p 8 [.s (.val (Y10) a0), .s (.val (Y9) a1)] (.one (.bool))) (call.p 11 [] (.one (.bool))) (fun (a0 : den (Y8)) => call.p 9 [.s (.val (Y8) a0)] (.one (.bool))) (fun (a0 : den (Y10)) => call.p 10 [.s (.val (Y10) a0)] (.one (.bool))) (fun (a0 : den (Y8)) (a1 : den (Y10)) => call.p 13 [.s (.val (Y8) a0), .s (.val (Y10) a1)] (.one (Y8))) (fun (a0 : den (Y10)) (a1 : den (Y10)) => call.p 18 [.s (.val (Y10) a0), .s (.val (Y10) a1)] (.one (Y10))) (fun (a0 : den (Y10)) (a1 : den (.int .i64)) => call.p 19 [.s (.val (Y10) a0), .s (.val (.int .i64) a1)] (.two (Y6) (.bool))) (fun (a0 : den (Y8)) (a1 : den (Y8)) => call.p 12 [.s (.val (Y8) a0), .s (.val (Y8) a1)] (.one (.bool)))   (fun (t1 : den (Y10)) (t7 : den (Y8)) (t8 : den (Y8)) (t9 : den (Y10)) (t53 : den (.int .i64)) (t54 : den (.int .i64)) => loopN (f5_F7 call n ) m (f5_sh7 t1 t7 t8 t9 t53 t54)) t1 t7 t8 t9 t53 t54 := by kernel_rfl
    have e0 : (fun (t1 : den (Y10)) (t7 : den (Y8)) (t8 : den (Y8)) (t9 : den (Y10)) (t53 : den (.int .i64)) (t54 : den (.int .i64)) => loopN (f5_F7 call n ) m (f5_sh7 t1 t7 t8 t9 t53 t54)) = (fun (t1 : den (Y10)) (t7 : den (Y8)) (t8 : den (Y8)) (t9 : den (Y10)) (t53 : den (.int .i64)) (t54 : den (.int .i64)) => f5_l7 (fun (a0 : den (Y10)) (a1 : den (Y9)) => call.p 8 [.s (.val (Y10) a0), .s (.val (Y9) a1)] (.one (.bool))) (call.p 11 [] (.one (.bool))) (fun (a0 : den (Y8)) => call.p 9 [.s (.val (Y8) a0)] (.one (.bool))) (fun (a0 : den (Y10)) => call.p 10 [.s (.val (Y10) a0)] (.one (.bool))) (fun (a0 : den (Y8)) (a1 : den (Y10)) => call.p 13 [.s (.val (Y8) a0), .s (.val (Y10) a1)] (.one (Y8))) (fun (a0 : den (Y10)) (a1 : den (Y10)) => call.p 18 [.s (.val (Y10) a0), .s (.val (Y10) a1)] (.one (Y10))) (fun (a0 : den (Y10)) (a1 : den (.int .i64)) => call.p 19 [.s (.val (Y10) a0), .s (.val (.int .i64) a1)] (.two (Y6) (.bool))) (fun (a0 : den (Y8)) (a1 : den (Y8)) => call.p 12 [.s (.val (Y8) a0), .s (.val (Y8) a1)] (.one (.bool))) n  m t1 t7 t8 t9 t53 t54) := by funext t1 t7 t8 t9 t53 t54; exact ih t1 t7 t8 t9 t53 t54
    rw [h, e0]; rfl
noncomputable def f5_top (C_f8 : den (Y10) → den (Y9) → Option (denR (.one (.bool)))) (C_f11 : Option (denR (.one (.bool)))) (C_f9 : den (Y8) → Option (denR (.one (.bool)))) (C_f10 : den (Y10) → Option (denR (.one (.bool)))) (C_f13 : den (Y8) → den (Y10) → Option (denR (.one (Y8)))) (C_f18 : den (Y10) → den (Y10) → Option (denR (.one (Y10)))) (C_f19 : den (Y10) → den (.int .i64) → Option (denR (.two (Y6) (.bool)))) (C_f12 : den (Y8) → den (Y8) → Option (denR (.one (.bool)))) (LL7 : den (Y10) → den (Y8) → den (Y8) → den (Y10) → den (.int .i64) → den (.int .i64) → Option (denR (.one (.bool)))) (a0 : den (Y8)) (a1 : den (Y10)) (a2 : den (Y10)) : Option (denR (.one (.bool))) := ((C_f8 a1 ([a0] : den (Y9))).bind fun r1 => (bif r1 then ((C_f11).bind fun r2 => some r2) else ((C_f8 a2 ([] : den (Y9))).bind fun r3 => (bif r3 then ((C_f11).bind fun r4 => some r4) else ((C_f9 a0).bind fun r5 => (bif (!r5) then ((C_f11).bind fun r6 => some r6) else ((C_f10 a1).bind fun r7 => (bif (!r7) then ((C_f11).bind fun r8 => some r8) else ((C_f10 a2).bind fun r9 => (bif (!r9) then ((C_f11).bind fun r10 => some r10) else ((C_f13 a0 a1).bind fun r11 => ((C_f18 a2 a1).bind fun r12 => ((C_f13 r11 r12).bind fun r13 => ((C_f13 a0 a2).bind fun r14 => ((C_f13 r14 a1).bind fun r15 => ((C_f18 a2 a1).bind fun r16 => LL7 a1 r13 r15 r16 (r16.length : Int) (0 : Int)))))))))))))))))
noncomputable def f5 : Nat → den (Y8) → den (Y10) → den (Y10) → Option (denR (.one (.bool)))
  | 0, _, _, _ => none
  | n + 1, a0, a1, a2 => f5_top (f8 n) (f11 n) (f9 n) (f10 n) (f13 n) (f18 n) (f19 n) (f12 n) (f5_l7 (f8 n) (f11 n) (f9 n) (f10 n) (f13 n) (f18 n) (f19 n) (f12 n) n n) a0 a1 a2
theorem f5_eq (n : Nat) (a0 : den (Y8)) (a1 : den (Y10)) (a2 : den (Y10)) : (acalls cfg intr intrI n).p 5 [.s (.val (Y8) a0), .s (.val (Y10) a1), .s (.val (Y10) a2)] (.one (.bool)) = f5 n a0 a1 a2 := by
  cases n with
  | zero => rfl
  | succ n =>
    have h : (acalls cfg intr intrI (n + 1)).p 5 [.s (.val (Y8) a0), .s (.val (Y10) a1), .s (.val (Y10) a2)] (.one (.bool)) = f5_top (fun (a0 : den (Y10)) (a1 : den (Y9)) => (acalls cfg intr intrI n).p 8 [.s (.val (Y10) a0), .s (.val (Y9) a1)] (.one (.bool))) ((acalls cfg intr intrI n).p 11 [] (.one (.bool))) (fun (a0 : den (Y8)) => (acalls cfg intr intrI n).p 9 [.s (.val (Y8) a0)] (.one (.bool))) (fun (a0 : den (Y10)) => (acalls cfg intr intrI n).p 10 [.s (.val (Y10) a0)] (.one (.bool))) (fun (a0 : den (Y8)) (a1 : den (Y10)) => (acalls cfg intr intrI n).p 13 [.s (.val (Y8) a0), .s (.val (Y10) a1)] (.one (Y8))) (fun (a0 : den (Y10)) (a1 : den (Y10)) => (acalls cfg intr intrI n).p 18 [.s (.val (Y10) a0), .s (.val (Y10) a1)] (.one (Y10))) (fun (a0 : den (Y10)) (a1 : den (.int .i64)) => (acalls cfg intr intrI n).p 19 [.s (.val (Y10) a0), .s (.val (.int .i64) a1)] (.two (Y6) (.bool))) (fun (a0 : den (Y8)) (a1 : den (Y8)) => (acalls cfg intr intrI n).p 12 [.s (.val (Y8) a0), .s (.val (Y8) a1)] (.one (.bool))) (fun (t1 : den (Y10)) (t7 : den (Y8)) (t8 : den (Y8)) (t9 : den (Y10)) (t53 : den (.int .i64)) (t54 : den (.int .i64)) => loopN (f5_F7 (acalls cfg intr intrI n) n) n (f5_sh7 t1 t7 t8 t9 t53 t54)) a0 a1 a2 := by kernel_rfl
    have e7 : (fun (t1 : den (Y10)) (t7 : den (Y8)) (t8 : den (Y8)) (t9 : den (Y10)) (t53 : den (.int .i64)) (t54 : den (.int .i64)) => loopN (f5_F7 (acalls cfg intr intrI n) n) n (f5_sh7 t1 t7 t8 t9 t53 t54)) = f5_l7 (fun (a0 : den (Y10)) (a1 : den (Y9)) => (acalls cfg intr intrI n).p 8 [.s (.val (Y10) a0), .s (.val (Y9) a1)] (.one (.bool))) ((acalls cfg intr intrI n).p 11 [] (.one (.bool))) (fun (a0 : den (Y8)) => (acalls cfg intr intrI n).p 9 [.s (.val (Y8) a0)] (.one (.bool))) (fun (a0 : den (Y10)) => (acalls cfg intr intrI n).p 10 [.s (.val (Y10) a0)] (.one (.bool))) (fun (a0 : den (Y8)) (a1 : den (Y10)) => (acalls cfg intr intrI n).p 13 [.s (.val (Y8) a0), .s (.val (Y10) a1)] (.one (Y8))) (fun (a0 : den (Y10)) (a1 : den (Y10)) => (acalls cfg intr intrI n).p 18 [.s (.val (Y10) a0), .s (.val (Y10) a1)] (.one (Y10))) (fun (a0 : den (Y10)) (a1 : den (.int .i64)) => (acalls cfg intr intrI n).p 19 [.s (.val (Y10) a0), .s (.val (.int .i64) a1)] (.two (Y6) (.bool))) (fun (a0 : den (Y8)) (a1 : den (Y8)) => (acalls cfg intr intrI n).p 12 [.s (.val (Y8) a0), .s (.val (Y8) a1)] (.one (.bool))) n n := by funext t1 t7 t8 t9 t53 t54; exact f5_l7_eq (acalls cfg intr intrI n) n n t1 t7 t8 t9 t53 t54
    have c_f8 : (fun (a0 : den (Y10)) (a1 : den (Y9)) => (acalls cfg intr intrI n).p 8 [.s (.val (Y10) a0), .s (.val (Y9) a1)] (.one (.bool))) = f8 n := by funext a0 a1; exact f8_eq n a0 a1
    have c_f11 : ((acalls cfg intr intrI n).p 11 [] (.one (.bool))) = f11 n := f11_eq n
    have c_f9 : (fun (a0 : den (Y8)) => (acalls cfg intr intrI n).p 9 [.s (.val (Y8) a0)] (.one (.bool))) = f9 n := by funext a0; exact f9_eq n a0
    have c_f10 : (fun (a0 : den (Y10)) => (acalls cfg intr intrI n).p 10 [.s (.val (Y10) a0)] (.one (.bool))) = f10 n := by funext a0; exact f10_eq n a0
    have c_f13 : (fun (a0 : den (Y8)) (a1 : den (Y10)) => (acalls cfg intr intrI n).p 13 [.s (.val (Y8) a0), .s (.val (Y10) a1)] (.one (Y8))) = f13 n := by funext a0 a1; exact f13_eq n a0 a1
    have c_f18 : (fun (a0 : den (Y10)) (a1 : den (Y10)) => (acalls cfg intr intrI n).p 18 [.s (.val (Y10) a0), .s (.val (Y10) a1)] (.one (Y10))) = f18 n := by funext a0 a1; exact f18_eq n a0 a1
    have c_f19 : (fun (a0 : den (Y10)) (a1 : den (.int .i64)) => (acalls cfg intr intrI n).p 19 [.s (.val (Y10) a0), .s (.val (.int .i64) a1)] (.two (Y6) (.bool))) = f19 n := by funext a0 a1; exact f19_eq n a0 a1
    have c_f12 : (fun (a0 : den (Y8)) (a1 : den (Y8)) => (acalls cfg intr intrI n).p 12 [.s (.val (Y8) a0), .s (.val (Y8) a1)] (.one (.bool))) = f12 n := by funext a0 a1; exact f12_eq n a0 a1
    rw [h, e7, c_f8, c_f11, c_f9, c_f10, c_f13, c_f18, c_f19, c_f12]; rfl

end Go.Proofs.Ytecangnmmbcbkaa.Ab
