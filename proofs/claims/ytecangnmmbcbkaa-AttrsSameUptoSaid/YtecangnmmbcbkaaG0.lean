/- The seat's functions as plain Lean functions, each shown to be what the abstract interpreter comes to (printed by try3.py). -/
import Derived.Test.YtecangnmmbcbkaaAJ
import Derived.Test.YtecangnmmbcbkaaP0
import Derived.Test.YtecangnmmbcbkaaProg
import Derived.KernelRfl
set_option linter.unusedVariables false
set_option linter.unusedSimpArgs false
set_option maxRecDepth 100000
namespace Go.Proofs.Ytecangnmmbcbkaa.Ab
open Go
abbrev Y0 : Ty := .prod (.str) (.unit)
abbrev Y1 : Ty := .prod (.int .u64) (Y0)
abbrev Y2 : Ty := .prod (.int .i64) (Y1)
abbrev TValue : Ty := .prod (.int .u8) (Y2)
abbrev Y3 : Ty := .prod (TValue) (.unit)
abbrev Y4 : Ty := .prod (.bool) (Y3)
abbrev TChange : Ty := .prod (.int .i64) (Y4)
abbrev TAttr : Ty := .prod (.int .i64) (Y3)
abbrev LAttr : Ty := .slice (TAttr)
abbrev LLAttr : Ty := .slice (LAttr)
abbrev LChange : Ty := .slice (TChange)
abbrev Y5 : Ty := .prod (.int .u8) (.unit)
abbrev Y6 : Ty := .prod (.bool) (Y5)
abbrev Y7 : Ty := .prod (.int .i64) (Y6)
abbrev TboundsError : Ty := .prod (.int .i64) (Y7)
noncomputable def cfg : Cfg :=
  { ty := [(2, .int .i64), (3, .int .i64), (4, .bool), (5, .int .u8), (6, .int .u8), (7, TboundsError), (9, .str), (21, .int .i32), (22, LAttr), (23, LChange), (36, .int .u64), (37, TValue), (38, TValue), (39, TChange), (40, TChange), (45, TAttr), (46, TAttr), (53, LLAttr), (71, .int .u64), (81, .int .u32), (82, .int .u8), (83, .int .u8), (86, .int .i32), (87, .int .i32)]
    el := [(22, 46), (23, 40), (53, 22)]
    bytes := [(46, 48), (40, 56), (22, 24)]
    fns := [(3, Go.Proofs.Try.f3), (4, Go.Proofs.Try.f4), (5, Go.Proofs.Try.f5), (6, Go.Proofs.Try.f6), (7, Go.Proofs.Try.f7), (8, Go.Proofs.Try.f8), (9, Go.Proofs.Try.f9), (10, Go.Proofs.Try.f10), (11, Go.Proofs.Try.f11), (12, Go.Proofs.Try.f12), (13, Go.Proofs.Try.f13), (14, Go.Proofs.Try.f14), (15, Go.Proofs.Try.f15), (16, Go.Proofs.Try.f16), (17, Go.Proofs.Try.f17), (18, Go.Proofs.Try.f18), (19, Go.Proofs.Try.f19), (20, Go.Proofs.Try.f20), (21, Go.Proofs.Try.f21), (22, Go.Proofs.Try.f22), (23, Go.Proofs.Try.f23), (24, Go.Proofs.Try.f24), (25, Go.Proofs.Try.f25), (26, Go.Proofs.Try.f26), (27, Go.Proofs.Try.f27), (28, Go.Proofs.Try.f28), (29, Go.Proofs.Try.f29), (30, Go.Proofs.Try.f30), (31, Go.Proofs.Try.f31), (32, Go.Proofs.Try.f32), (33, Go.Proofs.Try.f33), (34, Go.Proofs.Try.f34), (35, Go.Proofs.Try.f35), (36, Go.Proofs.Try.f36), (37, Go.Proofs.Try.f37), (38, Go.Proofs.Try.f38), (39, Go.Proofs.Try.f39), (40, Go.Proofs.Try.f40), (41, Go.Proofs.Try.f41), (42, Go.Proofs.Try.f42), (43, Go.Proofs.Try.f43), (44, Go.Proofs.Try.f44), (47, Go.Proofs.Try.f47), (48, Go.Proofs.Try.f48)]
    res := [(3, (.one (.bool))), (4, (.one (.bool))), (5, (.one (.bool))), (6, (.one (.bool))), (7, (.one (.bool))), (8, (.one (.bool))), (9, (.one (.bool))), (10, (.one (.bool))), (11, (.one (.bool))), (12, (.one (.bool))), (13, (.one (LAttr))), (14, (.one (LChange))), (15, (.one (LChange))), (16, (.one (.bool))), (17, (.one (LChange))), (18, (.one (LChange))), (19, (.two (TChange) (.bool))), (20, (.one (.bool))), (21, (.one (.bool))), (22, (.one (LAttr))), (23, (.two (TValue) (.bool))), (24, (.one (.bool))), (25, (.one (LAttr))), (26, (.one (LAttr))), (27, (.one (TValue))), (28, (.one (TChange))), (29, (.one (.bool))), (30, (.one (LChange))), (31, (.one (LChange))), (32, (.one (.bool))), (33, (.one (.bool))), (34, (.one (.bool))), (35, (.two (.int .i64) (.bool))), (36, (.one (LAttr))), (37, (.one (LAttr))), (38, (.one (.bool))), (39, (.one (LAttr))), (40, (.one (.bool))), (41, (.one (.int .i64))), (42, (.two (.int .i64) (.bool))), (43, (.one (.int .i64))), (44, (.one (.int .i64))), (47, (.one (.int .i64))), (48, (.one (.bool)))]
    keep := [((5, 7), [1, 7, 8, 9, 53, 54]),
      ((6, 5), [0, 1, 5, 6, 30, 31, 1000005]),
      ((6, 10), [0, 1, 5, 6, 42, 43, 1000006]),
      ((6, 20), [1, 5, 72, 73]),
      ((7, 12), [0, 1, 93, 94]),
      ((8, 3), [0, 1, 5, 12, 13]),
      ((8, 8), [1, 5, 27, 28]),
      ((8, 12), [1, 5, 7, 27, 28, 42, 43]),
      ((9, 2), [0, 3]),
      ((10, 2), [0, 3]),
      ((12, 4), [0, 1, 5]),
      ((13, 4), [0, 5, 6, 9, 10, 11]),
      ((13, 6), [0, 5, 6, 8, 9, 10, 11]),
      ((14, 3), [0, 5, 10, 11, 12]),
      ((15, 4), [0, 5, 6, 11, 12, 13]),
      ((15, 6), [0, 5, 6, 8, 11, 12, 13]),
      ((15, 16), [5, 79, 80, 81]),
      ((17, 4), [0, 5, 6, 9, 10, 11]),
      ((17, 6), [0, 5, 6, 8, 9, 10, 11]),
      ((19, 2), [0, 1, 4, 6]),
      ((20, 2), [0, 5, 6]),
      ((29, 4), [0, 1, 12, 13]),
      ((30, 5), [0, 1, 5, 6, 42]),
      ((38, 4), [0, 1, 12, 13]),
      ((39, 5), [0, 1, 5, 6, 42]),
      ((41, 2), [0, 1, 7, 8]),
      ((42, 3), [0, 1, 2, 8, 9, 10]),
      ((47, 2), [0, 1, 7, 8])]
    inl := [(30, (⟨.row 40 (TChange), [.dead]⟩ : Sig)), (31, (⟨.row 40 (TChange), []⟩ : Sig)), (36, (⟨.row 46 (TAttr), []⟩ : Sig)), (37, (⟨.row 46 (TAttr), [.dead, .dead]⟩ : Sig)), (39, (⟨.row 46 (TAttr), [.dead]⟩ : Sig))]
    cut := [((22, 6), [5])] }
def intr : Intr := []
noncomputable def intrI : IntrI := [(31, gClone 40 (TChange) 56), (36, gClone 46 (TAttr) 48), (37, gInsert 46 (TAttr) 48)]

noncomputable def B8 : Code := (Go.Proofs.Try.f8.body).getD .skip
noncomputable def law06_great_sh12 (setst1 : den (LLAttr)) (nt5 : den (.int .i64)) (it7 : den (.int .i64)) (t27 : den (.int .i64)) (t28 : den (.int .i64)) (t42 : den (.int .i64)) (t43 : den (.int .i64)) : St := ⟨[U, .s (.val (LLAttr) setst1), U, U, U, .s (.val (.int .i64) nt5), U, .s (.val (.int .i64) it7), U, U, U, U, U, U, U, U, U, U, U, U, U, U, U, U, U, U, U, .s (.val (.int .i64) t27), .s (.val (.int .i64) t28), U, U, U, U, U, U, U, U, U, U, U, U, U, .s (.val (.int .i64) t42), .s (.val (.int .i64) t43), U, U, U, U, U, U, U, U, U, U, U, U, U, U, U, U, U, U], []⟩
noncomputable def law06_great_sh8 (setst1 : den (LLAttr)) (nt5 : den (.int .i64)) (t27 : den (.int .i64)) (t28 : den (.int .i64)) : St := ⟨[U, .s (.val (LLAttr) setst1), U, U, U, .s (.val (.int .i64) nt5), U, U, U, U, U, U, U, U, U, U, U, U, U, U, U, U, U, U, U, U, U, .s (.val (.int .i64) t27), .s (.val (.int .i64) t28), U, U, U, U, U, U, U, U, U, U, U, U, U, U, U, U, U, U, U, U, U, U, U, U, U, U, U, U, U, U, U, U, U], []⟩
noncomputable def law06_great_sh3 (pt0 : den (LChange)) (setst1 : den (LLAttr)) (nt5 : den (.int .i64)) (t12 : den (.int .i64)) (t13 : den (.int .i64)) : St := ⟨[.s (.val (LChange) pt0), .s (.val (LLAttr) setst1), U, U, U, .s (.val (.int .i64) nt5), U, U, U, U, U, U, .s (.val (.int .i64) t12), .s (.val (.int .i64) t13), U, U, U, U, U, U, U, U, U, U, U, U, U, U, U, U, U, U, U, U, U, U, U, U, U, U, U, U, U, U, U, U, U, U, U, U, U, U, U, U, U, U, U, U, U, U, U, U], []⟩
noncomputable def law06_great_s12   (LS8 : den (LLAttr) → den (.int .i64) → den (.int .i64) → den (.int .i64) → Option (denR (.one (.bool)))) (LS12 : den (LLAttr) → den (.int .i64) → den (.int .i64) → den (.int .i64) → den (.int .i64) → den (.int .i64) → den (.int .i64) → Option (denR (.one (.bool)))) (setst1 : den (LLAttr)) (nt5 : den (.int .i64)) (it7 : den (.int .i64)) (t27 : den (.int .i64)) (t28 : den (.int .i64)) (t42 : den (.int .i64)) (t43 : den (.int .i64)) : Option (denR (.one (.bool))) := (bif (decide (t43 < t42)) then (bif decide (0 ≤ it7) && decide (it7 < (setst1.length : Int)) then (bif decide (0 ≤ t43) && decide (t43 < ((setst1.getD (Int.toNat it7) (dflt (LAttr))).length : Int)) then LS12 setst1 (IntKind.wrap .i64 (nt5 + (ByteArray.size ((((((((setst1.getD (Int.toNat it7) (dflt (LAttr))).getD (Int.toNat t43) (dflt (TAttr))).2).1).2).2).2).1) : Int))) it7 t27 t28 t42 (IntKind.wrap .i64 (t43 + (1 : Int))) else none) else none) else LS8 setst1 nt5 t27 (IntKind.wrap .i64 (t28 + (1 : Int))))
noncomputable def law06_great_l12  (n : Nat) (LS8 : den (LLAttr) → den (.int .i64) → den (.int .i64) → den (.int .i64) → Option (denR (.one (.bool)))) : Nat → den (LLAttr) → den (.int .i64) → den (.int .i64) → den (.int .i64) → den (.int .i64) → den (.int .i64) → den (.int .i64) → Option (denR (.one (.bool)))
  | 0, _, _, _, _, _, _, _ => none
  | m + 1, setst1, nt5, it7, t27, t28, t42, t43 => law06_great_s12   LS8 (fun (setst1 : den (LLAttr)) (nt5 : den (.int .i64)) (it7 : den (.int .i64)) (t27 : den (.int .i64)) (t28 : den (.int .i64)) (t42 : den (.int .i64)) (t43 : den (.int .i64)) => law06_great_l12  n LS8 m setst1 nt5 it7 t27 t28 t42 t43) setst1 nt5 it7 t27 t28 t42 t43
noncomputable def law06_great_F12 (call : Call0) (n : Nat) (r8 : St → Option (denR (.one (.bool)))) : (St → Option (denR (.one (.bool)))) → St → Option (denR (.one (.bool))) := fun rec => exec cfg call n 8 (cat B8 [1, 1, 1, 0, 1, 0, 0, 1, 1, 0, 0, 1, 1, 1, 0, 0]) (kLoop rec (lk2 8 12 cfg.keep) (kBlock 4 (kBlock 3 (kSq (exec cfg call n 8 (cat B8 [1, 1, 1, 0, 1, 0, 0, 1, 1, 1])) (kLoop r8 (lk2 8 8 cfg.keep) (kBlock 2 (kSq (exec cfg call n 8 (cat B8 [1, 1, 1, 1])) (kret cfg Go.Proofs.Try.f8 (.one (.bool))))))))))
theorem law06_great_l12_eq (call : Call0) (n : Nat) (r8 : St → Option (denR (.one (.bool)))) : ∀ (m : Nat) (setst1 : den (LLAttr)) (nt5 : den (.int .i64)) (it7 : den (.int .i64)) (t27 : den (.int .i64)) (t28 : den (.int .i64)) (t42 : den (.int .i64)) (t43 : den (.int .i64)), loopN (law06_great_F12 call n r8) m (law06_great_sh12 setst1 nt5 it7 t27 t28 t42 t43) = law06_great_l12  n (fun (setst1 : den (LLAttr)) (nt5 : den (.int .i64)) (t27 : den (.int .i64)) (t28 : den (.int .i64)) => r8 (law06_great_sh8 setst1 nt5 t27 t28)) m setst1 nt5 it7 t27 t28 t42 t43 := by
  intro m
  induction m with
  | zero => intros; rfl
  | succ m ih =>
    intro setst1 nt5 it7 t27 t28 t42 t43
    have h : loopN (law06_great_F12 call n r8) (m + 1) (law06_great_sh12 setst1 nt5 it7 t27 t28 t42 t43) = law06_great_s12   (fun (setst1 : den (LLAttr)) (nt5 : den (.int .i64)) (t27 : den (.int .i64)) (t28 : den (.int .i64)) => r8 (law06_great_sh8 setst1 nt5 t27 t28)) (fun (setst1 : den (LLAttr)) (nt5 : den (.int .i64)) (it7 : den (.int .i64)) (t27 : den (.int .i64)) (t28 : den (.int .i64)) (t42 : den (.int .i64)) (t43 : den (.int .i64)) => loopN (law06_great_F12 call n r8) m (law06_great_sh12 setst1 nt5 it7 t27 t28 t42 t43)) setst1 nt5 it7 t27 t28 t42 t43 := by kernel_rfl
    have e0 : (fun (setst1 : den (LLAttr)) (nt5 : den (.int .i64)) (it7 : den (.int .i64)) (t27 : den (.int .i64)) (t28 : den (.int .i64)) (t42 : den (.int .i64)) (t43 : den (.int .i64)) => loopN (law06_great_F12 call n r8) m (law06_great_sh12 setst1 nt5 it7 t27 t28 t42 t43)) = (fun (setst1 : den (LLAttr)) (nt5 : den (.int .i64)) (it7 : den (.int .i64)) (t27 : den (.int .i64)) (t28 : den (.int .i64)) (t42 : den (.int .i64)) (t43 : den (.int .i64)) => law06_great_l12  n (fun (setst1 : den (LLAttr)) (nt5 : den (.int .i64)) (t27 : den (.int .i64)) (t28 : den (.int .i64)) => r8 (law06_great_sh8 setst1 nt5 t27 t28)) m setst1 nt5 it7 t27 t28 t42 t43) := by funext setst1 nt5 it7 t27 t28 t42 t43; exact ih setst1 nt5 it7 t27 t28 t42 t43
    rw [h, e0]; rfl
noncomputable def law06_great_s8  (LL12 : den (LLAttr) → den (.int .i64) → den (.int .i64) → den (.int .i64) → den (.int .i64) → den (.int .i64) → den (.int .i64) → Option (denR (.one (.bool))))  (LS8 : den (LLAttr) → den (.int .i64) → den (.int .i64) → den (.int .i64) → Option (denR (.one (.bool)))) (setst1 : den (LLAttr)) (nt5 : den (.int .i64)) (t27 : den (.int .i64)) (t28 : den (.int .i64)) : Option (denR (.one (.bool))) := (bif (decide (t28 < t27)) then (bif decide (0 ≤ t28) && decide (t28 < (setst1.length : Int)) then (bif decide (0 ≤ t28) && decide (t28 < (setst1.length : Int)) then LL12 setst1 (IntKind.wrap .i64 (nt5 + ((setst1.getD (Int.toNat t28) (dflt (LAttr))).length : Int))) t28 t27 t28 ((setst1.getD (Int.toNat t28) (dflt (LAttr))).length : Int) (0 : Int) else none) else none) else some (decide ((4000 : Int) < nt5)))
noncomputable def law06_great_l8  (n : Nat)  : Nat → den (LLAttr) → den (.int .i64) → den (.int .i64) → den (.int .i64) → Option (denR (.one (.bool)))
  | 0, _, _, _, _ => none
  | m + 1, setst1, nt5, t27, t28 => law06_great_s8  (law06_great_l12  n (fun (setst1 : den (LLAttr)) (nt5 : den (.int .i64)) (t27 : den (.int .i64)) (t28 : den (.int .i64)) => law06_great_l8  n  m setst1 nt5 t27 t28) n)  (fun (setst1 : den (LLAttr)) (nt5 : den (.int .i64)) (t27 : den (.int .i64)) (t28 : den (.int .i64)) => law06_great_l8  n  m setst1 nt5 t27 t28) setst1 nt5 t27 t28
noncomputable def law06_great_F8 (call : Call0) (n : Nat)  : (St → Option (denR (.one (.bool)))) → St → Option (denR (.one (.bool))) := fun rec => exec cfg call n 8 (cat B8 [1, 1, 1, 0, 1, 0, 0]) (kLoop rec (lk2 8 8 cfg.keep) (kBlock 2 (kSq (exec cfg call n 8 (cat B8 [1, 1, 1, 1])) (kret cfg Go.Proofs.Try.f8 (.one (.bool))))))
theorem law06_great_l8_eq (call : Call0) (n : Nat)  : ∀ (m : Nat) (setst1 : den (LLAttr)) (nt5 : den (.int .i64)) (t27 : den (.int .i64)) (t28 : den (.int .i64)), loopN (law06_great_F8 call n ) m (law06_great_sh8 setst1 nt5 t27 t28) = law06_great_l8  n  m setst1 nt5 t27 t28 := by
  intro m
  induction m with
  | zero => intros; rfl
  | succ m ih =>
    intro setst1 nt5 t27 t28
    have h : loopN (law06_great_F8 call n ) (m + 1) (law06_great_sh8 setst1 nt5 t27 t28) = law06_great_s8  (fun (setst1 : den (LLAttr)) (nt5 : den (.int .i64)) (it7 : den (.int .i64)) (t27 : den (.int .i64)) (t28 : den (.int .i64)) (t42 : den (.int .i64)) (t43 : den (.int .i64)) => loopN (law06_great_F12 call n (loopN (law06_great_F8 call n ) m)) n (law06_great_sh12 setst1 nt5 it7 t27 t28 t42 t43))  (fun (setst1 : den (LLAttr)) (nt5 : den (.int .i64)) (t27 : den (.int .i64)) (t28 : den (.int .i64)) => loopN (law06_great_F8 call n ) m (law06_great_sh8 setst1 nt5 t27 t28)) setst1 nt5 t27 t28 := by kernel_rfl
    have e12 : (fun (setst1 : den (LLAttr)) (nt5 : den (.int .i64)) (it7 : den (.int .i64)) (t27 : den (.int .i64)) (t28 : den (.int .i64)) (t42 : den (.int .i64)) (t43 : den (.int .i64)) => loopN (law06_great_F12 call n (loopN (law06_great_F8 call n ) m)) n (law06_great_sh12 setst1 nt5 it7 t27 t28 t42 t43)) = law06_great_l12  n (fun (setst1 : den (LLAttr)) (nt5 : den (.int .i64)) (t27 : den (.int .i64)) (t28 : den (.int .i64)) => (loopN (law06_great_F8 call n ) m) (law06_great_sh8 setst1 nt5 t27 t28)) n := by funext setst1 nt5 it7 t27 t28 t42 t43; exact law06_great_l12_eq call n (loopN (law06_great_F8 call n ) m) n setst1 nt5 it7 t27 t28 t42 t43
    have e0 : (fun (setst1 : den (LLAttr)) (nt5 : den (.int .i64)) (t27 : den (.int .i64)) (t28 : den (.int .i64)) => loopN (law06_great_F8 call n ) m (law06_great_sh8 setst1 nt5 t27 t28)) = (fun (setst1 : den (LLAttr)) (nt5 : den (.int .i64)) (t27 : den (.int .i64)) (t28 : den (.int .i64)) => law06_great_l8  n  m setst1 nt5 t27 t28) := by funext setst1 nt5 t27 t28; exact ih setst1 nt5 t27 t28
    rw [h, e12, e0]; rfl
noncomputable def law06_great_s3  (LL8 : den (LLAttr) → den (.int .i64) → den (.int .i64) → den (.int .i64) → Option (denR (.one (.bool))))  (LS3 : den (LChange) → den (LLAttr) → den (.int .i64) → den (.int .i64) → den (.int .i64) → Option (denR (.one (.bool)))) (pt0 : den (LChange)) (setst1 : den (LLAttr)) (nt5 : den (.int .i64)) (t12 : den (.int .i64)) (t13 : den (.int .i64)) : Option (denR (.one (.bool))) := (bif (decide (t13 < t12)) then (bif decide (0 ≤ t13) && decide (t13 < (pt0.length : Int)) then LS3 pt0 setst1 (IntKind.wrap .i64 (nt5 + (ByteArray.size ((((((((pt0.getD (Int.toNat t13) (dflt (TChange))).2).2).1).2).2).2).1) : Int))) t12 (IntKind.wrap .i64 (t13 + (1 : Int))) else none) else LL8 setst1 nt5 (setst1.length : Int) (0 : Int))
noncomputable def law06_great_l3  (n : Nat)  : Nat → den (LChange) → den (LLAttr) → den (.int .i64) → den (.int .i64) → den (.int .i64) → Option (denR (.one (.bool)))
  | 0, _, _, _, _, _ => none
  | m + 1, pt0, setst1, nt5, t12, t13 => law06_great_s3  (law06_great_l8  n  n)  (fun (pt0 : den (LChange)) (setst1 : den (LLAttr)) (nt5 : den (.int .i64)) (t12 : den (.int .i64)) (t13 : den (.int .i64)) => law06_great_l3  n  m pt0 setst1 nt5 t12 t13) pt0 setst1 nt5 t12 t13
noncomputable def law06_great_g3  (LL8 : den (LLAttr) → den (.int .i64) → den (.int .i64) → den (.int .i64) → Option (denR (.one (.bool))))  : List (den (TChange)) → den (LLAttr) → den (.int .i64) → Option (denR (.one (.bool)))
  | [], setst1, nt5 => LL8 setst1 nt5 (setst1.length : Int) (0 : Int)
  | x :: r, setst1, nt5 => law06_great_g3  LL8  r setst1 (IntKind.wrap .i64 (nt5 + (ByteArray.size x.2.2.1.2.2.2.1 : Int)))
theorem law06_great_l3_list  (n : Nat)  : ∀ (m i : Nat) (pt0 : den (LChange)) (setst1 : den (LLAttr)) (nt5 : den (.int .i64)), pt0.length - i < m → i ≤ pt0.length → pt0.length < 4611686018427387904 → law06_great_l3  n  m pt0 setst1 nt5 (pt0.length : Int) (i : Int) = law06_great_g3  (law06_great_l8  n  n)  (pt0.drop i) setst1 nt5 := by
  intro m
  induction m with
  | zero => intro i pt0 setst1 nt5 h1; omega
  | succ m ih =>
    intro i pt0 setst1 nt5 h1 h2 h3
    show law06_great_s3  (law06_great_l8  n  n)  (fun (pt0 : den (LChange)) (setst1 : den (LLAttr)) (nt5 : den (.int .i64)) (t12 : den (.int .i64)) (t13 : den (.int .i64)) => law06_great_l3  n  m pt0 setst1 nt5 t12 t13) pt0 setst1 nt5 (pt0.length : Int) (i : Int) = _
    unfold law06_great_s3
    have b0 : decide ((0 : Int) ≤ (i : Int)) = true := decide_eq_true (by omega)
    rcases Nat.lt_or_ge i pt0.length with hi | hi
    · have b1 : decide ((i : Int) < (pt0.length : Int)) = true := decide_eq_true (by omega)
      have bw : IntKind.i64.wrap ((i : Int) + (1 : Int)) = ((i + 1 : Nat) : Int) := w64s (by omega)
      have ih' : ∀ (setst1 : den (LLAttr)) (nt5 : den (.int .i64)), law06_great_l3  n  m pt0 setst1 nt5 (pt0.length : Int) ((i + 1 : Nat) : Int) = law06_great_g3  (law06_great_l8  n  n)  (pt0.drop (i + 1)) setst1 nt5 := fun setst1 nt5 => ih (i + 1) pt0 setst1 nt5 (by omega) (by omega) h3
      simp only [b0, b1, bw, Bool.and_true, Bool.true_and, cond_true, Int.toNat_natCast, ih']
      rw [drop_getD hi (dflt (TChange))]
      rfl
    · have b1 : decide ((i : Int) < (pt0.length : Int)) = false := decide_eq_false (by omega)
      simp only [b1, cond_false]
      rw [List.drop_eq_nil_of_le hi]
      rfl
noncomputable def law06_great_F3 (call : Call0) (n : Nat)  : (St → Option (denR (.one (.bool)))) → St → Option (denR (.one (.bool))) := fun rec => exec cfg call n 8 (cat B8 [1, 1, 0, 1, 0, 0]) (kLoop rec (lk2 8 3 cfg.keep) (kBlock 0 (kSq (exec cfg call n 8 (cat B8 [1, 1, 1])) (kret cfg Go.Proofs.Try.f8 (.one (.bool))))))
theorem law06_great_l3_eq (call : Call0) (n : Nat)  : ∀ (m : Nat) (pt0 : den (LChange)) (setst1 : den (LLAttr)) (nt5 : den (.int .i64)) (t12 : den (.int .i64)) (t13 : den (.int .i64)), loopN (law06_great_F3 call n ) m (law06_great_sh3 pt0 setst1 nt5 t12 t13) = law06_great_l3  n  m pt0 setst1 nt5 t12 t13 := by
  intro m
  induction m with
  | zero => intros; rfl
  | succ m ih =>
    intro pt0 setst1 nt5 t12 t13
    have h : loopN (law06_great_F3 call n ) (m + 1) (law06_great_sh3 pt0 setst1 nt5 t12 t13) = law06_great_s3  (fun (setst1 : den (LLAttr)) (nt5 : den (.int .i64)) (t27 : den (.int .i64)) (t28 : den (.int .i64)) => loopN (law06_great_F8 call n ) n (law06_great_sh8 setst1 nt5 t27 t28))  (fun (pt0 : den (LChange)) (setst1 : den (LLAttr)) (nt5 : den (.int .i64)) (t12 : den (.int .i64)) (t13 : den (.int .i64)) => loopN (law06_great_F3 call n ) m (law06_great_sh3 pt0 setst1 nt5 t12 t13)) pt0 setst1 nt5 t12 t13 := by kernel_rfl
    have e8 : (fun (setst1 : den (LLAttr)) (nt5 : den (.int .i64)) (t27 : den (.int .i64)) (t28 : den (.int .i64)) => loopN (law06_great_F8 call n ) n (law06_great_sh8 setst1 nt5 t27 t28)) = law06_great_l8  n  n := by funext setst1 nt5 t27 t28; exact law06_great_l8_eq call n  n setst1 nt5 t27 t28
    have e0 : (fun (pt0 : den (LChange)) (setst1 : den (LLAttr)) (nt5 : den (.int .i64)) (t12 : den (.int .i64)) (t13 : den (.int .i64)) => loopN (law06_great_F3 call n ) m (law06_great_sh3 pt0 setst1 nt5 t12 t13)) = (fun (pt0 : den (LChange)) (setst1 : den (LLAttr)) (nt5 : den (.int .i64)) (t12 : den (.int .i64)) (t13 : den (.int .i64)) => law06_great_l3  n  m pt0 setst1 nt5 t12 t13) := by funext pt0 setst1 nt5 t12 t13; exact ih pt0 setst1 nt5 t12 t13
    rw [h, e8, e0]; rfl
noncomputable def law06_great_top  (LL3 : den (LChange) → den (LLAttr) → den (.int .i64) → den (.int .i64) → den (.int .i64) → Option (denR (.one (.bool)))) (a0 : den (LChange)) (a1 : den (LLAttr)) : Option (denR (.one (.bool))) := LL3 a0 a1 (a0.length : Int) (a0.length : Int) (0 : Int)
noncomputable def law06_great : Nat → den (LChange) → den (LLAttr) → Option (denR (.one (.bool)))
  | 0, _, _ => none
  | n + 1, a0, a1 => law06_great_top  (law06_great_l3  n n) a0 a1
theorem law06_great_eq (n : Nat) (a0 : den (LChange)) (a1 : den (LLAttr)) : (acalls cfg intr intrI n).p 8 [.s (.val (LChange) a0), .s (.val (LLAttr) a1)] (.one (.bool)) = law06_great n a0 a1 := by
  cases n with
  | zero => rfl
  | succ n =>
    have h : (acalls cfg intr intrI (n + 1)).p 8 [.s (.val (LChange) a0), .s (.val (LLAttr) a1)] (.one (.bool)) = law06_great_top  (fun (pt0 : den (LChange)) (setst1 : den (LLAttr)) (nt5 : den (.int .i64)) (t12 : den (.int .i64)) (t13 : den (.int .i64)) => loopN (law06_great_F3 (acalls cfg intr intrI n) n) n (law06_great_sh3 pt0 setst1 nt5 t12 t13)) a0 a1 := by kernel_rfl
    have e3 : (fun (pt0 : den (LChange)) (setst1 : den (LLAttr)) (nt5 : den (.int .i64)) (t12 : den (.int .i64)) (t13 : den (.int .i64)) => loopN (law06_great_F3 (acalls cfg intr intrI n) n) n (law06_great_sh3 pt0 setst1 nt5 t12 t13)) = law06_great_l3  n n := by funext pt0 setst1 nt5 t12 t13; exact law06_great_l3_eq (acalls cfg intr intrI n) n n pt0 setst1 nt5 t12 t13
    rw [h, e3]; rfl

noncomputable def law06_known_1_top   (a0 : den (.int .i64)) : Option (denR (.one (TValue))) := some ((2 : Int), (a0, ((0 : Int), ((⟨#[]⟩ : ByteArray), ()))))
noncomputable def law06_known_1 : Nat → den (.int .i64) → Option (denR (.one (TValue)))
  | 0, _ => none
  | n + 1, a0 => law06_known_1_top   a0
theorem law06_known_1_eq (n : Nat) (a0 : den (.int .i64)) : (acalls cfg intr intrI n).p 27 [.s (.val (.int .i64) a0)] (.one (TValue)) = law06_known_1 n a0 := by
  cases n with
  | zero => rfl
  | succ n =>
    have h : (acalls cfg intr intrI (n + 1)).p 27 [.s (.val (.int .i64) a0)] (.one (TValue)) = law06_known_1_top   a0 := by kernel_rfl
    rw [h]; rfl

noncomputable def patch_change_top   (a0 : den (TAttr)) : Option (denR (.one (TChange))) := some (a0.1, (false, (a0.2.1, ())))
noncomputable def patch_change : Nat → den (TAttr) → Option (denR (.one (TChange)))
  | 0, _ => none
  | n + 1, a0 => patch_change_top   a0
theorem patch_change_eq (n : Nat) (a0 : den (TAttr)) : (acalls cfg intr intrI n).p 28 [.s (.val (TAttr) a0)] (.one (TChange)) = patch_change n a0 := by
  cases n with
  | zero => rfl
  | succ n =>
    have h : (acalls cfg intr intrI (n + 1)).p 28 [.s (.val (TAttr) a0)] (.one (TChange)) = patch_change_top   a0 := by kernel_rfl
    rw [h]; rfl

noncomputable def B15 : Code := (Go.Proofs.Try.f15.body).getD .skip
noncomputable def patch_Diff_sh6 (t0 : den (LAttr)) (t6 : den (.int .i64)) (t11 : den (LAttr)) (t12 : den (.int .i64)) (t13 : den (.int .i64)) (o5 : den (LChange)) (o8 : den (TAttr)) : St := ⟨[.s (.val (LAttr) t0), U, U, U, U, .s (.arr 5), .s (.val (.int .i64) t6), U, .s (.ref 8 []), U, U, .s (.val (LAttr) t11), .s (.val (.int .i64) t12), .s (.val (.int .i64) t13), U, U, U, U, U, U, U, U, U, U, U, U, U, U, U, U, U, U, U, U, U, U, U, U, U, U, U, U, U, U, U, U, U, U, U, U, U, U, U, U, U, U, U, U, U, U, U, U, U, U, U, U, U, U, U, U, U, U, U, U, U, U, U, U, U, U, U, U, U, U, U, U, U, U, U, U, U, U, U], [(5, .arr 40 (TChange) o5), (8, .box (TAttr) o8)]⟩
noncomputable def patch_Diff_sh16 (t79 : den (LAttr)) (t80 : den (.int .i64)) (t81 : den (.int .i64)) (o5 : den (LChange)) : St := ⟨[U, U, U, U, U, .s (.arr 5), U, U, U, U, U, U, U, U, U, U, U, U, U, U, U, U, U, U, U, U, U, U, U, U, U, U, U, U, U, U, U, U, U, U, U, U, U, U, U, U, U, U, U, U, U, U, U, U, U, U, U, U, U, U, U, U, U, U, U, U, U, U, U, U, U, U, U, U, U, U, U, U, U, .s (.val (LAttr) t79), .s (.val (.int .i64) t80), .s (.val (.int .i64) t81), U, U, U, U, U, U, U, U, U, U, U], [(5, .arr 40 (TChange) o5)]⟩
noncomputable def patch_Diff_sh4 (t0 : den (LAttr)) (t6 : den (.int .i64)) (t11 : den (LAttr)) (t12 : den (.int .i64)) (t13 : den (.int .i64)) (o5 : den (LChange)) : St := ⟨[.s (.val (LAttr) t0), U, U, U, U, .s (.arr 5), .s (.val (.int .i64) t6), U, U, U, U, .s (.val (LAttr) t11), .s (.val (.int .i64) t12), .s (.val (.int .i64) t13), U, U, U, U, U, U, U, U, U, U, U, U, U, U, U, U, U, U, U, U, U, U, U, U, U, U, U, U, U, U, U, U, U, U, U, U, U, U, U, U, U, U, U, U, U, U, U, U, U, U, U, U, U, U, U, U, U, U, U, U, U, U, U, U, U, U, U, U, U, U, U, U, U, U, U, U, U, U, U], [(5, .arr 40 (TChange) o5)]⟩
noncomputable def patch_Diff_s6 (C_patch_change : den (TAttr) → Option (denR (.one (TChange))))  (LS4 : den (LAttr) → den (.int .i64) → den (LAttr) → den (.int .i64) → den (.int .i64) → den (LChange) → Option (denR (.one (LChange)))) (LS6 : den (LAttr) → den (.int .i64) → den (LAttr) → den (.int .i64) → den (.int .i64) → den (LChange) → den (TAttr) → Option (denR (.one (LChange)))) (t0 : den (LAttr)) (t6 : den (.int .i64)) (t11 : den (LAttr)) (t12 : den (.int .i64)) (t13 : den (.int .i64)) (o5 : den (LChange)) (o8 : den (TAttr)) : Option (denR (.one (LChange))) := (bif (decide (t6 < (t0.length : Int))) then (bif decide (0 ≤ t6) && decide (t6 < (t0.length : Int)) then (bif (decide ((t0.getD (Int.toNat t6) (dflt (TAttr))).1 < o8.1)) then (bif decide (0 ≤ t6) && decide (t6 < (t0.length : Int)) then (bif decide ((o5.length + ([((t0.getD (Int.toNat t6) (dflt (TAttr))).1, (true, (((0 : Int), ((0 : Int), ((0 : Int), ((⟨#[]⟩ : ByteArray), ())))), ())))] : List (den (TChange))).length) * 56 ≤ 140737488355328) then LS6 t0 (IntKind.wrap .i64 (t6 + (1 : Int))) t11 t12 t13 (o5 ++ ([((t0.getD (Int.toNat t6) (dflt (TAttr))).1, (true, (((0 : Int), ((0 : Int), ((0 : Int), ((⟨#[]⟩ : ByteArray), ())))), ())))] : List (den (TChange)))) o8 else none) else none) else (bif (decide (t6 < (t0.length : Int))) then (bif decide (0 ≤ t6) && decide (t6 < (t0.length : Int)) then (bif (decide ((t0.getD (Int.toNat t6) (dflt (TAttr))).1 = o8.1)) then (bif decide (0 ≤ t6) && decide (t6 < (t0.length : Int)) then (bif (!eqT (TValue) (((t0.getD (Int.toNat t6) (dflt (TAttr))).2).1) o8.2.1) then ((C_patch_change o8).bind fun r1 => (bif decide ((o5.length + ([r1] : List (den (TChange))).length) * 56 ≤ 140737488355328) then LS4 t0 (IntKind.wrap .i64 (t6 + (1 : Int))) t11 t12 (IntKind.wrap .i64 (t13 + (1 : Int))) (o5 ++ ([r1] : List (den (TChange)))) else none)) else LS4 t0 (IntKind.wrap .i64 (t6 + (1 : Int))) t11 t12 (IntKind.wrap .i64 (t13 + (1 : Int))) o5) else none) else ((C_patch_change o8).bind fun r2 => (bif decide ((o5.length + ([r2] : List (den (TChange))).length) * 56 ≤ 140737488355328) then LS4 t0 t6 t11 t12 (IntKind.wrap .i64 (t13 + (1 : Int))) (o5 ++ ([r2] : List (den (TChange)))) else none))) else none) else ((C_patch_change o8).bind fun r3 => (bif decide ((o5.length + ([r3] : List (den (TChange))).length) * 56 ≤ 140737488355328) then LS4 t0 t6 t11 t12 (IntKind.wrap .i64 (t13 + (1 : Int))) (o5 ++ ([r3] : List (den (TChange)))) else none)))) else none) else (bif (decide (t6 < (t0.length : Int))) then (bif decide (0 ≤ t6) && decide (t6 < (t0.length : Int)) then (bif (decide ((t0.getD (Int.toNat t6) (dflt (TAttr))).1 = o8.1)) then (bif decide (0 ≤ t6) && decide (t6 < (t0.length : Int)) then (bif (!eqT (TValue) (((t0.getD (Int.toNat t6) (dflt (TAttr))).2).1) o8.2.1) then ((C_patch_change o8).bind fun r4 => (bif decide ((o5.length + ([r4] : List (den (TChange))).length) * 56 ≤ 140737488355328) then LS4 t0 (IntKind.wrap .i64 (t6 + (1 : Int))) t11 t12 (IntKind.wrap .i64 (t13 + (1 : Int))) (o5 ++ ([r4] : List (den (TChange)))) else none)) else LS4 t0 (IntKind.wrap .i64 (t6 + (1 : Int))) t11 t12 (IntKind.wrap .i64 (t13 + (1 : Int))) o5) else none) else ((C_patch_change o8).bind fun r5 => (bif decide ((o5.length + ([r5] : List (den (TChange))).length) * 56 ≤ 140737488355328) then LS4 t0 t6 t11 t12 (IntKind.wrap .i64 (t13 + (1 : Int))) (o5 ++ ([r5] : List (den (TChange)))) else none))) else none) else ((C_patch_change o8).bind fun r6 => (bif decide ((o5.length + ([r6] : List (den (TChange))).length) * 56 ≤ 140737488355328) then LS4 t0 t6 t11 t12 (IntKind.wrap .i64 (t13 + (1 : Int))) (o5 ++ ([r6] : List (den (TChange)))) else none))))
noncomputable def patch_Diff_l6 (C_patch_change : den (TAttr) → Option (denR (.one (TChange)))) (n : Nat) (LS4 : den (LAttr) → den (.int .i64) → den (LAttr) → den (.int .i64) → den (.int .i64) → den (LChange) → Option (denR (.one (LChange)))) : Nat → den (LAttr) → den (.int .i64) → den (LAttr) → den (.int .i64) → den (.int .i64) → den (LChange) → den (TAttr) → Option (denR (.one (LChange)))
  | 0, _, _, _, _, _, _, _ => none
  | m + 1, t0, t6, t11, t12, t13, o5, o8 => patch_Diff_s6 C_patch_change  LS4 (fun (t0 : den (LAttr)) (t6 : den (.int .i64)) (t11 : den (LAttr)) (t12 : den (.int .i64)) (t13 : den (.int .i64)) (o5 : den (LChange)) (o8 : den (TAttr)) => patch_Diff_l6 C_patch_change n LS4 m t0 t6 t11 t12 t13 o5 o8) t0 t6 t11 t12 t13 o5 o8
noncomputable def patch_Diff_g6 (C_patch_change : den (TAttr) → Option (denR (.one (TChange))))  (LS4 : den (LAttr) → den (.int .i64) → den (LAttr) → den (.int .i64) → den (.int .i64) → den (LChange) → Option (denR (.one (LChange)))) : List (den (TAttr)) → den (LAttr) → den (.int .i64) → den (LAttr) → den (.int .i64) → den (.int .i64) → den (LChange) → den (TAttr) → Option (denR (.one (LChange)))
  | [], t0, t6, t11, t12, t13, o5, o8 => ((C_patch_change o8).bind fun r7 => (bif decide ((o5.length + ([r7] : List (den (TChange))).length) * 56 ≤ 140737488355328) then LS4 t0 t6 t11 t12 (IntKind.wrap .i64 (t13 + (1 : Int))) (o5 ++ ([r7] : List (den (TChange)))) else none))
  | x :: r, t0, t6, t11, t12, t13, o5, o8 => (bif (decide (x.1 < o8.1)) then (bif decide ((o5.length + ([(x.1, (true, (((0 : Int), ((0 : Int), ((0 : Int), ((⟨#[]⟩ : ByteArray), ())))), ())))] : List (den (TChange))).length) * 56 ≤ 140737488355328) then patch_Diff_g6 C_patch_change  LS4 r t0 (t6 + (1 : Int)) t11 t12 t13 (o5 ++ ([(x.1, (true, (((0 : Int), ((0 : Int), ((0 : Int), ((⟨#[]⟩ : ByteArray), ())))), ())))] : List (den (TChange)))) o8 else none) else (bif (decide (x.1 = o8.1)) then (bif (!eqT (TValue) x.2.1 o8.2.1) then ((C_patch_change o8).bind fun r8 => (bif decide ((o5.length + ([r8] : List (den (TChange))).length) * 56 ≤ 140737488355328) then LS4 t0 (t6 + (1 : Int)) t11 t12 (IntKind.wrap .i64 (t13 + (1 : Int))) (o5 ++ ([r8] : List (den (TChange)))) else none)) else LS4 t0 (t6 + (1 : Int)) t11 t12 (IntKind.wrap .i64 (t13 + (1 : Int))) o5) else ((C_patch_change o8).bind fun r9 => (bif decide ((o5.length + ([r9] : List (den (TChange))).length) * 56 ≤ 140737488355328) then LS4 t0 t6 t11 t12 (IntKind.wrap .i64 (t13 + (1 : Int))) (o5 ++ ([r9] : List (den (TChange)))) else none))))
theorem patch_Diff_l6_list (C_patch_change : den (TAttr) → Option (denR (.one (TChange)))) (n : Nat) (LS4 : den (LAttr) → den (.int .i64) → den (LAttr) → den (.int .i64) → den (.int .i64) → den (LChange) → Option (denR (.one (LChange)))) : ∀ (m i : Nat) (t0 : den (LAttr)) (t11 : den (LAttr)) (t12 : den (.int .i64)) (t13 : den (.int .i64)) (o5 : den (LChange)) (o8 : den (TAttr)), t0.length - i < m → i ≤ t0.length → t0.length < 4611686018427387904 → patch_Diff_l6 C_patch_change n LS4 m t0 (i : Int) t11 t12 t13 o5 o8 = patch_Diff_g6 C_patch_change  LS4 (t0.drop i) t0 (i : Int) t11 t12 t13 o5 o8 := by
  intro m
  induction m with
  | zero => intro i t0 t11 t12 t13 o5 o8 h1; omega
  | succ m ih =>
    intro i t0 t11 t12 t13 o5 o8 h1 h2 h3
    show patch_Diff_s6 C_patch_change  LS4 (fun (t0 : den (LAttr)) (t6 : den (.int .i64)) (t11 : den (LAttr)) (t12 : den (.int .i64)) (t13 : den (.int .i64)) (o5 : den (LChange)) (o8 : den (TAttr)) => patch_Diff_l6 C_patch_change n LS4 m t0 t6 t11 t12 t13 o5 o8) t0 (i : Int) t11 t12 t13 o5 o8 = _
    unfold patch_Diff_s6
    have b0 : decide ((0 : Int) ≤ (i : Int)) = true := decide_eq_true (by omega)
    rcases Nat.lt_or_ge i t0.length with hi | hi
    · have b1 : decide ((i : Int) < (t0.length : Int)) = true := decide_eq_true (by omega)
      have bw : IntKind.i64.wrap ((i : Int) + (1 : Int)) = ((i + 1 : Nat) : Int) := w64s (by omega)
      have ih' : ∀ (t11 : den (LAttr)) (t12 : den (.int .i64)) (t13 : den (.int .i64)) (o5 : den (LChange)) (o8 : den (TAttr)), patch_Diff_l6 C_patch_change n LS4 m t0 ((i + 1 : Nat) : Int) t11 t12 t13 o5 o8 = patch_Diff_g6 C_patch_change  LS4 (t0.drop (i + 1)) t0 ((i + 1 : Nat) : Int) t11 t12 t13 o5 o8 := fun t11 t12 t13 o5 o8 => ih (i + 1) t0 t11 t12 t13 o5 o8 (by omega) (by omega) h3
      simp only [b0, b1, bw, Bool.and_true, Bool.true_and, cond_true, Int.toNat_natCast, ih']
      rw [drop_getD hi (dflt (TAttr))]
      rfl
    · have b1 : decide ((i : Int) < (t0.length : Int)) = false := decide_eq_false (by omega)
      simp only [b1, cond_false]
      rw [List.drop_eq_nil_of_le hi]
      rfl
noncomputable def patch_Diff_F6 (call : Call0) (n : Nat) (r4 : St → Option (denR (.one (LChange)))) : (St → Option (denR (.one (LChange)))) → St → Option (denR (.one (LChange))) := fun rec => exec cfg call n 15 (cat B15 [1, 1, 1, 0, 1, 0, 0, 1, 1, 0, 0, 1, 0, 0, 0]) (kLoop rec (lk2 15 6 cfg.keep) (kBlock 2 (kSq (exec cfg call n 15 (cat B15 [1, 1, 1, 0, 1, 0, 0, 1, 1, 0, 0, 1, 1])) (kBlock 1 (kSq (exec cfg call n 15 (cat B15 [1, 1, 1, 0, 1, 0, 0, 1, 1, 1])) (kLoop r4 (lk2 15 4 cfg.keep) (kBlock 0 (kSq (exec cfg call n 15 (cat B15 [1, 1, 1, 1])) (kret cfg Go.Proofs.Try.f15 (.one (LChange)))))))))))
theorem patch_Diff_l6_eq (call : Call0) (n : Nat) (r4 : St → Option (denR (.one (LChange)))) : ∀ (m : Nat) (t0 : den (LAttr)) (t6 : den (.int .i64)) (t11 : den (LAttr)) (t12 : den (.int .i64)) (t13 : den (.int .i64)) (o5 : den (LChange)) (o8 : den (TAttr)), loopN (patch_Diff_F6 call n r4) m (patch_Diff_sh6 t0 t6 t11 t12 t13 o5 o8) = patch_Diff_l6 (fun (a0 : den (TAttr)) => call.p 28 [.s (.val (TAttr) a0)] (.one (TChange))) n (fun (t0 : den (LAttr)) (t6 : den (.int .i64)) (t11 : den (LAttr)) (t12 : den (.int .i64)) (t13 : den (.int .i64)) (o5 : den (LChange)) => r4 (patch_Diff_sh4 t0 t6 t11 t12 t13 o5)) m t0 t6 t11 t12 t13 o5 o8 := by
  intro m
  induction m with
  | zero => intros; rfl
  | succ m ih =>
    intro t0 t6 t11 t12 t13 o5 o8
    have h : loopN (patch_Diff_F6 call n r4) (m + 1) (patch_Diff_sh6 t0 t6 t11 t12 t13 o5 o8) = patch_Diff_s6 (fun (a0 : den (TAttr)) => call.p 28 [.s (.val (TAttr) a0)] (.one (TChange)))  (fun (t0 : den (LAttr)) (t6 : den (.int .i64)) (t11 : den (LAttr)) (t12 : den (.int .i64)) (t13 : den (.int .i64)) (o5 : den (LChange)) => r4 (patch_Diff_sh4 t0 t6 t11 t12 t13 o5)) (fun (t0 : den (LAttr)) (t6 : den (.int .i64)) (t11 : den (LAttr)) (t12 : den (.int .i64)) (t13 : den (.int .i64)) (o5 : den (LChange)) (o8 : den (TAttr)) => loopN (patch_Diff_F6 call n r4) m (patch_Diff_sh6 t0 t6 t11 t12 t13 o5 o8)) t0 t6 t11 t12 t13 o5 o8 := by kernel_rfl
    have e0 : (fun (t0 : den (LAttr)) (t6 : den (.int .i64)) (t11 : den (LAttr)) (t12 : den (.int .i64)) (t13 : den (.int .i64)) (o5 : den (LChange)) (o8 : den (TAttr)) => loopN (patch_Diff_F6 call n r4) m (patch_Diff_sh6 t0 t6 t11 t12 t13 o5 o8)) = (fun (t0 : den (LAttr)) (t6 : den (.int .i64)) (t11 : den (LAttr)) (t12 : den (.int .i64)) (t13 : den (.int .i64)) (o5 : den (LChange)) (o8 : den (TAttr)) => patch_Diff_l6 (fun (a0 : den (TAttr)) => call.p 28 [.s (.val (TAttr) a0)] (.one (TChange))) n (fun (t0 : den (LAttr)) (t6 : den (.int .i64)) (t11 : den (LAttr)) (t12 : den (.int .i64)) (t13 : den (.int .i64)) (o5 : den (LChange)) => r4 (patch_Diff_sh4 t0 t6 t11 t12 t13 o5)) m t0 t6 t11 t12 t13 o5 o8) := by funext t0 t6 t11 t12 t13 o5 o8; exact ih t0 t6 t11 t12 t13 o5 o8
    rw [h, e0]; rfl
noncomputable def patch_Diff_s16 (C_patch_change : den (TAttr) → Option (denR (.one (TChange))))   (LS16 : den (LAttr) → den (.int .i64) → den (.int .i64) → den (LChange) → Option (denR (.one (LChange)))) (t79 : den (LAttr)) (t80 : den (.int .i64)) (t81 : den (.int .i64)) (o5 : den (LChange)) : Option (denR (.one (LChange))) := (bif (decide (t81 < t80)) then (bif decide (0 ≤ t81) && decide (t81 < (t79.length : Int)) then (bif decide ((o5.length + ([((t79.getD (Int.toNat t81) (dflt (TAttr))).1, (true, (((0 : Int), ((0 : Int), ((0 : Int), ((⟨#[]⟩ : ByteArray), ())))), ())))] : List (den (TChange))).length) * 56 ≤ 140737488355328) then LS16 t79 t80 (IntKind.wrap .i64 (t81 + (1 : Int))) (o5 ++ ([((t79.getD (Int.toNat t81) (dflt (TAttr))).1, (true, (((0 : Int), ((0 : Int), ((0 : Int), ((⟨#[]⟩ : ByteArray), ())))), ())))] : List (den (TChange)))) else none) else none) else some o5)
noncomputable def patch_Diff_l16 (C_patch_change : den (TAttr) → Option (denR (.one (TChange)))) (n : Nat)  : Nat → den (LAttr) → den (.int .i64) → den (.int .i64) → den (LChange) → Option (denR (.one (LChange)))
  | 0, _, _, _, _ => none
  | m + 1, t79, t80, t81, o5 => patch_Diff_s16 C_patch_change   (fun (t79 : den (LAttr)) (t80 : den (.int .i64)) (t81 : den (.int .i64)) (o5 : den (LChange)) => patch_Diff_l16 C_patch_change n  m t79 t80 t81 o5) t79 t80 t81 o5
noncomputable def patch_Diff_g16 (C_patch_change : den (TAttr) → Option (denR (.one (TChange))))   : List (den (TAttr)) → den (LChange) → Option (denR (.one (LChange)))
  | [], o5 => some o5
  | x :: r, o5 => (bif decide ((o5.length + ([(x.1, (true, (((0 : Int), ((0 : Int), ((0 : Int), ((⟨#[]⟩ : ByteArray), ())))), ())))] : List (den (TChange))).length) * 56 ≤ 140737488355328) then patch_Diff_g16 C_patch_change   r (o5 ++ ([(x.1, (true, (((0 : Int), ((0 : Int), ((0 : Int), ((⟨#[]⟩ : ByteArray), ())))), ())))] : List (den (TChange)))) else none)
theorem patch_Diff_l16_list (C_patch_change : den (TAttr) → Option (denR (.one (TChange)))) (n : Nat)  : ∀ (m i : Nat) (t79 : den (LAttr)) (o5 : den (LChange)), t79.length - i < m → i ≤ t79.length → t79.length < 4611686018427387904 → patch_Diff_l16 C_patch_change n  m t79 (t79.length : Int) (i : Int) o5 = patch_Diff_g16 C_patch_change   (t79.drop i) o5 := by
  intro m
  induction m with
  | zero => intro i t79 o5 h1; omega
  | succ m ih =>
    intro i t79 o5 h1 h2 h3
    show patch_Diff_s16 C_patch_change   (fun (t79 : den (LAttr)) (t80 : den (.int .i64)) (t81 : den (.int .i64)) (o5 : den (LChange)) => patch_Diff_l16 C_patch_change n  m t79 t80 t81 o5) t79 (t79.length : Int) (i : Int) o5 = _
    unfold patch_Diff_s16
    have b0 : decide ((0 : Int) ≤ (i : Int)) = true := decide_eq_true (by omega)
    rcases Nat.lt_or_ge i t79.length with hi | hi
    · have b1 : decide ((i : Int) < (t79.length : Int)) = true := decide_eq_true (by omega)
      have bw : IntKind.i64.wrap ((i : Int) + (1 : Int)) = ((i + 1 : Nat) : Int) := w64s (by omega)
      have ih' : ∀ (o5 : den (LChange)), patch_Diff_l16 C_patch_change n  m t79 (t79.length : Int) ((i + 1 : Nat) : Int) o5 = patch_Diff_g16 C_patch_change   (t79.drop (i + 1)) o5 := fun o5 => ih (i + 1) t79 o5 (by omega) (by omega) h3
      simp only [b0, b1, bw, Bool.and_true, Bool.true_and, cond_true, Int.toNat_natCast, ih']
      rw [drop_getD hi (dflt (TAttr))]
      rfl
    · have b1 : decide ((i : Int) < (t79.length : Int)) = false := decide_eq_false (by omega)
      simp only [b1, cond_false]
      rw [List.drop_eq_nil_of_le hi]
      rfl
noncomputable def patch_Diff_F16 (call : Call0) (n : Nat)  : (St → Option (denR (.one (LChange)))) → St → Option (denR (.one (LChange))) := fun rec => exec cfg call n 15 (cat B15 [1, 1, 1, 1, 0, 1, 0, 0]) (kLoop rec (lk2 15 16 cfg.keep) (kBlock 4 (kSq (exec cfg call n 15 (cat B15 [1, 1, 1, 1, 1])) (kret cfg Go.Proofs.Try.f15 (.one (LChange))))))
theorem patch_Diff_l16_eq (call : Call0) (n : Nat)  : ∀ (m : Nat) (t79 : den (LAttr)) (t80 : den (.int .i64)) (t81 : den (.int .i64)) (o5 : den (LChange)), loopN (patch_Diff_F16 call n ) m (patch_Diff_sh16 t79 t80 t81 o5) = patch_Diff_l16 (fun (a0 : den (TAttr)) => call.p 28 [.s (.val (TAttr) a0)] (.one (TChange))) n  m t79 t80 t81 o5 := by
  intro m
  induction m with
  | zero => intros; rfl
  | succ m ih =>
    intro t79 t80 t81 o5
    have h : loopN (patch_Diff_F16 call n ) (m + 1) (patch_Diff_sh16 t79 t80 t81 o5) = patch_Diff_s16 (fun (a0 : den (TAttr)) => call.p 28 [.s (.val (TAttr) a0)] (.one (TChange)))   (fun (t79 : den (LAttr)) (t80 : den (.int .i64)) (t81 : den (.int .i64)) (o5 : den (LChange)) => loopN (patch_Diff_F16 call n ) m (patch_Diff_sh16 t79 t80 t81 o5)) t79 t80 t81 o5 := by kernel_rfl
    have e0 : (fun (t79 : den (LAttr)) (t80 : den (.int .i64)) (t81 : den (.int .i64)) (o5 : den (LChange)) => loopN (patch_Diff_F16 call n ) m (patch_Diff_sh16 t79 t80 t81 o5)) = (fun (t79 : den (LAttr)) (t80 : den (.int .i64)) (t81 : den (.int .i64)) (o5 : den (LChange)) => patch_Diff_l16 (fun (a0 : den (TAttr)) => call.p 28 [.s (.val (TAttr) a0)] (.one (TChange))) n  m t79 t80 t81 o5) := by funext t79 t80 t81 o5; exact ih t79 t80 t81 o5
    rw [h, e0]; rfl
noncomputable def patch_Diff_s4 (C_patch_change : den (TAttr) → Option (denR (.one (TChange)))) (LL6 : den (LAttr) → den (.int .i64) → den (LAttr) → den (.int .i64) → den (.int .i64) → den (LChange) → den (TAttr) → Option (denR (.one (LChange)))) (LL16 : den (LAttr) → den (.int .i64) → den (.int .i64) → den (LChange) → Option (denR (.one (LChange))))  (LS4 : den (LAttr) → den (.int .i64) → den (LAttr) → den (.int .i64) → den (.int .i64) → den (LChange) → Option (denR (.one (LChange)))) (t0 : den (LAttr)) (t6 : den (.int .i64)) (t11 : den (LAttr)) (t12 : den (.int .i64)) (t13 : den (.int .i64)) (o5 : den (LChange)) : Option (denR (.one (LChange))) := (bif (decide (t13 < t12)) then (bif decide (0 ≤ t13) && decide (t13 < (t11.length : Int)) then LL6 t0 t6 t11 t12 t13 o5 (t11.getD (Int.toNat t13) (dflt (TAttr))) else none) else (bif decide (0 ≤ t6) && decide (t6 ≤ (t0.length : Int)) && decide ((t0.length : Int) ≤ (t0.length : Int)) then LL16 (t0.drop (Int.toNat t6)) ((t0.drop (Int.toNat t6)).length : Int) (0 : Int) o5 else none))
noncomputable def patch_Diff_l4 (C_patch_change : den (TAttr) → Option (denR (.one (TChange)))) (n : Nat)  : Nat → den (LAttr) → den (.int .i64) → den (LAttr) → den (.int .i64) → den (.int .i64) → den (LChange) → Option (denR (.one (LChange)))
  | 0, _, _, _, _, _, _ => none
  | m + 1, t0, t6, t11, t12, t13, o5 => patch_Diff_s4 C_patch_change (patch_Diff_l6 C_patch_change n (fun (t0 : den (LAttr)) (t6 : den (.int .i64)) (t11 : den (LAttr)) (t12 : den (.int .i64)) (t13 : den (.int .i64)) (o5 : den (LChange)) => patch_Diff_l4 C_patch_change n  m t0 t6 t11 t12 t13 o5) n) (patch_Diff_l16 C_patch_change n  n)  (fun (t0 : den (LAttr)) (t6 : den (.int .i64)) (t11 : den (LAttr)) (t12 : den (.int .i64)) (t13 : den (.int .i64)) (o5 : den (LChange)) => patch_Diff_l4 C_patch_change n  m t0 t6 t11 t12 t13 o5) t0 t6 t11 t12 t13 o5
noncomputable def patch_Diff_F4 (call : Call0) (n : Nat)  : (St → Option (denR (.one (LChange)))) → St → Option (denR (.one (LChange))) := fun rec => exec cfg call n 15 (cat B15 [1, 1, 1, 0, 1, 0, 0]) (kLoop rec (lk2 15 4 cfg.keep) (kBlock 0 (kSq (exec cfg call n 15 (cat B15 [1, 1, 1, 1])) (kret cfg Go.Proofs.Try.f15 (.one (LChange))))))
theorem patch_Diff_l4_eq (call : Call0) (n : Nat)  : ∀ (m : Nat) (t0 : den (LAttr)) (t6 : den (.int .i64)) (t11 : den (LAttr)) (t12 : den (.int .i64)) (t13 : den (.int .i64)) (o5 : den (LChange)), loopN (patch_Diff_F4 call n ) m (patch_Diff_sh4 t0 t6 t11 t12 t13 o5) = patch_Diff_l4 (fun (a0 : den (TAttr)) => call.p 28 [.s (.val (TAttr) a0)] (.one (TChange))) n  m t0 t6 t11 t12 t13 o5 := by
  intro m
  induction m with
  | zero => intros; rfl
  | succ m ih =>
    intro t0 t6 t11 t12 t13 o5
    have h : loopN (patch_Diff_F4 call n ) (m + 1) (patch_Diff_sh4 t0 t6 t11 t12 t13 o5) = patch_Diff_s4 (fun (a0 : den (TAttr)) => call.p 28 [.s (.val (TAttr) a0)] (.one (TChange))) (fun (t0 : den (LAttr)) (t6 : den (.int .i64)) (t11 : den (LAttr)) (t12 : den (.int .i64)) (t13 : den (.int .i64)) (o5 : den (LChange)) (o8 : den (TAttr)) => loopN (patch_Diff_F6 call n (loopN (patch_Diff_F4 call n ) m)) n (patch_Diff_sh6 t0 t6 t11 t12 t13 o5 o8)) (fun (t79 : den (LAttr)) (t80 : den (.int .i64)) (t81 : den (.int .i64)) (o5 : den (LChange)) => loopN (patch_Diff_F16 call n ) n (patch_Diff_sh16 t79 t80 t81 o5))  (fun (t0 : den (LAttr)) (t6 : den (.int .i64)) (t11 : den (LAttr)) (t12 : den (.int .i64)) (t13 : den (.int .i64)) (o5 : den (LChange)) => loopN (patch_Diff_F4 call n ) m (patch_Diff_sh4 t0 t6 t11 t12 t13 o5)) t0 t6 t11 t12 t13 o5 := by kernel_rfl
    have e6 : (fun (t0 : den (LAttr)) (t6 : den (.int .i64)) (t11 : den (LAttr)) (t12 : den (.int .i64)) (t13 : den (.int .i64)) (o5 : den (LChange)) (o8 : den (TAttr)) => loopN (patch_Diff_F6 call n (loopN (patch_Diff_F4 call n ) m)) n (patch_Diff_sh6 t0 t6 t11 t12 t13 o5 o8)) = patch_Diff_l6 (fun (a0 : den (TAttr)) => call.p 28 [.s (.val (TAttr) a0)] (.one (TChange))) n (fun (t0 : den (LAttr)) (t6 : den (.int .i64)) (t11 : den (LAttr)) (t12 : den (.int .i64)) (t13 : den (.int .i64)) (o5 : den (LChange)) => (loopN (patch_Diff_F4 call n ) m) (patch_Diff_sh4 t0 t6 t11 t12 t13 o5)) n := by funext t0 t6 t11 t12 t13 o5 o8; exact patch_Diff_l6_eq call n (loopN (patch_Diff_F4 call n ) m) n t0 t6 t11 t12 t13 o5 o8
    have e16 : (fun (t79 : den (LAttr)) (t80 : den (.int .i64)) (t81 : den (.int .i64)) (o5 : den (LChange)) => loopN (patch_Diff_F16 call n ) n (patch_Diff_sh16 t79 t80 t81 o5)) = patch_Diff_l16 (fun (a0 : den (TAttr)) => call.p 28 [.s (.val (TAttr) a0)] (.one (TChange))) n  n := by funext t79 t80 t81 o5; exact patch_Diff_l16_eq call n  n t79 t80 t81 o5
    have e0 : (fun (t0 : den (LAttr)) (t6 : den (.int .i64)) (t11 : den (LAttr)) (t12 : den (.int .i64)) (t13 : den (.int .i64)) (o5 : den (LChange)) => loopN (patch_Diff_F4 call n ) m (patch_Diff_sh4 t0 t6 t11 t12 t13 o5)) = (fun (t0 : den (LAttr)) (t6 : den (.int .i64)) (t11 : den (LAttr)) (t12 : den (.int .i64)) (t13 : den (.int .i64)) (o5 : den (LChange)) => patch_Diff_l4 (fun (a0 : den (TAttr)) => call.p 28 [.s (.val (TAttr) a0)] (.one (TChange))) n  m t0 t6 t11 t12 t13 o5) := by funext t0 t6 t11 t12 t13 o5; exact ih t0 t6 t11 t12 t13 o5
    rw [h, e6, e16, e0]; rfl
noncomputable def patch_Diff_top (C_patch_change : den (TAttr) → Option (denR (.one (TChange)))) (LL4 : den (LAttr) → den (.int .i64) → den (LAttr) → den (.int .i64) → den (.int .i64) → den (LChange) → Option (denR (.one (LChange)))) (a0 : den (LAttr)) (a1 : den (LAttr)) : Option (denR (.one (LChange))) := LL4 a0 (0 : Int) a1 (a1.length : Int) (0 : Int) []
noncomputable def patch_Diff : Nat → den (LAttr) → den (LAttr) → Option (denR (.one (LChange)))
  | 0, _, _ => none
  | n + 1, a0, a1 => patch_Diff_top (patch_change n) (patch_Diff_l4 (patch_change n) n n) a0 a1
theorem patch_Diff_eq (n : Nat) (a0 : den (LAttr)) (a1 : den (LAttr)) : (acalls cfg intr intrI n).p 15 [.s (.val (LAttr) a0), .s (.val (LAttr) a1)] (.one (LChange)) = patch_Diff n a0 a1 := by
  cases n with
  | zero => rfl
  | succ n =>
    have h : (acalls cfg intr intrI (n + 1)).p 15 [.s (.val (LAttr) a0), .s (.val (LAttr) a1)] (.one (LChange)) = patch_Diff_top (fun (a0 : den (TAttr)) => (acalls cfg intr intrI n).p 28 [.s (.val (TAttr) a0)] (.one (TChange))) (fun (t0 : den (LAttr)) (t6 : den (.int .i64)) (t11 : den (LAttr)) (t12 : den (.int .i64)) (t13 : den (.int .i64)) (o5 : den (LChange)) => loopN (patch_Diff_F4 (acalls cfg intr intrI n) n) n (patch_Diff_sh4 t0 t6 t11 t12 t13 o5)) a0 a1 := by kernel_rfl
    have e4 : (fun (t0 : den (LAttr)) (t6 : den (.int .i64)) (t11 : den (LAttr)) (t12 : den (.int .i64)) (t13 : den (.int .i64)) (o5 : den (LChange)) => loopN (patch_Diff_F4 (acalls cfg intr intrI n) n) n (patch_Diff_sh4 t0 t6 t11 t12 t13 o5)) = patch_Diff_l4 (fun (a0 : den (TAttr)) => (acalls cfg intr intrI n).p 28 [.s (.val (TAttr) a0)] (.one (TChange))) n n := by funext t0 t6 t11 t12 t13 o5; exact patch_Diff_l4_eq (acalls cfg intr intrI n) n n t0 t6 t11 t12 t13 o5
    have c_patch_change : (fun (a0 : den (TAttr)) => (acalls cfg intr intrI n).p 28 [.s (.val (TAttr) a0)] (.one (TChange))) = patch_change n := by funext a0; exact patch_change_eq n a0
    rw [h, e4, c_patch_change]; rfl

noncomputable def B29 : Code := (Go.Proofs.Try.f29.body).getD .skip
noncomputable def slices_Equal_Change_sh4 (s1t0 : den (LChange)) (s2t1 : den (LChange)) (t12 : den (.int .i64)) (t13 : den (.int .i64)) : St := ⟨[.s (.val (LChange) s1t0), .s (.val (LChange) s2t1), U, U, U, U, U, U, U, U, U, U, .s (.val (.int .i64) t12), .s (.val (.int .i64) t13), U, U, U, U, U, U, U, U, U, U, U, U], []⟩
noncomputable def slices_Equal_Change_s4    (LS4 : den (LChange) → den (LChange) → den (.int .i64) → den (.int .i64) → Option (denR (.one (.bool)))) (s1t0 : den (LChange)) (s2t1 : den (LChange)) (t12 : den (.int .i64)) (t13 : den (.int .i64)) : Option (denR (.one (.bool))) := (bif (decide (t13 < t12)) then (bif decide (0 ≤ t13) && decide (t13 < (s1t0.length : Int)) then (bif decide (0 ≤ t13) && decide (t13 < (s2t1.length : Int)) then (bif (!eqT (TChange) (s1t0.getD (Int.toNat t13) (dflt (TChange))) (s2t1.getD (Int.toNat t13) (dflt (TChange)))) then some false else LS4 s1t0 s2t1 t12 (IntKind.wrap .i64 (t13 + (1 : Int)))) else none) else none) else some true)
noncomputable def slices_Equal_Change_l4  (n : Nat)  : Nat → den (LChange) → den (LChange) → den (.int .i64) → den (.int .i64) → Option (denR (.one (.bool)))
  | 0, _, _, _, _ => none
  | m + 1, s1t0, s2t1, t12, t13 => slices_Equal_Change_s4    (fun (s1t0 : den (LChange)) (s2t1 : den (LChange)) (t12 : den (.int .i64)) (t13 : den (.int .i64)) => slices_Equal_Change_l4  n  m s1t0 s2t1 t12 t13) s1t0 s2t1 t12 t13
noncomputable def slices_Equal_Change_g4    : List (den (TChange)) → den (LChange) → den (.int .i64) → Option (denR (.one (.bool)))
  | [], s2t1, t13 => some true
  | x :: r, s2t1, t13 => (bif decide (0 ≤ t13) && decide (t13 < (s2t1.length : Int)) then (bif (!eqT (TChange) x (s2t1.getD (Int.toNat t13) (dflt (TChange)))) then some false else slices_Equal_Change_g4    r s2t1 (t13 + (1 : Int))) else none)
theorem slices_Equal_Change_l4_list  (n : Nat)  : ∀ (m i : Nat) (s1t0 : den (LChange)) (s2t1 : den (LChange)), s1t0.length - i < m → i ≤ s1t0.length → s1t0.length < 4611686018427387904 → slices_Equal_Change_l4  n  m s1t0 s2t1 (s1t0.length : Int) (i : Int) = slices_Equal_Change_g4    (s1t0.drop i) s2t1 (i : Int) := by
  intro m
  induction m with
  | zero => intro i s1t0 s2t1 h1; omega
  | succ m ih =>
    intro i s1t0 s2t1 h1 h2 h3
    show slices_Equal_Change_s4    (fun (s1t0 : den (LChange)) (s2t1 : den (LChange)) (t12 : den (.int .i64)) (t13 : den (.int .i64)) => slices_Equal_Change_l4  n  m s1t0 s2t1 t12 t13) s1t0 s2t1 (s1t0.length : Int) (i : Int) = _
    unfold slices_Equal_Change_s4
    have b0 : decide ((0 : Int) ≤ (i : Int)) = true := decide_eq_true (by omega)
    rcases Nat.lt_or_ge i s1t0.length with hi | hi
    · have b1 : decide ((i : Int) < (s1t0.length : Int)) = true := decide_eq_true (by omega)
      have bw : IntKind.i64.wrap ((i : Int) + (1 : Int)) = ((i + 1 : Nat) : Int) := w64s (by omega)
      have ih' : ∀ (s2t1 : den (LChange)), slices_Equal_Change_l4  n  m s1t0 s2t1 (s1t0.length : Int) ((i + 1 : Nat) : Int) = slices_Equal_Change_g4    (s1t0.drop (i + 1)) s2t1 ((i + 1 : Nat) : Int) := fun s2t1 => ih (i + 1) s1t0 s2t1 (by omega) (by omega) h3
      simp only [b0, b1, bw, Bool.and_true, Bool.true_and, cond_true, Int.toNat_natCast, ih']
      rw [drop_getD hi (dflt (TChange))]
      rfl
    · have b1 : decide ((i : Int) < (s1t0.length : Int)) = false := decide_eq_false (by omega)
      simp only [b1, cond_false]
      rw [List.drop_eq_nil_of_le hi]
      rfl
noncomputable def slices_Equal_Change_F4 (call : Call0) (n : Nat)  : (St → Option (denR (.one (.bool)))) → St → Option (denR (.one (.bool))) := fun rec => exec cfg call n 29 (cat B29 [1, 1, 0, 1, 0, 0]) (kLoop rec (lk2 29 4 cfg.keep) (kBlock 0 (kSq (exec cfg call n 29 (cat B29 [1, 1, 1])) (kret cfg Go.Proofs.Try.f29 (.one (.bool))))))
theorem slices_Equal_Change_l4_eq (call : Call0) (n : Nat)  : ∀ (m : Nat) (s1t0 : den (LChange)) (s2t1 : den (LChange)) (t12 : den (.int .i64)) (t13 : den (.int .i64)), loopN (slices_Equal_Change_F4 call n ) m (slices_Equal_Change_sh4 s1t0 s2t1 t12 t13) = slices_Equal_Change_l4  n  m s1t0 s2t1 t12 t13 := by
  intro m
  induction m with
  | zero => intros; rfl
  | succ m ih =>
    intro s1t0 s2t1 t12 t13
    have h : loopN (slices_Equal_Change_F4 call n ) (m + 1) (slices_Equal_Change_sh4 s1t0 s2t1 t12 t13) = slices_Equal_Change_s4    (fun (s1t0 : den (LChange)) (s2t1 : den (LChange)) (t12 : den (.int .i64)) (t13 : den (.int .i64)) => loopN (slices_Equal_Change_F4 call n ) m (slices_Equal_Change_sh4 s1t0 s2t1 t12 t13)) s1t0 s2t1 t12 t13 := by kernel_rfl
    have e0 : (fun (s1t0 : den (LChange)) (s2t1 : den (LChange)) (t12 : den (.int .i64)) (t13 : den (.int .i64)) => loopN (slices_Equal_Change_F4 call n ) m (slices_Equal_Change_sh4 s1t0 s2t1 t12 t13)) = (fun (s1t0 : den (LChange)) (s2t1 : den (LChange)) (t12 : den (.int .i64)) (t13 : den (.int .i64)) => slices_Equal_Change_l4  n  m s1t0 s2t1 t12 t13) := by funext s1t0 s2t1 t12 t13; exact ih s1t0 s2t1 t12 t13
    rw [h, e0]; rfl
noncomputable def slices_Equal_Change_top  (LL4 : den (LChange) → den (LChange) → den (.int .i64) → den (.int .i64) → Option (denR (.one (.bool)))) (a0 : den (LChange)) (a1 : den (LChange)) : Option (denR (.one (.bool))) := (bif ((!decide ((a0.length : Int) = (a1.length : Int)))) then some false else LL4 a0 a1 (a0.length : Int) (0 : Int))
noncomputable def slices_Equal_Change : Nat → den (LChange) → den (LChange) → Option (denR (.one (.bool)))
  | 0, _, _ => none
  | n + 1, a0, a1 => slices_Equal_Change_top  (slices_Equal_Change_l4  n n) a0 a1
theorem slices_Equal_Change_eq (n : Nat) (a0 : den (LChange)) (a1 : den (LChange)) : (acalls cfg intr intrI n).p 29 [.s (.val (LChange) a0), .s (.val (LChange) a1)] (.one (.bool)) = slices_Equal_Change n a0 a1 := by
  cases n with
  | zero => rfl
  | succ n =>
    have h : (acalls cfg intr intrI (n + 1)).p 29 [.s (.val (LChange) a0), .s (.val (LChange) a1)] (.one (.bool)) = slices_Equal_Change_top  (fun (s1t0 : den (LChange)) (s2t1 : den (LChange)) (t12 : den (.int .i64)) (t13 : den (.int .i64)) => loopN (slices_Equal_Change_F4 (acalls cfg intr intrI n) n) n (slices_Equal_Change_sh4 s1t0 s2t1 t12 t13)) a0 a1 := by kernel_rfl
    have e4 : (fun (s1t0 : den (LChange)) (s2t1 : den (LChange)) (t12 : den (.int .i64)) (t13 : den (.int .i64)) => loopN (slices_Equal_Change_F4 (acalls cfg intr intrI n) n) n (slices_Equal_Change_sh4 s1t0 s2t1 t12 t13)) = slices_Equal_Change_l4  n n := by funext s1t0 s2t1 t12 t13; exact slices_Equal_Change_l4_eq (acalls cfg intr intrI n) n n s1t0 s2t1 t12 t13
    rw [h, e4]; rfl

noncomputable def patch_Same_top (C_slices_Equal_Change : den (LChange) → den (LChange) → Option (denR (.one (.bool))))  (a0 : den (LChange)) (a1 : den (LChange)) : Option (denR (.one (.bool))) := ((C_slices_Equal_Change a0 a1).bind fun r1 => some r1)
noncomputable def patch_Same : Nat → den (LChange) → den (LChange) → Option (denR (.one (.bool)))
  | 0, _, _ => none
  | n + 1, a0, a1 => patch_Same_top (slices_Equal_Change n)  a0 a1
theorem patch_Same_eq (n : Nat) (a0 : den (LChange)) (a1 : den (LChange)) : (acalls cfg intr intrI n).p 16 [.s (.val (LChange) a0), .s (.val (LChange) a1)] (.one (.bool)) = patch_Same n a0 a1 := by
  cases n with
  | zero => rfl
  | succ n =>
    have h : (acalls cfg intr intrI (n + 1)).p 16 [.s (.val (LChange) a0), .s (.val (LChange) a1)] (.one (.bool)) = patch_Same_top (fun (a0 : den (LChange)) (a1 : den (LChange)) => (acalls cfg intr intrI n).p 29 [.s (.val (LChange) a0), .s (.val (LChange) a1)] (.one (.bool)))  a0 a1 := by kernel_rfl
    have c_slices_Equal_Change : (fun (a0 : den (LChange)) (a1 : den (LChange)) => (acalls cfg intr intrI n).p 29 [.s (.val (LChange) a0), .s (.val (LChange) a1)] (.one (.bool))) = slices_Equal_Change n := by funext a0 a1; exact slices_Equal_Change_eq n a0 a1
    rw [h, c_slices_Equal_Change]; rfl

noncomputable def B13 : Code := (Go.Proofs.Try.f13.body).getD .skip
noncomputable def patch_Apply_sh6 (t0 : den (LAttr)) (t6 : den (.int .i64)) (t9 : den (LChange)) (t10 : den (.int .i64)) (t11 : den (.int .i64)) (o5 : den (LAttr)) (o8 : den (TChange)) : St := ⟨[.s (.val (LAttr) t0), U, U, U, U, .s (.arr 5), .s (.val (.int .i64) t6), U, .s (.ref 8 []), .s (.val (LChange) t9), .s (.val (.int .i64) t10), .s (.val (.int .i64) t11), U, U, U, U, U, U, U, U, U, U, U, U, U, U, U, U, U, U, U, U, U, U, U, U, U, U, U, U, U, U, U, U, U, U, U, U, U, U, U, U, U, U, U, U, U, U, U, U, U, U, U, U, U, U, U, U, U, U, U, U, U, U, U, U], [(5, .arr 46 (TAttr) o5), (8, .box (TChange) o8)]⟩
noncomputable def patch_Apply_sh4 (t0 : den (LAttr)) (t6 : den (.int .i64)) (t9 : den (LChange)) (t10 : den (.int .i64)) (t11 : den (.int .i64)) (o5 : den (LAttr)) : St := ⟨[.s (.val (LAttr) t0), U, U, U, U, .s (.arr 5), .s (.val (.int .i64) t6), U, U, .s (.val (LChange) t9), .s (.val (.int .i64) t10), .s (.val (.int .i64) t11), U, U, U, U, U, U, U, U, U, U, U, U, U, U, U, U, U, U, U, U, U, U, U, U, U, U, U, U, U, U, U, U, U, U, U, U, U, U, U, U, U, U, U, U, U, U, U, U, U, U, U, U, U, U, U, U, U, U, U, U, U, U, U, U], [(5, .arr 46 (TAttr) o5)]⟩
noncomputable def patch_Apply_s6   (LS4 : den (LAttr) → den (.int .i64) → den (LChange) → den (.int .i64) → den (.int .i64) → den (LAttr) → Option (denR (.one (LAttr)))) (LS6 : den (LAttr) → den (.int .i64) → den (LChange) → den (.int .i64) → den (.int .i64) → den (LAttr) → den (TChange) → Option (denR (.one (LAttr)))) (t0 : den (LAttr)) (t6 : den (.int .i64)) (t9 : den (LChange)) (t10 : den (.int .i64)) (t11 : den (.int .i64)) (o5 : den (LAttr)) (o8 : den (TChange)) : Option (denR (.one (LAttr))) := (bif (decide (t6 < (t0.length : Int))) then (bif decide (0 ≤ t6) && decide (t6 < (t0.length : Int)) then (bif (decide ((t0.getD (Int.toNat t6) (dflt (TAttr))).1 < o8.1)) then (bif decide (0 ≤ t6) && decide (t6 < (t0.length : Int)) then (bif decide ((o5.length + ([(t0.getD (Int.toNat t6) (dflt (TAttr)))] : List (den (TAttr))).length) * 48 ≤ 140737488355328) then LS6 t0 (IntKind.wrap .i64 (t6 + (1 : Int))) t9 t10 t11 (o5 ++ ([(t0.getD (Int.toNat t6) (dflt (TAttr)))] : List (den (TAttr)))) o8 else none) else none) else (bif decide (0 ≤ t6) && decide (t6 < (t0.length : Int)) then (bif (decide ((t0.getD (Int.toNat t6) (dflt (TAttr))).1 = o8.1)) then (bif (!o8.2.1) then (bif decide ((o5.length + ([(o8.1, (o8.2.2.1, ()))] : List (den (TAttr))).length) * 48 ≤ 140737488355328) then LS4 t0 (IntKind.wrap .i64 (t6 + (1 : Int))) t9 t10 (IntKind.wrap .i64 (t11 + (1 : Int))) (o5 ++ ([(o8.1, (o8.2.2.1, ()))] : List (den (TAttr)))) else none) else LS4 t0 (IntKind.wrap .i64 (t6 + (1 : Int))) t9 t10 (IntKind.wrap .i64 (t11 + (1 : Int))) o5) else (bif (!o8.2.1) then (bif decide ((o5.length + ([(o8.1, (o8.2.2.1, ()))] : List (den (TAttr))).length) * 48 ≤ 140737488355328) then LS4 t0 t6 t9 t10 (IntKind.wrap .i64 (t11 + (1 : Int))) (o5 ++ ([(o8.1, (o8.2.2.1, ()))] : List (den (TAttr)))) else none) else LS4 t0 t6 t9 t10 (IntKind.wrap .i64 (t11 + (1 : Int))) o5)) else none)) else none) else (bif (!o8.2.1) then (bif decide ((o5.length + ([(o8.1, (o8.2.2.1, ()))] : List (den (TAttr))).length) * 48 ≤ 140737488355328) then LS4 t0 t6 t9 t10 (IntKind.wrap .i64 (t11 + (1 : Int))) (o5 ++ ([(o8.1, (o8.2.2.1, ()))] : List (den (TAttr)))) else none) else LS4 t0 t6 t9 t10 (IntKind.wrap .i64 (t11 + (1 : Int))) o5))
noncomputable def patch_Apply_l6  (n : Nat) (LS4 : den (LAttr) → den (.int .i64) → den (LChange) → den (.int .i64) → den (.int .i64) → den (LAttr) → Option (denR (.one (LAttr)))) : Nat → den (LAttr) → den (.int .i64) → den (LChange) → den (.int .i64) → den (.int .i64) → den (LAttr) → den (TChange) → Option (denR (.one (LAttr)))
  | 0, _, _, _, _, _, _, _ => none
  | m + 1, t0, t6, t9, t10, t11, o5, o8 => patch_Apply_s6   LS4 (fun (t0 : den (LAttr)) (t6 : den (.int .i64)) (t9 : den (LChange)) (t10 : den (.int .i64)) (t11 : den (.int .i64)) (o5 : den (LAttr)) (o8 : den (TChange)) => patch_Apply_l6  n LS4 m t0 t6 t9 t10 t11 o5 o8) t0 t6 t9 t10 t11 o5 o8
noncomputable def patch_Apply_g6   (LS4 : den (LAttr) → den (.int .i64) → den (LChange) → den (.int .i64) → den (.int .i64) → den (LAttr) → Option (denR (.one (LAttr)))) : List (den (TAttr)) → den (LAttr) → den (.int .i64) → den (LChange) → den (.int .i64) → den (.int .i64) → den (LAttr) → den (TChange) → Option (denR (.one (LAttr)))
  | [], t0, t6, t9, t10, t11, o5, o8 => (bif (!o8.2.1) then (bif decide ((o5.length + ([(o8.1, (o8.2.2.1, ()))] : List (den (TAttr))).length) * 48 ≤ 140737488355328) then LS4 t0 t6 t9 t10 (IntKind.wrap .i64 (t11 + (1 : Int))) (o5 ++ ([(o8.1, (o8.2.2.1, ()))] : List (den (TAttr)))) else none) else LS4 t0 t6 t9 t10 (IntKind.wrap .i64 (t11 + (1 : Int))) o5)
  | x :: r, t0, t6, t9, t10, t11, o5, o8 => (bif (decide (x.1 < o8.1)) then (bif decide ((o5.length + ([x] : List (den (TAttr))).length) * 48 ≤ 140737488355328) then patch_Apply_g6   LS4 r t0 (t6 + (1 : Int)) t9 t10 t11 (o5 ++ ([x] : List (den (TAttr)))) o8 else none) else (bif (decide (x.1 = o8.1)) then (bif (!o8.2.1) then (bif decide ((o5.length + ([(o8.1, (o8.2.2.1, ()))] : List (den (TAttr))).length) * 48 ≤ 140737488355328) then LS4 t0 (t6 + (1 : Int)) t9 t10 (IntKind.wrap .i64 (t11 + (1 : Int))) (o5 ++ ([(o8.1, (o8.2.2.1, ()))] : List (den (TAttr)))) else none) else LS4 t0 (t6 + (1 : Int)) t9 t10 (IntKind.wrap .i64 (t11 + (1 : Int))) o5) else (bif (!o8.2.1) then (bif decide ((o5.length + ([(o8.1, (o8.2.2.1, ()))] : List (den (TAttr))).length) * 48 ≤ 140737488355328) then LS4 t0 t6 t9 t10 (IntKind.wrap .i64 (t11 + (1 : Int))) (o5 ++ ([(o8.1, (o8.2.2.1, ()))] : List (den (TAttr)))) else none) else LS4 t0 t6 t9 t10 (IntKind.wrap .i64 (t11 + (1 : Int))) o5)))
theorem patch_Apply_l6_list  (n : Nat) (LS4 : den (LAttr) → den (.int .i64) → den (LChange) → den (.int .i64) → den (.int .i64) → den (LAttr) → Option (denR (.one (LAttr)))) : ∀ (m i : Nat) (t0 : den (LAttr)) (t9 : den (LChange)) (t10 : den (.int .i64)) (t11 : den (.int .i64)) (o5 : den (LAttr)) (o8 : den (TChange)), t0.length - i < m → i ≤ t0.length → t0.length < 4611686018427387904 → patch_Apply_l6  n LS4 m t0 (i : Int) t9 t10 t11 o5 o8 = patch_Apply_g6   LS4 (t0.drop i) t0 (i : Int) t9 t10 t11 o5 o8 := by
  intro m
  induction m with
  | zero => intro i t0 t9 t10 t11 o5 o8 h1; omega
  | succ m ih =>
    intro i t0 t9 t10 t11 o5 o8 h1 h2 h3
    show patch_Apply_s6   LS4 (fun (t0 : den (LAttr)) (t6 : den (.int .i64)) (t9 : den (LChange)) (t10 : den (.int .i64)) (t11 : den (.int .i64)) (o5 : den (LAttr)) (o8 : den (TChange)) => patch_Apply_l6  n LS4 m t0 t6 t9 t10 t11 o5 o8) t0 (i : Int) t9 t10 t11 o5 o8 = _
    unfold patch_Apply_s6
    have b0 : decide ((0 : Int) ≤ (i : Int)) = true := decide_eq_true (by omega)
    rcases Nat.lt_or_ge i t0.length with hi | hi
    · have b1 : decide ((i : Int) < (t0.length : Int)) = true := decide_eq_true (by omega)
      have bw : IntKind.i64.wrap ((i : Int) + (1 : Int)) = ((i + 1 : Nat) : Int) := w64s (by omega)
      have ih' : ∀ (t9 : den (LChange)) (t10 : den (.int .i64)) (t11 : den (.int .i64)) (o5 : den (LAttr)) (o8 : den (TChange)), patch_Apply_l6  n LS4 m t0 ((i + 1 : Nat) : Int) t9 t10 t11 o5 o8 = patch_Apply_g6   LS4 (t0.drop (i + 1)) t0 ((i + 1 : Nat) : Int) t9 t10 t11 o5 o8 := fun t9 t10 t11 o5 o8 => ih (i + 1) t0 t9 t10 t11 o5 o8 (by omega) (by omega) h3
      simp only [b0, b1, bw, Bool.and_true, Bool.true_and, cond_true, Int.toNat_natCast, ih']
      rw [drop_getD hi (dflt (TAttr))]
      rfl
    · have b1 : decide ((i : Int) < (t0.length : Int)) = false := decide_eq_false (by omega)
      simp only [b1, cond_false]
      rw [List.drop_eq_nil_of_le hi]
      rfl
noncomputable def patch_Apply_F6 (call : Call0) (n : Nat) (r4 : St → Option (denR (.one (LAttr)))) : (St → Option (denR (.one (LAttr)))) → St → Option (denR (.one (LAttr))) := fun rec => exec cfg call n 13 (cat B13 [1, 0, 1, 1, 1, 0, 1, 0, 0, 1, 1, 0, 0, 1, 0, 0, 0]) (kLoop rec (lk2 13 6 cfg.keep) (kBlock 2 (kSq (exec cfg call n 13 (cat B13 [1, 0, 1, 1, 1, 0, 1, 0, 0, 1, 1, 0, 0, 1, 1])) (kBlock 1 (kSq (exec cfg call n 13 (cat B13 [1, 0, 1, 1, 1, 0, 1, 0, 0, 1, 1, 1])) (kLoop r4 (lk2 13 4 cfg.keep) (kBlock 0 (kSq (exec cfg call n 13 (cat B13 [1, 0, 1, 1, 1, 1])) (kret cfg Go.Proofs.Try.f13 (.one (LAttr)))))))))))
theorem patch_Apply_l6_eq (call : Call0) (n : Nat) (r4 : St → Option (denR (.one (LAttr)))) : ∀ (m : Nat) (t0 : den (LAttr)) (t6 : den (.int .i64)) (t9 : den (LChange)) (t10 : den (.int .i64)) (t11 : den (.int .i64)) (o5 : den (LAttr)) (o8 : den (TChange)), loopN (patch_Apply_F6 call n r4) m (patch_Apply_sh6 t0 t6 t9 t10 t11 o5 o8) = patch_Apply_l6  n (fun (t0 : den (LAttr)) (t6 : den (.int .i64)) (t9 : den (LChange)) (t10 : den (.int .i64)) (t11 : den (.int .i64)) (o5 : den (LAttr)) => r4 (patch_Apply_sh4 t0 t6 t9 t10 t11 o5)) m t0 t6 t9 t10 t11 o5 o8 := by
  intro m
  induction m with
  | zero => intros; rfl
  | succ m ih =>
    intro t0 t6 t9 t10 t11 o5 o8
    have h : loopN (patch_Apply_F6 call n r4) (m + 1) (patch_Apply_sh6 t0 t6 t9 t10 t11 o5 o8) = patch_Apply_s6   (fun (t0 : den (LAttr)) (t6 : den (.int .i64)) (t9 : den (LChange)) (t10 : den (.int .i64)) (t11 : den (.int .i64)) (o5 : den (LAttr)) => r4 (patch_Apply_sh4 t0 t6 t9 t10 t11 o5)) (fun (t0 : den (LAttr)) (t6 : den (.int .i64)) (t9 : den (LChange)) (t10 : den (.int .i64)) (t11 : den (.int .i64)) (o5 : den (LAttr)) (o8 : den (TChange)) => loopN (patch_Apply_F6 call n r4) m (patch_Apply_sh6 t0 t6 t9 t10 t11 o5 o8)) t0 t6 t9 t10 t11 o5 o8 := by kernel_rfl
    have e0 : (fun (t0 : den (LAttr)) (t6 : den (.int .i64)) (t9 : den (LChange)) (t10 : den (.int .i64)) (t11 : den (.int .i64)) (o5 : den (LAttr)) (o8 : den (TChange)) => loopN (patch_Apply_F6 call n r4) m (patch_Apply_sh6 t0 t6 t9 t10 t11 o5 o8)) = (fun (t0 : den (LAttr)) (t6 : den (.int .i64)) (t9 : den (LChange)) (t10 : den (.int .i64)) (t11 : den (.int .i64)) (o5 : den (LAttr)) (o8 : den (TChange)) => patch_Apply_l6  n (fun (t0 : den (LAttr)) (t6 : den (.int .i64)) (t9 : den (LChange)) (t10 : den (.int .i64)) (t11 : den (.int .i64)) (o5 : den (LAttr)) => r4 (patch_Apply_sh4 t0 t6 t9 t10 t11 o5)) m t0 t6 t9 t10 t11 o5 o8) := by funext t0 t6 t9 t10 t11 o5 o8; exact ih t0 t6 t9 t10 t11 o5 o8
    rw [h, e0]; rfl
noncomputable def patch_Apply_s4  (LL6 : den (LAttr) → den (.int .i64) → den (LChange) → den (.int .i64) → den (.int .i64) → den (LAttr) → den (TChange) → Option (denR (.one (LAttr))))  (LS4 : den (LAttr) → den (.int .i64) → den (LChange) → den (.int .i64) → den (.int .i64) → den (LAttr) → Option (denR (.one (LAttr)))) (t0 : den (LAttr)) (t6 : den (.int .i64)) (t9 : den (LChange)) (t10 : den (.int .i64)) (t11 : den (.int .i64)) (o5 : den (LAttr)) : Option (denR (.one (LAttr))) := (bif (decide (t11 < t10)) then (bif decide (0 ≤ t11) && decide (t11 < (t9.length : Int)) then LL6 t0 t6 t9 t10 t11 o5 (t9.getD (Int.toNat t11) (dflt (TChange))) else none) else (bif decide (0 ≤ t6) && decide (t6 ≤ (t0.length : Int)) && decide ((t0.length : Int) ≤ (t0.length : Int)) then (bif decide ((o5.length + (t0.drop (Int.toNat t6)).length) * 48 ≤ 140737488355328) then some (o5 ++ (t0.drop (Int.toNat t6))) else none) else none))
noncomputable def patch_Apply_l4  (n : Nat)  : Nat → den (LAttr) → den (.int .i64) → den (LChange) → den (.int .i64) → den (.int .i64) → den (LAttr) → Option (denR (.one (LAttr)))
  | 0, _, _, _, _, _, _ => none
  | m + 1, t0, t6, t9, t10, t11, o5 => patch_Apply_s4  (patch_Apply_l6  n (fun (t0 : den (LAttr)) (t6 : den (.int .i64)) (t9 : den (LChange)) (t10 : den (.int .i64)) (t11 : den (.int .i64)) (o5 : den (LAttr)) => patch_Apply_l4  n  m t0 t6 t9 t10 t11 o5) n)  (fun (t0 : den (LAttr)) (t6 : den (.int .i64)) (t9 : den (LChange)) (t10 : den (.int .i64)) (t11 : den (.int .i64)) (o5 : den (LAttr)) => patch_Apply_l4  n  m t0 t6 t9 t10 t11 o5) t0 t6 t9 t10 t11 o5
noncomputable def patch_Apply_F4 (call : Call0) (n : Nat)  : (St → Option (denR (.one (LAttr)))) → St → Option (denR (.one (LAttr))) := fun rec => exec cfg call n 13 (cat B13 [1, 0, 1, 1, 1, 0, 1, 0, 0]) (kLoop rec (lk2 13 4 cfg.keep) (kBlock 0 (kSq (exec cfg call n 13 (cat B13 [1, 0, 1, 1, 1, 1])) (kret cfg Go.Proofs.Try.f13 (.one (LAttr))))))
theorem patch_Apply_l4_eq (call : Call0) (n : Nat)  : ∀ (m : Nat) (t0 : den (LAttr)) (t6 : den (.int .i64)) (t9 : den (LChange)) (t10 : den (.int .i64)) (t11 : den (.int .i64)) (o5 : den (LAttr)), loopN (patch_Apply_F4 call n ) m (patch_Apply_sh4 t0 t6 t9 t10 t11 o5) = patch_Apply_l4  n  m t0 t6 t9 t10 t11 o5 := by
  intro m
  induction m with
  | zero => intros; rfl
  | succ m ih =>
    intro t0 t6 t9 t10 t11 o5
    have h : loopN (patch_Apply_F4 call n ) (m + 1) (patch_Apply_sh4 t0 t6 t9 t10 t11 o5) = patch_Apply_s4  (fun (t0 : den (LAttr)) (t6 : den (.int .i64)) (t9 : den (LChange)) (t10 : den (.int .i64)) (t11 : den (.int .i64)) (o5 : den (LAttr)) (o8 : den (TChange)) => loopN (patch_Apply_F6 call n (loopN (patch_Apply_F4 call n ) m)) n (patch_Apply_sh6 t0 t6 t9 t10 t11 o5 o8))  (fun (t0 : den (LAttr)) (t6 : den (.int .i64)) (t9 : den (LChange)) (t10 : den (.int .i64)) (t11 : den (.int .i64)) (o5 : den (LAttr)) => loopN (patch_Apply_F4 call n ) m (patch_Apply_sh4 t0 t6 t9 t10 t11 o5)) t0 t6 t9 t10 t11 o5 := by kernel_rfl
    have e6 : (fun (t0 : den (LAttr)) (t6 : den (.int .i64)) (t9 : den (LChange)) (t10 : den (.int .i64)) (t11 : den (.int .i64)) (o5 : den (LAttr)) (o8 : den (TChange)) => loopN (patch_Apply_F6 call n (loopN (patch_Apply_F4 call n ) m)) n (patch_Apply_sh6 t0 t6 t9 t10 t11 o5 o8)) = patch_Apply_l6  n (fun (t0 : den (LAttr)) (t6 : den (.int .i64)) (t9 : den (LChange)) (t10 : den (.int .i64)) (t11 : den (.int .i64)) (o5 : den (LAttr)) => (loopN (patch_Apply_F4 call n ) m) (patch_Apply_sh4 t0 t6 t9 t10 t11 o5)) n := by funext t0 t6 t9 t10 t11 o5 o8; exact patch_Apply_l6_eq call n (loopN (patch_Apply_F4 call n ) m) n t0 t6 t9 t10 t11 o5 o8
    have e0 : (fun (t0 : den (LAttr)) (t6 : den (.int .i64)) (t9 : den (LChange)) (t10 : den (.int .i64)) (t11 : den (.int .i64)) (o5 : den (LAttr)) => loopN (patch_Apply_F4 call n ) m (patch_Apply_sh4 t0 t6 t9 t10 t11 o5)) = (fun (t0 : den (LAttr)) (t6 : den (.int .i64)) (t9 : den (LChange)) (t10 : den (.int .i64)) (t11 : den (.int .i64)) (o5 : den (LAttr)) => patch_Apply_l4  n  m t0 t6 t9 t10 t11 o5) := by funext t0 t6 t9 t10 t11 o5; exact ih t0 t6 t9 t10 t11 o5
    rw [h, e6, e0]; rfl
noncomputable def patch_Apply_top  (LL4 : den (LAttr) → den (.int .i64) → den (LChange) → den (.int .i64) → den (.int .i64) → den (LAttr) → Option (denR (.one (LAttr)))) (a0 : den (LAttr)) (a1 : den (LChange)) : Option (denR (.one (LAttr))) := LL4 a0 (0 : Int) a1 (a1.length : Int) (0 : Int) []
noncomputable def patch_Apply : Nat → den (LAttr) → den (LChange) → Option (denR (.one (LAttr)))
  | 0, _, _ => none
  | n + 1, a0, a1 => patch_Apply_top  (patch_Apply_l4  n n) a0 a1
theorem patch_Apply_eq (n : Nat) (a0 : den (LAttr)) (a1 : den (LChange)) : (acalls cfg intr intrI n).p 13 [.s (.val (LAttr) a0), .s (.val (LChange) a1)] (.one (LAttr)) = patch_Apply n a0 a1 := by
  cases n with
  | zero => rfl
  | succ n =>
    have h : (acalls cfg intr intrI (n + 1)).p 13 [.s (.val (LAttr) a0), .s (.val (LChange) a1)] (.one (LAttr)) = patch_Apply_top  (fun (t0 : den (LAttr)) (t6 : den (.int .i64)) (t9 : den (LChange)) (t10 : den (.int .i64)) (t11 : den (.int .i64)) (o5 : den (LAttr)) => loopN (patch_Apply_F4 (acalls cfg intr intrI n) n) n (patch_Apply_sh4 t0 t6 t9 t10 t11 o5)) a0 a1 := by kernel_rfl
    have e4 : (fun (t0 : den (LAttr)) (t6 : den (.int .i64)) (t9 : den (LChange)) (t10 : den (.int .i64)) (t11 : den (.int .i64)) (o5 : den (LAttr)) => loopN (patch_Apply_F4 (acalls cfg intr intrI n) n) n (patch_Apply_sh4 t0 t6 t9 t10 t11 o5)) = patch_Apply_l4  n n := by funext t0 t6 t9 t10 t11 o5; exact patch_Apply_l4_eq (acalls cfg intr intrI n) n n t0 t6 t9 t10 t11 o5
    rw [h, e4]; rfl

noncomputable def B12 : Code := (Go.Proofs.Try.f12.body).getD .skip
noncomputable def ref05_Same_sh4 (at0 : den (LAttr)) (bt1 : den (LAttr)) (it5 : den (.int .i64)) : St := ⟨[.s (.val (LAttr) at0), .s (.val (LAttr) bt1), U, U, U, .s (.val (.int .i64) it5), U, U, U, U, U, U, U, U, U, U, U, U, U, U, U, U, U, U, U, U], []⟩
noncomputable def ref05_Same_s4    (LS4 : den (LAttr) → den (LAttr) → den (.int .i64) → Option (denR (.one (.bool)))) (at0 : den (LAttr)) (bt1 : den (LAttr)) (it5 : den (.int .i64)) : Option (denR (.one (.bool))) := (bif (decide (it5 < (at0.length : Int))) then (bif decide (0 ≤ it5) && decide (it5 < (at0.length : Int)) then (bif decide (0 ≤ it5) && decide (it5 < (bt1.length : Int)) then (bif (!eqT (TAttr) (at0.getD (Int.toNat it5) (dflt (TAttr))) (bt1.getD (Int.toNat it5) (dflt (TAttr)))) then some false else LS4 at0 bt1 (IntKind.wrap .i64 (it5 + (1 : Int)))) else none) else none) else some true)
noncomputable def ref05_Same_l4  (n : Nat)  : Nat → den (LAttr) → den (LAttr) → den (.int .i64) → Option (denR (.one (.bool)))
  | 0, _, _, _ => none
  | m + 1, at0, bt1, it5 => ref05_Same_s4    (fun (at0 : den (LAttr)) (bt1 : den (LAttr)) (it5 : den (.int .i64)) => ref05_Same_l4  n  m at0 bt1 it5) at0 bt1 it5
noncomputable def ref05_Same_g4    : List (den (TAttr)) → den (LAttr) → den (.int .i64) → Option (denR (.one (.bool)))
  | [], bt1, it5 => some true
  | x :: r, bt1, it5 => (bif decide (0 ≤ it5) && decide (it5 < (bt1.length : Int)) then (bif (!eqT (TAttr) x (bt1.getD (Int.toNat it5) (dflt (TAttr)))) then some false else ref05_Same_g4    r bt1 (it5 + (1 : Int))) else none)
theorem ref05_Same_l4_list  (n : Nat)  : ∀ (m i : Nat) (at0 : den (LAttr)) (bt1 : den (LAttr)), at0.length - i < m → i ≤ at0.length → at0.length < 4611686018427387904 → ref05_Same_l4  n  m at0 bt1 (i : Int) = ref05_Same_g4    (at0.drop i) bt1 (i : Int) := by
  intro m
  induction m with
  | zero => intro i at0 bt1 h1; omega
  | succ m ih =>
    intro i at0 bt1 h1 h2 h3
    show ref05_Same_s4    (fun (at0 : den (LAttr)) (bt1 : den (LAttr)) (it5 : den (.int .i64)) => ref05_Same_l4  n  m at0 bt1 it5) at0 bt1 (i : Int) = _
    unfold ref05_Same_s4
    have b0 : decide ((0 : Int) ≤ (i : Int)) = true := decide_eq_true (by omega)
    rcases Nat.lt_or_ge i at0.length with hi | hi
    · have b1 : decide ((i : Int) < (at0.length : Int)) = true := decide_eq_true (by omega)
      have bw : IntKind.i64.wrap ((i : Int) + (1 : Int)) = ((i + 1 : Nat) : Int) := w64s (by omega)
      have ih' : ∀ (bt1 : den (LAttr)), ref05_Same_l4  n  m at0 bt1 ((i + 1 : Nat) : Int) = ref05_Same_g4    (at0.drop (i + 1)) bt1 ((i + 1 : Nat) : Int) := fun bt1 => ih (i + 1) at0 bt1 (by omega) (by omega) h3
      simp only [b0, b1, bw, Bool.and_true, Bool.true_and, cond_true, Int.toNat_natCast, ih']
      rw [drop_getD hi (dflt (TAttr))]
      rfl
    · have b1 : decide ((i : Int) < (at0.length : Int)) = false := decide_eq_false (by omega)
      simp only [b1, cond_false]
      rw [List.drop_eq_nil_of_le hi]
      rfl
noncomputable def ref05_Same_F4 (call : Call0) (n : Nat)  : (St → Option (denR (.one (.bool)))) → St → Option (denR (.one (.bool))) := fun rec => exec cfg call n 12 (cat B12 [1, 1, 0, 1, 0, 0]) (kLoop rec (lk2 12 4 cfg.keep) (kBlock 0 (kSq (exec cfg call n 12 (cat B12 [1, 1, 1])) (kret cfg Go.Proofs.Try.f12 (.one (.bool))))))
theorem ref05_Same_l4_eq (call : Call0) (n : Nat)  : ∀ (m : Nat) (at0 : den (LAttr)) (bt1 : den (LAttr)) (it5 : den (.int .i64)), loopN (ref05_Same_F4 call n ) m (ref05_Same_sh4 at0 bt1 it5) = ref05_Same_l4  n  m at0 bt1 it5 := by
  intro m
  induction m with
  | zero => intros; rfl
  | succ m ih =>
    intro at0 bt1 it5
    have h : loopN (ref05_Same_F4 call n ) (m + 1) (ref05_Same_sh4 at0 bt1 it5) = ref05_Same_s4    (fun (at0 : den (LAttr)) (bt1 : den (LAttr)) (it5 : den (.int .i64)) => loopN (ref05_Same_F4 call n ) m (ref05_Same_sh4 at0 bt1 it5)) at0 bt1 it5 := by kernel_rfl
    have e0 : (fun (at0 : den (LAttr)) (bt1 : den (LAttr)) (it5 : den (.int .i64)) => loopN (ref05_Same_F4 call n ) m (ref05_Same_sh4 at0 bt1 it5)) = (fun (at0 : den (LAttr)) (bt1 : den (LAttr)) (it5 : den (.int .i64)) => ref05_Same_l4  n  m at0 bt1 it5) := by funext at0 bt1 it5; exact ih at0 bt1 it5
    rw [h, e0]; rfl
noncomputable def ref05_Same_top  (LL4 : den (LAttr) → den (LAttr) → den (.int .i64) → Option (denR (.one (.bool)))) (a0 : den (LAttr)) (a1 : den (LAttr)) : Option (denR (.one (.bool))) := (bif ((!decide ((a0.length : Int) = (a1.length : Int)))) then some false else LL4 a0 a1 (0 : Int))
noncomputable def ref05_Same : Nat → den (LAttr) → den (LAttr) → Option (denR (.one (.bool)))
  | 0, _, _ => none
  | n + 1, a0, a1 => ref05_Same_top  (ref05_Same_l4  n n) a0 a1
theorem ref05_Same_eq (n : Nat) (a0 : den (LAttr)) (a1 : den (LAttr)) : (acalls cfg intr intrI n).p 12 [.s (.val (LAttr) a0), .s (.val (LAttr) a1)] (.one (.bool)) = ref05_Same n a0 a1 := by
  cases n with
  | zero => rfl
  | succ n =>
    have h : (acalls cfg intr intrI (n + 1)).p 12 [.s (.val (LAttr) a0), .s (.val (LAttr) a1)] (.one (.bool)) = ref05_Same_top  (fun (at0 : den (LAttr)) (bt1 : den (LAttr)) (it5 : den (.int .i64)) => loopN (ref05_Same_F4 (acalls cfg intr intrI n) n) n (ref05_Same_sh4 at0 bt1 it5)) a0 a1 := by kernel_rfl
    have e4 : (fun (at0 : den (LAttr)) (bt1 : den (LAttr)) (it5 : den (.int .i64)) => loopN (ref05_Same_F4 (acalls cfg intr intrI n) n) n (ref05_Same_sh4 at0 bt1 it5)) = ref05_Same_l4  n n := by funext at0 bt1 it5; exact ref05_Same_l4_eq (acalls cfg intr intrI n) n n at0 bt1 it5
    rw [h, e4]; rfl

noncomputable def cmp_isNaN_int_top   (a0 : den (.int .i64)) : Option (denR (.one (.bool))) := some ((!decide (a0 = a0)))
noncomputable def cmp_isNaN_int : Nat → den (.int .i64) → Option (denR (.one (.bool)))
  | 0, _ => none
  | n + 1, a0 => cmp_isNaN_int_top   a0
theorem cmp_isNaN_int_eq (n : Nat) (a0 : den (.int .i64)) : (acalls cfg intr intrI n).p 48 [.s (.val (.int .i64) a0)] (.one (.bool)) = cmp_isNaN_int n a0 := by
  cases n with
  | zero => rfl
  | succ n =>
    have h : (acalls cfg intr intrI (n + 1)).p 48 [.s (.val (.int .i64) a0)] (.one (.bool)) = cmp_isNaN_int_top   a0 := by kernel_rfl
    rw [h]; rfl

noncomputable def cmp_Compare_int_top (C_cmp_isNaN_int : den (.int .i64) → Option (denR (.one (.bool))))  (a0 : den (.int .i64)) (a1 : den (.int .i64)) : Option (denR (.one (.int .i64))) := ((C_cmp_isNaN_int a0).bind fun r1 => ((C_cmp_isNaN_int a1).bind fun r2 => (bif r1 then (bif r2 then some (0 : Int) else some (-1 : Int)) else (bif r2 then some (1 : Int) else (bif (decide (a0 < a1)) then some (-1 : Int) else (bif (decide (a1 < a0)) then some (1 : Int) else some (0 : Int)))))))
noncomputable def cmp_Compare_int : Nat → den (.int .i64) → den (.int .i64) → Option (denR (.one (.int .i64)))
  | 0, _, _ => none
  | n + 1, a0, a1 => cmp_Compare_int_top (cmp_isNaN_int n)  a0 a1
theorem cmp_Compare_int_eq (n : Nat) (a0 : den (.int .i64)) (a1 : den (.int .i64)) : (acalls cfg intr intrI n).p 44 [.s (.val (.int .i64) a0), .s (.val (.int .i64) a1)] (.one (.int .i64)) = cmp_Compare_int n a0 a1 := by
  cases n with
  | zero => rfl
  | succ n =>
    have h : (acalls cfg intr intrI (n + 1)).p 44 [.s (.val (.int .i64) a0), .s (.val (.int .i64) a1)] (.one (.int .i64)) = cmp_Compare_int_top (fun (a0 : den (.int .i64)) => (acalls cfg intr intrI n).p 48 [.s (.val (.int .i64) a0)] (.one (.bool)))  a0 a1 := by kernel_rfl
    have c_cmp_isNaN_int : (fun (a0 : den (.int .i64)) => (acalls cfg intr intrI n).p 48 [.s (.val (.int .i64) a0)] (.one (.bool))) = cmp_isNaN_int n := by funext a0; exact cmp_isNaN_int_eq n a0
    rw [h, c_cmp_isNaN_int]; rfl

noncomputable def attrs_find_1_top (C_cmp_Compare_int : den (.int .i64) → den (.int .i64) → Option (denR (.one (.int .i64))))  (a0 : den (TAttr)) (a1 : den (.int .i64)) : Option (denR (.one (.int .i64))) := ((C_cmp_Compare_int a0.1 a1).bind fun r1 => some r1)
noncomputable def attrs_find_1 : Nat → den (TAttr) → den (.int .i64) → Option (denR (.one (.int .i64)))
  | 0, _, _ => none
  | n + 1, a0, a1 => attrs_find_1_top (cmp_Compare_int n)  a0 a1
theorem attrs_find_1_eq (n : Nat) (a0 : den (TAttr)) (a1 : den (.int .i64)) : (acalls cfg intr intrI n).p 43 [.s (.val (TAttr) a0), .s (.val (.int .i64) a1)] (.one (.int .i64)) = attrs_find_1 n a0 a1 := by
  cases n with
  | zero => rfl
  | succ n =>
    have h : (acalls cfg intr intrI (n + 1)).p 43 [.s (.val (TAttr) a0), .s (.val (.int .i64) a1)] (.one (.int .i64)) = attrs_find_1_top (fun (a0 : den (.int .i64)) (a1 : den (.int .i64)) => (acalls cfg intr intrI n).p 44 [.s (.val (.int .i64) a0), .s (.val (.int .i64) a1)] (.one (.int .i64)))  a0 a1 := by kernel_rfl
    have c_cmp_Compare_int : (fun (a0 : den (.int .i64)) (a1 : den (.int .i64)) => (acalls cfg intr intrI n).p 44 [.s (.val (.int .i64) a0), .s (.val (.int .i64) a1)] (.one (.int .i64))) = cmp_Compare_int n := by funext a0 a1; exact cmp_Compare_int_eq n a0 a1
    rw [h, c_cmp_Compare_int]; rfl

noncomputable def B42 : Code := (Go.Proofs.Try.f42.body).getD .skip
noncomputable def slices_BinarySearchFunc_Attr_int__attrs_find_1_sh3 (xt0 : den (LAttr)) (targett1 : den (.int .i64)) (nt8 : den (.int .i64)) (it9 : den (.int .i64)) (jt10 : den (.int .i64)) : St := ⟨[.s (.val (LAttr) xt0), .s (.val (.int .i64) targett1), .fn 43 [], U, U, U, U, U, .s (.val (.int .i64) nt8), .s (.val (.int .i64) it9), .s (.val (.int .i64) jt10), U, U, U, U, U, U, U, U, U, U, U, U, U, U, U, U, U, U, U, U, U, U, U, U, U, U, U, U, U, U, U, U, U, U, U, U, U, U], []⟩
noncomputable def slices_BinarySearchFunc_Attr_int__attrs_find_1_s3 (C_attrs_find_1 : den (TAttr) → den (.int .i64) → Option (denR (.one (.int .i64))))   (LS3 : den (LAttr) → den (.int .i64) → den (.int .i64) → den (.int .i64) → den (.int .i64) → Option (denR (.two (.int .i64) (.bool)))) (xt0 : den (LAttr)) (targett1 : den (.int .i64)) (nt8 : den (.int .i64)) (it9 : den (.int .i64)) (jt10 : den (.int .i64)) : Option (denR (.two (.int .i64) (.bool))) := (bif (decide (it9 < jt10)) then (bif decide (0 ≤ (IntKind.wrap .i64 (Int.fdiv (IntKind.wrap .u64 (IntKind.wrap .i64 (it9 + jt10))) (2 ^ (min (Int.toNat (1 : Int)) (IntKind.bits .u64)))))) && decide ((IntKind.wrap .i64 (Int.fdiv (IntKind.wrap .u64 (IntKind.wrap .i64 (it9 + jt10))) (2 ^ (min (Int.toNat (1 : Int)) (IntKind.bits .u64))))) < (xt0.length : Int)) then ((C_attrs_find_1 (xt0.getD (Int.toNat (IntKind.wrap .i64 (Int.fdiv (IntKind.wrap .u64 (IntKind.wrap .i64 (it9 + jt10))) (2 ^ (min (Int.toNat (1 : Int)) (IntKind.bits .u64)))))) (dflt (TAttr))) targett1).bind fun r1 => (bif (decide (r1 < (0 : Int))) then LS3 xt0 targett1 nt8 (IntKind.wrap .i64 ((IntKind.wrap .i64 (Int.fdiv (IntKind.wrap .u64 (IntKind.wrap .i64 (it9 + jt10))) (2 ^ (min (Int.toNat (1 : Int)) (IntKind.bits .u64))))) + (1 : Int))) jt10 else LS3 xt0 targett1 nt8 it9 (IntKind.wrap .i64 (Int.fdiv (IntKind.wrap .u64 (IntKind.wrap .i64 (it9 + jt10))) (2 ^ (min (Int.toNat (1 : Int)) (IntKind.bits .u64))))))) else none) else (bif (decide (it9 < nt8)) then (bif decide (0 ≤ it9) && decide (it9 < (xt0.length : Int)) then ((C_attrs_find_1 (xt0.getD (Int.toNat it9) (dflt (TAttr))) targett1).bind fun r2 => some (it9, (decide (r2 = (0 : Int))))) else none) else some (it9, false)))
noncomputable def slices_BinarySearchFunc_Attr_int__attrs_find_1_l3 (C_attrs_find_1 : den (TAttr) → den (.int .i64) → Option (denR (.one (.int .i64)))) (n : Nat)  : Nat → den (LAttr) → den (.int .i64) → den (.int .i64) → den (.int .i64) → den (.int .i64) → Option (denR (.two (.int .i64) (.bool)))
  | 0, _, _, _, _, _ => none
  | m + 1, xt0, targett1, nt8, it9, jt10 => slices_BinarySearchFunc_Attr_int__attrs_find_1_s3 C_attrs_find_1   (fun (xt0 : den (LAttr)) (targett1 : den (.int .i64)) (nt8 : den (.int .i64)) (it9 : den (.int .i64)) (jt10 : den (.int .i64)) => slices_BinarySearchFunc_Attr_int__attrs_find_1_l3 C_attrs_find_1 n  m xt0 targett1 nt8 it9 jt10) xt0 targett1 nt8 it9 jt10
noncomputable def slices_BinarySearchFunc_Attr_int__attrs_find_1_F3 (call : Call0) (n : Nat)  : (St → Option (denR (.two (.int .i64) (.bool)))) → St → Option (denR (.two (.int .i64) (.bool))) := fun rec => exec cfg call n 42 (cat B42 [1, 1, 1, 0, 0, 0]) (kLoop rec (lk2 42 3 cfg.keep) (kBlock 0 (kSq (exec cfg call n 42 (cat B42 [1, 1, 1, 1])) (kret cfg Go.Proofs.Try.f42 (.two (.int .i64) (.bool))))))
theorem slices_BinarySearchFunc_Attr_int__attrs_find_1_l3_eq (call : Call0) (n : Nat)  : ∀ (m : Nat) (xt0 : den (LAttr)) (targett1 : den (.int .i64)) (nt8 : den (.int .i64)) (it9 : den (.int .i64)) (jt10 : den (.int .i64)), loopN (slices_BinarySearchFunc_Attr_int__attrs_find_1_F3 call n ) m (slices_BinarySearchFunc_Attr_int__attrs_find_1_sh3 xt0 targett1 nt8 it9 jt10) = slices_BinarySearchFunc_Attr_int__attrs_find_1_l3 (fun (a0 : den (TAttr)) (a1 : den (.int .i64)) => call.p 43 [.s (.val (TAttr) a0), .s (.val (.int .i64) a1)] (.one (.int .i64))) n  m xt0 targett1 nt8 it9 jt10 := by
  intro m
  induction m with
  | zero => intros; rfl
  | succ m ih =>
    intro xt0 targett1 nt8 it9 jt10
    have h : loopN (slices_BinarySearchFunc_Attr_int__attrs_find_1_F3 call n ) (m + 1) (slices_BinarySearchFunc_Attr_int__attrs_find_1_sh3 xt0 targett1 nt8 it9 jt10) = slices_BinarySearchFunc_Attr_int__attrs_find_1_s3 (fun (a0 : den (TAttr)) (a1 : den (.int .i64)) => call.p 43 [.s (.val (TAttr) a0), .s (.val (.int .i64) a1)] (.one (.int .i64)))   (fun (xt0 : den (LAttr)) (targett1 : den (.int .i64)) (nt8 : den (.int .i64)) (it9 : den (.int .i64)) (jt10 : den (.int .i64)) => loopN (slices_BinarySearchFunc_Attr_int__attrs_find_1_F3 call n ) m (slices_BinarySearchFunc_Attr_int__attrs_find_1_sh3 xt0 targett1 nt8 it9 jt10)) xt0 targett1 nt8 it9 jt10 := by kernel_rfl
    have e0 : (fun (xt0 : den (LAttr)) (targett1 : den (.int .i64)) (nt8 : den (.int .i64)) (it9 : den (.int .i64)) (jt10 : den (.int .i64)) => loopN (slices_BinarySearchFunc_Attr_int__attrs_find_1_F3 call n ) m (slices_BinarySearchFunc_Attr_int__attrs_find_1_sh3 xt0 targett1 nt8 it9 jt10)) = (fun (xt0 : den (LAttr)) (targett1 : den (.int .i64)) (nt8 : den (.int .i64)) (it9 : den (.int .i64)) (jt10 : den (.int .i64)) => slices_BinarySearchFunc_Attr_int__attrs_find_1_l3 (fun (a0 : den (TAttr)) (a1 : den (.int .i64)) => call.p 43 [.s (.val (TAttr) a0), .s (.val (.int .i64) a1)] (.one (.int .i64))) n  m xt0 targett1 nt8 it9 jt10) := by funext xt0 targett1 nt8 it9 jt10; exact ih xt0 targett1 nt8 it9 jt10
    rw [h, e0]; rfl
noncomputable def slices_BinarySearchFunc_Attr_int__attrs_find_1_top (C_attrs_find_1 : den (TAttr) → den (.int .i64) → Option (denR (.one (.int .i64)))) (LL3 : den (LAttr) → den (.int .i64) → den (.int .i64) → den (.int .i64) → den (.int .i64) → Option (denR (.two (.int .i64) (.bool)))) (a0 : den (LAttr)) (a1 : den (.int .i64)) : Option (denR (.two (.int .i64) (.bool))) := LL3 a0 a1 (a0.length : Int) (0 : Int) (a0.length : Int)
noncomputable def slices_BinarySearchFunc_Attr_int__attrs_find_1 : Nat → den (LAttr) → den (.int .i64) → Option (denR (.two (.int .i64) (.bool)))
  | 0, _, _ => none
  | n + 1, a0, a1 => slices_BinarySearchFunc_Attr_int__attrs_find_1_top (attrs_find_1 n) (slices_BinarySearchFunc_Attr_int__attrs_find_1_l3 (attrs_find_1 n) n n) a0 a1
theorem slices_BinarySearchFunc_Attr_int__attrs_find_1_eq (n : Nat) (a0 : den (LAttr)) (a1 : den (.int .i64)) : (acalls cfg intr intrI n).p 42 [.s (.val (LAttr) a0), .s (.val (.int .i64) a1), .fn 43 []] (.two (.int .i64) (.bool)) = slices_BinarySearchFunc_Attr_int__attrs_find_1 n a0 a1 := by
  cases n with
  | zero => rfl
  | succ n =>
    have h : (acalls cfg intr intrI (n + 1)).p 42 [.s (.val (LAttr) a0), .s (.val (.int .i64) a1), .fn 43 []] (.two (.int .i64) (.bool)) = slices_BinarySearchFunc_Attr_int__attrs_find_1_top (fun (a0 : den (TAttr)) (a1 : den (.int .i64)) => (acalls cfg intr intrI n).p 43 [.s (.val (TAttr) a0), .s (.val (.int .i64) a1)] (.one (.int .i64))) (fun (xt0 : den (LAttr)) (targett1 : den (.int .i64)) (nt8 : den (.int .i64)) (it9 : den (.int .i64)) (jt10 : den (.int .i64)) => loopN (slices_BinarySearchFunc_Attr_int__attrs_find_1_F3 (acalls cfg intr intrI n) n) n (slices_BinarySearchFunc_Attr_int__attrs_find_1_sh3 xt0 targett1 nt8 it9 jt10)) a0 a1 := by kernel_rfl
    have e3 : (fun (xt0 : den (LAttr)) (targett1 : den (.int .i64)) (nt8 : den (.int .i64)) (it9 : den (.int .i64)) (jt10 : den (.int .i64)) => loopN (slices_BinarySearchFunc_Attr_int__attrs_find_1_F3 (acalls cfg intr intrI n) n) n (slices_BinarySearchFunc_Attr_int__attrs_find_1_sh3 xt0 targett1 nt8 it9 jt10)) = slices_BinarySearchFunc_Attr_int__attrs_find_1_l3 (fun (a0 : den (TAttr)) (a1 : den (.int .i64)) => (acalls cfg intr intrI n).p 43 [.s (.val (TAttr) a0), .s (.val (.int .i64) a1)] (.one (.int .i64))) n n := by funext xt0 targett1 nt8 it9 jt10; exact slices_BinarySearchFunc_Attr_int__attrs_find_1_l3_eq (acalls cfg intr intrI n) n n xt0 targett1 nt8 it9 jt10
    have c_attrs_find_1 : (fun (a0 : den (TAttr)) (a1 : den (.int .i64)) => (acalls cfg intr intrI n).p 43 [.s (.val (TAttr) a0), .s (.val (.int .i64) a1)] (.one (.int .i64))) = attrs_find_1 n := by funext a0 a1; exact attrs_find_1_eq n a0 a1
    rw [h, e3, c_attrs_find_1]; rfl

noncomputable def attrs_find_top (C_slices_BinarySearchFunc_Attr_int__attrs_find_1 : den (LAttr) → den (.int .i64) → Option (denR (.two (.int .i64) (.bool))))  (a0 : den (LAttr)) (a1 : den (.int .i64)) : Option (denR (.two (.int .i64) (.bool))) := ((C_slices_BinarySearchFunc_Attr_int__attrs_find_1 a0 a1).bind fun r1 => some (r1.1, r1.2))
noncomputable def attrs_find : Nat → den (LAttr) → den (.int .i64) → Option (denR (.two (.int .i64) (.bool)))
  | 0, _, _ => none
  | n + 1, a0, a1 => attrs_find_top (slices_BinarySearchFunc_Attr_int__attrs_find_1 n)  a0 a1
theorem attrs_find_eq (n : Nat) (a0 : den (LAttr)) (a1 : den (.int .i64)) : (acalls cfg intr intrI n).p 35 [.s (.val (LAttr) a0), .s (.val (.int .i64) a1)] (.two (.int .i64) (.bool)) = attrs_find n a0 a1 := by
  cases n with
  | zero => rfl
  | succ n =>
    have h : (acalls cfg intr intrI (n + 1)).p 35 [.s (.val (LAttr) a0), .s (.val (.int .i64) a1)] (.two (.int .i64) (.bool)) = attrs_find_top (fun (a0 : den (LAttr)) (a1 : den (.int .i64)) => (acalls cfg intr intrI n).p 42 [.s (.val (LAttr) a0), .s (.val (.int .i64) a1), .fn 43 []] (.two (.int .i64) (.bool)))  a0 a1 := by kernel_rfl
    have c_slices_BinarySearchFunc_Attr_int__attrs_find_1 : (fun (a0 : den (LAttr)) (a1 : den (.int .i64)) => (acalls cfg intr intrI n).p 42 [.s (.val (LAttr) a0), .s (.val (.int .i64) a1), .fn 43 []] (.two (.int .i64) (.bool))) = slices_BinarySearchFunc_Attr_int__attrs_find_1 n := by funext a0 a1; exact slices_BinarySearchFunc_Attr_int__attrs_find_1_eq n a0 a1
    rw [h, c_slices_BinarySearchFunc_Attr_int__attrs_find_1]; rfl

noncomputable def attrs_Get_top (C_attrs_find : den (LAttr) → den (.int .i64) → Option (denR (.two (.int .i64) (.bool))))  (a0 : den (LAttr)) (a1 : den (.int .i64)) : Option (denR (.two (TValue) (.bool))) := ((C_attrs_find a0 a1).bind fun r1 => (bif (!r1.2) then some (((0 : Int), ((0 : Int), ((0 : Int), ((⟨#[]⟩ : ByteArray), ())))), false) else (bif decide (0 ≤ r1.1) && decide (r1.1 < (a0.length : Int)) then some (((a0.getD (Int.toNat r1.1) (dflt (TAttr))).2).1, true) else none)))
noncomputable def attrs_Get : Nat → den (LAttr) → den (.int .i64) → Option (denR (.two (TValue) (.bool)))
  | 0, _, _ => none
  | n + 1, a0, a1 => attrs_Get_top (attrs_find n)  a0 a1
theorem attrs_Get_eq (n : Nat) (a0 : den (LAttr)) (a1 : den (.int .i64)) : (acalls cfg intr intrI n).p 23 [.s (.val (LAttr) a0), .s (.val (.int .i64) a1)] (.two (TValue) (.bool)) = attrs_Get n a0 a1 := by
  cases n with
  | zero => rfl
  | succ n =>
    have h : (acalls cfg intr intrI (n + 1)).p 23 [.s (.val (LAttr) a0), .s (.val (.int .i64) a1)] (.two (TValue) (.bool)) = attrs_Get_top (fun (a0 : den (LAttr)) (a1 : den (.int .i64)) => (acalls cfg intr intrI n).p 35 [.s (.val (LAttr) a0), .s (.val (.int .i64) a1)] (.two (.int .i64) (.bool)))  a0 a1 := by kernel_rfl
    have c_attrs_find : (fun (a0 : den (LAttr)) (a1 : den (.int .i64)) => (acalls cfg intr intrI n).p 35 [.s (.val (LAttr) a0), .s (.val (.int .i64) a1)] (.two (.int .i64) (.bool))) = attrs_find n := by funext a0 a1; exact attrs_find_eq n a0 a1
    rw [h, c_attrs_find]; rfl

noncomputable def B14 : Code := (Go.Proofs.Try.f14.body).getD .skip
noncomputable def patch_Invert_sh3 (sett0 : den (LAttr)) (t10 : den (LChange)) (t11 : den (.int .i64)) (t12 : den (.int .i64)) (outo5 : den (LChange)) : St := ⟨[.s (.val (LAttr) sett0), U, U, U, U, .s (.arr 5), U, U, U, U, .s (.val (LChange) t10), .s (.val (.int .i64) t11), .s (.val (.int .i64) t12), U, U, U, U, U, U, U, U, U, U, U, U, U, U, U, U, U, U, U, U, U, U, U, U, U, U, U, U, U, U, U, U, U, U, U, U, U, U, U, U, U, U, U, U, U], [(5, .arr 40 (TChange) outo5)]⟩
noncomputable def patch_Invert_s3 (C_attrs_Get : den (LAttr) → den (.int .i64) → Option (denR (.two (TValue) (.bool))))   (LS3 : den (LAttr) → den (LChange) → den (.int .i64) → den (.int .i64) → den (LChange) → Option (denR (.one (LChange)))) (sett0 : den (LAttr)) (t10 : den (LChange)) (t11 : den (.int .i64)) (t12 : den (.int .i64)) (outo5 : den (LChange)) : Option (denR (.one (LChange))) := (bif (decide (t12 < t11)) then (bif decide (0 ≤ t12) && decide (t12 < (t10.length : Int)) then ((C_attrs_Get sett0 ((t10.getD (Int.toNat t12) (dflt (TChange))).1)).bind fun r1 => (bif r1.2 then (bif ((t10.getD (Int.toNat t12) (dflt (TChange))).2).1 then (bif decide ((outo5.length + ([((t10.getD (Int.toNat t12) (dflt (TChange))).1, (false, (r1.1, ())))] : List (den (TChange))).length) * 56 ≤ 140737488355328) then LS3 sett0 t10 t11 (IntKind.wrap .i64 (t12 + (1 : Int))) (outo5 ++ ([((t10.getD (Int.toNat t12) (dflt (TChange))).1, (false, (r1.1, ())))] : List (den (TChange)))) else none) else (bif (!eqT (TValue) r1.1 ((((t10.getD (Int.toNat t12) (dflt (TChange))).2).2).1)) then (bif decide ((outo5.length + ([((t10.getD (Int.toNat t12) (dflt (TChange))).1, (false, (r1.1, ())))] : List (den (TChange))).length) * 56 ≤ 140737488355328) then LS3 sett0 t10 t11 (IntKind.wrap .i64 (t12 + (1 : Int))) (outo5 ++ ([((t10.getD (Int.toNat t12) (dflt (TChange))).1, (false, (r1.1, ())))] : List (den (TChange)))) else none) else (bif (!r1.2) then (bif (!((t10.getD (Int.toNat t12) (dflt (TChange))).2).1) then (bif decide ((outo5.length + ([((t10.getD (Int.toNat t12) (dflt (TChange))).1, (true, (((0 : Int), ((0 : Int), ((0 : Int), ((⟨#[]⟩ : ByteArray), ())))), ())))] : List (den (TChange))).length) * 56 ≤ 140737488355328) then LS3 sett0 t10 t11 (IntKind.wrap .i64 (t12 + (1 : Int))) (outo5 ++ ([((t10.getD (Int.toNat t12) (dflt (TChange))).1, (true, (((0 : Int), ((0 : Int), ((0 : Int), ((⟨#[]⟩ : ByteArray), ())))), ())))] : List (den (TChange)))) else none) else LS3 sett0 t10 t11 (IntKind.wrap .i64 (t12 + (1 : Int))) outo5) else LS3 sett0 t10 t11 (IntKind.wrap .i64 (t12 + (1 : Int))) outo5))) else (bif (!r1.2) then (bif (!((t10.getD (Int.toNat t12) (dflt (TChange))).2).1) then (bif decide ((outo5.length + ([((t10.getD (Int.toNat t12) (dflt (TChange))).1, (true, (((0 : Int), ((0 : Int), ((0 : Int), ((⟨#[]⟩ : ByteArray), ())))), ())))] : List (den (TChange))).length) * 56 ≤ 140737488355328) then LS3 sett0 t10 t11 (IntKind.wrap .i64 (t12 + (1 : Int))) (outo5 ++ ([((t10.getD (Int.toNat t12) (dflt (TChange))).1, (true, (((0 : Int), ((0 : Int), ((0 : Int), ((⟨#[]⟩ : ByteArray), ())))), ())))] : List (den (TChange)))) else none) else LS3 sett0 t10 t11 (IntKind.wrap .i64 (t12 + (1 : Int))) outo5) else LS3 sett0 t10 t11 (IntKind.wrap .i64 (t12 + (1 : Int))) outo5))) else none) else some outo5)
noncomputable def patch_Invert_l3 (C_attrs_Get : den (LAttr) → den (.int .i64) → Option (denR (.two (TValue) (.bool)))) (n : Nat)  : Nat → den (LAttr) → den (LChange) → den (.int .i64) → den (.int .i64) → den (LChange) → Option (denR (.one (LChange)))
  | 0, _, _, _, _, _ => none
  | m + 1, sett0, t10, t11, t12, outo5 => patch_Invert_s3 C_attrs_Get   (fun (sett0 : den (LAttr)) (t10 : den (LChange)) (t11 : den (.int .i64)) (t12 : den (.int .i64)) (outo5 : den (LChange)) => patch_Invert_l3 C_attrs_Get n  m sett0 t10 t11 t12 outo5) sett0 t10 t11 t12 outo5
noncomputable def patch_Invert_g3 (C_attrs_Get : den (LAttr) → den (.int .i64) → Option (denR (.two (TValue) (.bool))))   : List (den (TChange)) → den (LAttr) → den (LChange) → Option (denR (.one (LChange)))
  | [], sett0, outo5 => some outo5
  | x :: r, sett0, outo5 => ((C_attrs_Get sett0 x.1).bind fun r2 => (bif r2.2 then (bif x.2.1 then (bif decide ((outo5.length + ([(x.1, (false, (r2.1, ())))] : List (den (TChange))).length) * 56 ≤ 140737488355328) then patch_Invert_g3 C_attrs_Get   r sett0 (outo5 ++ ([(x.1, (false, (r2.1, ())))] : List (den (TChange)))) else none) else (bif (!eqT (TValue) r2.1 x.2.2.1) then (bif decide ((outo5.length + ([(x.1, (false, (r2.1, ())))] : List (den (TChange))).length) * 56 ≤ 140737488355328) then patch_Invert_g3 C_attrs_Get   r sett0 (outo5 ++ ([(x.1, (false, (r2.1, ())))] : List (den (TChange)))) else none) else (bif (!r2.2) then (bif (!x.2.1) then (bif decide ((outo5.length + ([(x.1, (true, (((0 : Int), ((0 : Int), ((0 : Int), ((⟨#[]⟩ : ByteArray), ())))), ())))] : List (den (TChange))).length) * 56 ≤ 140737488355328) then patch_Invert_g3 C_attrs_Get   r sett0 (outo5 ++ ([(x.1, (true, (((0 : Int), ((0 : Int), ((0 : Int), ((⟨#[]⟩ : ByteArray), ())))), ())))] : List (den (TChange)))) else none) else patch_Invert_g3 C_attrs_Get   r sett0 outo5) else patch_Invert_g3 C_attrs_Get   r sett0 outo5))) else (bif (!r2.2) then (bif (!x.2.1) then (bif decide ((outo5.length + ([(x.1, (true, (((0 : Int), ((0 : Int), ((0 : Int), ((⟨#[]⟩ : ByteArray), ())))), ())))] : List (den (TChange))).length) * 56 ≤ 140737488355328) then patch_Invert_g3 C_attrs_Get   r sett0 (outo5 ++ ([(x.1, (true, (((0 : Int), ((0 : Int), ((0 : Int), ((⟨#[]⟩ : ByteArray), ())))), ())))] : List (den (TChange)))) else none) else patch_Invert_g3 C_attrs_Get   r sett0 outo5) else patch_Invert_g3 C_attrs_Get   r sett0 outo5)))
theorem patch_Invert_l3_list (C_attrs_Get : den (LAttr) → den (.int .i64) → Option (denR (.two (TValue) (.bool)))) (n : Nat)  : ∀ (m i : Nat) (sett0 : den (LAttr)) (t10 : den (LChange)) (outo5 : den (LChange)), t10.length - i < m → i ≤ t10.length → t10.length < 4611686018427387904 → patch_Invert_l3 C_attrs_Get n  m sett0 t10 (t10.length : Int) (i : Int) outo5 = patch_Invert_g3 C_attrs_Get   (t10.drop i) sett0 outo5 := by
  intro m
  induction m with
  | zero => intro i sett0 t10 outo5 h1; omega
  | succ m ih =>
    intro i sett0 t10 outo5 h1 h2 h3
    show patch_Invert_s3 C_attrs_Get   (fun (sett0 : den (LAttr)) (t10 : den (LChange)) (t11 : den (.int .i64)) (t12 : den (.int .i64)) (outo5 : den (LChange)) => patch_Invert_l3 C_attrs_Get n  m sett0 t10 t11 t12 outo5) sett0 t10 (t10.length : Int) (i : Int) outo5 = _
    unfold patch_Invert_s3
    have b0 : decide ((0 : Int) ≤ (i : Int)) = true := decide_eq_true (by omega)
    rcases Nat.lt_or_ge i t10.length with hi | hi
    · have b1 : decide ((i : Int) < (t10.length : Int)) = true := decide_eq_true (by omega)
      have bw : IntKind.i64.wrap ((i : Int) + (1 : Int)) = ((i + 1 : Nat) : Int) := w64s (by omega)
      have ih' : ∀ (sett0 : den (LAttr)) (outo5 : den (LChange)), patch_Invert_l3 C_attrs_Get n  m sett0 t10 (t10.length : Int) ((i + 1 : Nat) : Int) outo5 = patch_Invert_g3 C_attrs_Get   (t10.drop (i + 1)) sett0 outo5 := fun sett0 outo5 => ih (i + 1) sett0 t10 outo5 (by omega) (by omega) h3
      simp only [b0, b1, bw, Bool.and_true, Bool.true_and, cond_true, Int.toNat_natCast, ih']
      rw [drop_getD hi (dflt (TChange))]
      rfl
    · have b1 : decide ((i : Int) < (t10.length : Int)) = false := decide_eq_false (by omega)
      simp only [b1, cond_false]
      rw [List.drop_eq_nil_of_le hi]
      rfl
noncomputable def patch_Invert_F3 (call : Call0) (n : Nat)  : (St → Option (denR (.one (LChange)))) → St → Option (denR (.one (LChange))) := fun rec => exec cfg call n 14 (cat B14 [1, 1, 0, 1, 0, 0]) (kLoop rec (lk2 14 3 cfg.keep) (kBlock 0 (kSq (exec cfg call n 14 (cat B14 [1, 1, 1])) (kret cfg Go.Proofs.Try.f14 (.one (LChange))))))
theorem patch_Invert_l3_eq (call : Call0) (n : Nat)  : ∀ (m : Nat) (sett0 : den (LAttr)) (t10 : den (LChange)) (t11 : den (.int .i64)) (t12 : den (.int .i64)) (outo5 : den (LChange)), loopN (patch_Invert_F3 call n ) m (patch_Invert_sh3 sett0 t10 t11 t12 outo5) = patch_Invert_l3 (fun (a0 : den (LAttr)) (a1 : den (.int .i64)) => call.p 23 [.s (.val (LAttr) a0), .s (.val (.int .i64) a1)] (.two (TValue) (.bool))) n  m sett0 t10 t11 t12 outo5 := by
  intro m
  induction m with
  | zero => intros; rfl
  | succ m ih =>
    intro sett0 t10 t11 t12 outo5
    have h : loopN (patch_Invert_F3 call n ) (m + 1) (patch_Invert_sh3 sett0 t10 t11 t12 outo5) = patch_Invert_s3 (fun (a0 : den (LAttr)) (a1 : den (.int .i64)) => call.p 23 [.s (.val (LAttr) a0), .s (.val (.int .i64) a1)] (.two (TValue) (.bool)))   (fun (sett0 : den (LAttr)) (t10 : den (LChange)) (t11 : den (.int .i64)) (t12 : den (.int .i64)) (outo5 : den (LChange)) => loopN (patch_Invert_F3 call n ) m (patch_Invert_sh3 sett0 t10 t11 t12 outo5)) sett0 t10 t11 t12 outo5 := by kernel_rfl
    have e0 : (fun (sett0 : den (LAttr)) (t10 : den (LChange)) (t11 : den (.int .i64)) (t12 : den (.int .i64)) (outo5 : den (LChange)) => loopN (patch_Invert_F3 call n ) m (patch_Invert_sh3 sett0 t10 t11 t12 outo5)) = (fun (sett0 : den (LAttr)) (t10 : den (LChange)) (t11 : den (.int .i64)) (t12 : den (.int .i64)) (outo5 : den (LChange)) => patch_Invert_l3 (fun (a0 : den (LAttr)) (a1 : den (.int .i64)) => call.p 23 [.s (.val (LAttr) a0), .s (.val (.int .i64) a1)] (.two (TValue) (.bool))) n  m sett0 t10 t11 t12 outo5) := by funext sett0 t10 t11 t12 outo5; exact ih sett0 t10 t11 t12 outo5
    rw [h, e0]; rfl
noncomputable def patch_Invert_top (C_attrs_Get : den (LAttr) → den (.int .i64) → Option (denR (.two (TValue) (.bool)))) (LL3 : den (LAttr) → den (LChange) → den (.int .i64) → den (.int .i64) → den (LChange) → Option (denR (.one (LChange)))) (a0 : den (LAttr)) (a1 : den (LChange)) : Option (denR (.one (LChange))) := LL3 a0 a1 (a1.length : Int) (0 : Int) []
noncomputable def patch_Invert : Nat → den (LAttr) → den (LChange) → Option (denR (.one (LChange)))
  | 0, _, _ => none
  | n + 1, a0, a1 => patch_Invert_top (attrs_Get n) (patch_Invert_l3 (attrs_Get n) n n) a0 a1
theorem patch_Invert_eq (n : Nat) (a0 : den (LAttr)) (a1 : den (LChange)) : (acalls cfg intr intrI n).p 14 [.s (.val (LAttr) a0), .s (.val (LChange) a1)] (.one (LChange)) = patch_Invert n a0 a1 := by
  cases n with
  | zero => rfl
  | succ n =>
    have h : (acalls cfg intr intrI (n + 1)).p 14 [.s (.val (LAttr) a0), .s (.val (LChange) a1)] (.one (LChange)) = patch_Invert_top (fun (a0 : den (LAttr)) (a1 : den (.int .i64)) => (acalls cfg intr intrI n).p 23 [.s (.val (LAttr) a0), .s (.val (.int .i64) a1)] (.two (TValue) (.bool))) (fun (sett0 : den (LAttr)) (t10 : den (LChange)) (t11 : den (.int .i64)) (t12 : den (.int .i64)) (outo5 : den (LChange)) => loopN (patch_Invert_F3 (acalls cfg intr intrI n) n) n (patch_Invert_sh3 sett0 t10 t11 t12 outo5)) a0 a1 := by kernel_rfl
    have e3 : (fun (sett0 : den (LAttr)) (t10 : den (LChange)) (t11 : den (.int .i64)) (t12 : den (.int .i64)) (outo5 : den (LChange)) => loopN (patch_Invert_F3 (acalls cfg intr intrI n) n) n (patch_Invert_sh3 sett0 t10 t11 t12 outo5)) = patch_Invert_l3 (fun (a0 : den (LAttr)) (a1 : den (.int .i64)) => (acalls cfg intr intrI n).p 23 [.s (.val (LAttr) a0), .s (.val (.int .i64) a1)] (.two (TValue) (.bool))) n n := by funext sett0 t10 t11 t12 outo5; exact patch_Invert_l3_eq (acalls cfg intr intrI n) n n sett0 t10 t11 t12 outo5
    have c_attrs_Get : (fun (a0 : den (LAttr)) (a1 : den (.int .i64)) => (acalls cfg intr intrI n).p 23 [.s (.val (LAttr) a0), .s (.val (.int .i64) a1)] (.two (TValue) (.bool))) = attrs_Get n := by funext a0 a1; exact attrs_Get_eq n a0 a1
    rw [h, e3, c_attrs_Get]; rfl

noncomputable def law06_known_top (C_law06_known_1 : den (.int .i64) → Option (denR (.one (TValue)))) (C_patch_Diff : den (LAttr) → den (LAttr) → Option (denR (.one (LChange)))) (C_patch_Same : den (LChange) → den (LChange) → Option (denR (.one (.bool)))) (C_patch_Apply : den (LAttr) → den (LChange) → Option (denR (.one (LAttr)))) (C_ref05_Same : den (LAttr) → den (LAttr) → Option (denR (.one (.bool)))) (C_patch_Invert : den (LAttr) → den (LChange) → Option (denR (.one (LChange))))   : Option (denR (.one (.bool))) := ((C_law06_known_1 (2 : Int)).bind fun r1 => ((C_law06_known_1 (4 : Int)).bind fun r2 => ((C_law06_known_1 (5 : Int)).bind fun r3 => ((C_patch_Diff ([((1 : Int), (r1, ())), ((3 : Int), (r2, ()))] : den (LAttr)) ([((3 : Int), (r3, ()))] : den (LAttr))).bind fun r4 => ((C_law06_known_1 (5 : Int)).bind fun r5 => ((C_patch_Same r4 ([((1 : Int), (true, (((0 : Int), ((0 : Int), ((0 : Int), ((⟨#[]⟩ : ByteArray), ())))), ()))), ((3 : Int), (false, (r5, ())))] : den (LChange))).bind fun r6 => (bif r6 then ((C_patch_Apply ([((1 : Int), (r1, ())), ((3 : Int), (r2, ()))] : den (LAttr)) r4).bind fun r7 => ((C_ref05_Same r7 ([((3 : Int), (r3, ()))] : den (LAttr))).bind fun r8 => (bif r8 then ((C_patch_Invert ([((1 : Int), (r1, ())), ((3 : Int), (r2, ()))] : den (LAttr)) r4).bind fun r9 => ((C_patch_Apply ([((3 : Int), (r3, ()))] : den (LAttr)) r9).bind fun r10 => ((C_ref05_Same r10 ([((1 : Int), (r1, ())), ((3 : Int), (r2, ()))] : den (LAttr))).bind fun r11 => some r11))) else some false))) else some false)))))))
noncomputable def law06_known : Nat → Option (denR (.one (.bool)))
  | 0 => none
  | n + 1 => law06_known_top (law06_known_1 n) (patch_Diff n) (patch_Same n) (patch_Apply n) (ref05_Same n) (patch_Invert n)  
theorem law06_known_eq (n : Nat)  : (acalls cfg intr intrI n).p 11 [] (.one (.bool)) = law06_known n  := by
  cases n with
  | zero => rfl
  | succ n =>
    have h : (acalls cfg intr intrI (n + 1)).p 11 [] (.one (.bool)) = law06_known_top (fun (a0 : den (.int .i64)) => (acalls cfg intr intrI n).p 27 [.s (.val (.int .i64) a0)] (.one (TValue))) (fun (a0 : den (LAttr)) (a1 : den (LAttr)) => (acalls cfg intr intrI n).p 15 [.s (.val (LAttr) a0), .s (.val (LAttr) a1)] (.one (LChange))) (fun (a0 : den (LChange)) (a1 : den (LChange)) => (acalls cfg intr intrI n).p 16 [.s (.val (LChange) a0), .s (.val (LChange) a1)] (.one (.bool))) (fun (a0 : den (LAttr)) (a1 : den (LChange)) => (acalls cfg intr intrI n).p 13 [.s (.val (LAttr) a0), .s (.val (LChange) a1)] (.one (LAttr))) (fun (a0 : den (LAttr)) (a1 : den (LAttr)) => (acalls cfg intr intrI n).p 12 [.s (.val (LAttr) a0), .s (.val (LAttr) a1)] (.one (.bool))) (fun (a0 : den (LAttr)) (a1 : den (LChange)) => (acalls cfg intr intrI n).p 14 [.s (.val (LAttr) a0), .s (.val (LChange) a1)] (.one (LChange)))   := by kernel_rfl
    have c_law06_known_1 : (fun (a0 : den (.int .i64)) => (acalls cfg intr intrI n).p 27 [.s (.val (.int .i64) a0)] (.one (TValue))) = law06_known_1 n := by funext a0; exact law06_known_1_eq n a0
    have c_patch_Diff : (fun (a0 : den (LAttr)) (a1 : den (LAttr)) => (acalls cfg intr intrI n).p 15 [.s (.val (LAttr) a0), .s (.val (LAttr) a1)] (.one (LChange))) = patch_Diff n := by funext a0 a1; exact patch_Diff_eq n a0 a1
    have c_patch_Same : (fun (a0 : den (LChange)) (a1 : den (LChange)) => (acalls cfg intr intrI n).p 16 [.s (.val (LChange) a0), .s (.val (LChange) a1)] (.one (.bool))) = patch_Same n := by funext a0 a1; exact patch_Same_eq n a0 a1
    have c_patch_Apply : (fun (a0 : den (LAttr)) (a1 : den (LChange)) => (acalls cfg intr intrI n).p 13 [.s (.val (LAttr) a0), .s (.val (LChange) a1)] (.one (LAttr))) = patch_Apply n := by funext a0 a1; exact patch_Apply_eq n a0 a1
    have c_ref05_Same : (fun (a0 : den (LAttr)) (a1 : den (LAttr)) => (acalls cfg intr intrI n).p 12 [.s (.val (LAttr) a0), .s (.val (LAttr) a1)] (.one (.bool))) = ref05_Same n := by funext a0 a1; exact ref05_Same_eq n a0 a1
    have c_patch_Invert : (fun (a0 : den (LAttr)) (a1 : den (LChange)) => (acalls cfg intr intrI n).p 14 [.s (.val (LAttr) a0), .s (.val (LChange) a1)] (.one (LChange))) = patch_Invert n := by funext a0 a1; exact patch_Invert_eq n a0 a1
    rw [h, c_law06_known_1, c_patch_Diff, c_patch_Same, c_patch_Apply, c_ref05_Same, c_patch_Invert]; rfl

noncomputable def B9 : Code := (Go.Proofs.Try.f9.body).getD .skip
noncomputable def ref05_Rising_sh2 (sett0 : den (LAttr)) (it3 : den (.int .i64)) : St := ⟨[.s (.val (LAttr) sett0), U, U, .s (.val (.int .i64) it3), U, U, U, U, U, U, U, U, U, U, U, U, U, U, U, U, U, U], []⟩
noncomputable def ref05_Rising_s2    (LS2 : den (LAttr) → den (.int .i64) → Option (denR (.one (.bool)))) (sett0 : den (LAttr)) (it3 : den (.int .i64)) : Option (denR (.one (.bool))) := (bif (decide (it3 < (sett0.length : Int))) then (bif decide (0 ≤ (IntKind.wrap .i64 (it3 - (1 : Int)))) && decide ((IntKind.wrap .i64 (it3 - (1 : Int))) < (sett0.length : Int)) then (bif decide (0 ≤ it3) && decide (it3 < (sett0.length : Int)) then (bif (decide ((sett0.getD (Int.toNat it3) (dflt (TAttr))).1 ≤ (sett0.getD (Int.toNat (IntKind.wrap .i64 (it3 - (1 : Int)))) (dflt (TAttr))).1)) then some false else LS2 sett0 (IntKind.wrap .i64 (it3 + (1 : Int)))) else none) else none) else some true)
noncomputable def ref05_Rising_l2  (n : Nat)  : Nat → den (LAttr) → den (.int .i64) → Option (denR (.one (.bool)))
  | 0, _, _ => none
  | m + 1, sett0, it3 => ref05_Rising_s2    (fun (sett0 : den (LAttr)) (it3 : den (.int .i64)) => ref05_Rising_l2  n  m sett0 it3) sett0 it3
noncomputable def ref05_Rising_g2    : List (den (TAttr)) → den (LAttr) → den (.int .i64) → Option (denR (.one (.bool)))
  | [], sett0, it3 => some true
  | x :: r, sett0, it3 => (bif decide (0 ≤ (IntKind.wrap .i64 (it3 - (1 : Int)))) && decide ((IntKind.wrap .i64 (it3 - (1 : Int))) < (sett0.length : Int)) then (bif (decide (x.1 ≤ (sett0.getD (Int.toNat (IntKind.wrap .i64 (it3 - (1 : Int)))) (dflt (TAttr))).1)) then some false else ref05_Rising_g2    r sett0 (it3 + (1 : Int))) else none)
theorem ref05_Rising_l2_list  (n : Nat)  : ∀ (m i : Nat) (sett0 : den (LAttr)), sett0.length - i < m → i ≤ sett0.length → sett0.length < 4611686018427387904 → ref05_Rising_l2  n  m sett0 (i : Int) = ref05_Rising_g2    (sett0.drop i) sett0 (i : Int) := by
  intro m
  induction m with
  | zero => intro i sett0 h1; omega
  | succ m ih =>
    intro i sett0 h1 h2 h3
    show ref05_Rising_s2    (fun (sett0 : den (LAttr)) (it3 : den (.int .i64)) => ref05_Rising_l2  n  m sett0 it3) sett0 (i : Int) = _
    unfold ref05_Rising_s2
    have b0 : decide ((0 : Int) ≤ (i : Int)) = true := decide_eq_true (by omega)
    rcases Nat.lt_or_ge i sett0.length with hi | hi
    · have b1 : decide ((i : Int) < (sett0.length : Int)) = true := decide_eq_true (by omega)
      have bw : IntKind.i64.wrap ((i : Int) + (1 : Int)) = ((i + 1 : Nat) : Int) := w64s (by omega)
      have ih' : ∀ (_u : Unit), ref05_Rising_l2  n  m sett0 ((i + 1 : Nat) : Int) = ref05_Rising_g2    (sett0.drop (i + 1)) sett0 ((i + 1 : Nat) : Int) := fun _u => ih (i + 1) sett0 (by omega) (by omega) h3
      simp only [b0, b1, bw, Bool.and_true, Bool.true_and, cond_true, Int.toNat_natCast, ih' ()]
      rw [drop_getD hi (dflt (TAttr))]
      rfl
    · have b1 : decide ((i : Int) < (sett0.length : Int)) = false := decide_eq_false (by omega)
      simp only [b1, cond_false]
      rw [List.drop_eq_nil_of_le hi]
      rfl
noncomputable def ref05_Rising_F2 (call : Call0) (n : Nat)  : (St → Option (denR (.one (.bool)))) → St → Option (denR (.one (.bool))) := fun rec => exec cfg call n 9 (cat B9 [1, 0, 1, 0, 0]) (kLoop rec (lk2 9 2 cfg.keep) (kBlock 0 (kSq (exec cfg call n 9 (cat B9 [1, 1])) (kret cfg Go.Proofs.Try.f9 (.one (.bool))))))
theorem ref05_Rising_l2_eq (call : Call0) (n : Nat)  : ∀ (m : Nat) (sett0 : den (LAttr)) (it3 : den (.int .i64)), loopN (ref05_Rising_F2 call n ) m (ref05_Rising_sh2 sett0 it3) = ref05_Rising_l2  n  m sett0 it3 := by
  intro m
  induction m with
  | zero => intros; rfl
  | succ m ih =>
    intro sett0 it3
    have h : loopN (ref05_Rising_F2 call n ) (m + 1) (ref05_Rising_sh2 sett0 it3) = ref05_Rising_s2    (fun (sett0 : den (LAttr)) (it3 : den (.int .i64)) => loopN (ref05_Rising_F2 call n ) m (ref05_Rising_sh2 sett0 it3)) sett0 it3 := by kernel_rfl
    have e0 : (fun (sett0 : den (LAttr)) (it3 : den (.int .i64)) => loopN (ref05_Rising_F2 call n ) m (ref05_Rising_sh2 sett0 it3)) = (fun (sett0 : den (LAttr)) (it3 : den (.int .i64)) => ref05_Rising_l2  n  m sett0 it3) := by funext sett0 it3; exact ih sett0 it3
    rw [h, e0]; rfl
noncomputable def ref05_Rising_top  (LL2 : den (LAttr) → den (.int .i64) → Option (denR (.one (.bool)))) (a0 : den (LAttr)) : Option (denR (.one (.bool))) := LL2 a0 (1 : Int)
noncomputable def ref05_Rising : Nat → den (LAttr) → Option (denR (.one (.bool)))
  | 0, _ => none
  | n + 1, a0 => ref05_Rising_top  (ref05_Rising_l2  n n) a0
theorem ref05_Rising_eq (n : Nat) (a0 : den (LAttr)) : (acalls cfg intr intrI n).p 9 [.s (.val (LAttr) a0)] (.one (.bool)) = ref05_Rising n a0 := by
  cases n with
  | zero => rfl
  | succ n =>
    have h : (acalls cfg intr intrI (n + 1)).p 9 [.s (.val (LAttr) a0)] (.one (.bool)) = ref05_Rising_top  (fun (sett0 : den (LAttr)) (it3 : den (.int .i64)) => loopN (ref05_Rising_F2 (acalls cfg intr intrI n) n) n (ref05_Rising_sh2 sett0 it3)) a0 := by kernel_rfl
    have e2 : (fun (sett0 : den (LAttr)) (it3 : den (.int .i64)) => loopN (ref05_Rising_F2 (acalls cfg intr intrI n) n) n (ref05_Rising_sh2 sett0 it3)) = ref05_Rising_l2  n n := by funext sett0 it3; exact ref05_Rising_l2_eq (acalls cfg intr intrI n) n n sett0 it3
    rw [h, e2]; rfl

noncomputable def B10 : Code := (Go.Proofs.Try.f10.body).getD .skip
noncomputable def ref06_Rising_sh2 (pt0 : den (LChange)) (it3 : den (.int .i64)) : St := ⟨[.s (.val (LChange) pt0), U, U, .s (.val (.int .i64) it3), U, U, U, U, U, U, U, U, U, U, U, U, U, U, U, U, U, U], []⟩
noncomputable def ref06_Rising_s2    (LS2 : den (LChange) → den (.int .i64) → Option (denR (.one (.bool)))) (pt0 : den (LChange)) (it3 : den (.int .i64)) : Option (denR (.one (.bool))) := (bif (decide (it3 < (pt0.length : Int))) then (bif decide (0 ≤ (IntKind.wrap .i64 (it3 - (1 : Int)))) && decide ((IntKind.wrap .i64 (it3 - (1 : Int))) < (pt0.length : Int)) then (bif decide (0 ≤ it3) && decide (it3 < (pt0.length : Int)) then (bif (decide ((pt0.getD (Int.toNat it3) (dflt (TChange))).1 ≤ (pt0.getD (Int.toNat (IntKind.wrap .i64 (it3 - (1 : Int)))) (dflt (TChange))).1)) then some false else LS2 pt0 (IntKind.wrap .i64 (it3 + (1 : Int)))) else none) else none) else some true)
noncomputable def ref06_Rising_l2  (n : Nat)  : Nat → den (LChange) → den (.int .i64) → Option (denR (.one (.bool)))
  | 0, _, _ => none
  | m + 1, pt0, it3 => ref06_Rising_s2    (fun (pt0 : den (LChange)) (it3 : den (.int .i64)) => ref06_Rising_l2  n  m pt0 it3) pt0 it3
noncomputable def ref06_Rising_g2    : List (den (TChange)) → den (LChange) → den (.int .i64) → Option (denR (.one (.bool)))
  | [], pt0, it3 => some true
  | x :: r, pt0, it3 => (bif decide (0 ≤ (IntKind.wrap .i64 (it3 - (1 : Int)))) && decide ((IntKind.wrap .i64 (it3 - (1 : Int))) < (pt0.length : Int)) then (bif (decide (x.1 ≤ (pt0.getD (Int.toNat (IntKind.wrap .i64 (it3 - (1 : Int)))) (dflt (TChange))).1)) then some false else ref06_Rising_g2    r pt0 (it3 + (1 : Int))) else none)
theorem ref06_Rising_l2_list  (n : Nat)  : ∀ (m i : Nat) (pt0 : den (LChange)), pt0.length - i < m → i ≤ pt0.length → pt0.length < 4611686018427387904 → ref06_Rising_l2  n  m pt0 (i : Int) = ref06_Rising_g2    (pt0.drop i) pt0 (i : Int) := by
  intro m
  induction m with
  | zero => intro i pt0 h1; omega
  | succ m ih =>
    intro i pt0 h1 h2 h3
    show ref06_Rising_s2    (fun (pt0 : den (LChange)) (it3 : den (.int .i64)) => ref06_Rising_l2  n  m pt0 it3) pt0 (i : Int) = _
    unfold ref06_Rising_s2
    have b0 : decide ((0 : Int) ≤ (i : Int)) = true := decide_eq_true (by omega)
    rcases Nat.lt_or_ge i pt0.length with hi | hi
    · have b1 : decide ((i : Int) < (pt0.length : Int)) = true := decide_eq_true (by omega)
      have bw : IntKind.i64.wrap ((i : Int) + (1 : Int)) = ((i + 1 : Nat) : Int) := w64s (by omega)
      have ih' : ∀ (_u : Unit), ref06_Rising_l2  n  m pt0 ((i + 1 : Nat) : Int) = ref06_Rising_g2    (pt0.drop (i + 1)) pt0 ((i + 1 : Nat) : Int) := fun _u => ih (i + 1) pt0 (by omega) (by omega) h3
      simp only [b0, b1, bw, Bool.and_true, Bool.true_and, cond_true, Int.toNat_natCast, ih' ()]
      rw [drop_getD hi (dflt (TChange))]
      rfl
    · have b1 : decide ((i : Int) < (pt0.length : Int)) = false := decide_eq_false (by omega)
      simp only [b1, cond_false]
      rw [List.drop_eq_nil_of_le hi]
      rfl
noncomputable def ref06_Rising_F2 (call : Call0) (n : Nat)  : (St → Option (denR (.one (.bool)))) → St → Option (denR (.one (.bool))) := fun rec => exec cfg call n 10 (cat B10 [1, 0, 1, 0, 0]) (kLoop rec (lk2 10 2 cfg.keep) (kBlock 0 (kSq (exec cfg call n 10 (cat B10 [1, 1])) (kret cfg Go.Proofs.Try.f10 (.one (.bool))))))
theorem ref06_Rising_l2_eq (call : Call0) (n : Nat)  : ∀ (m : Nat) (pt0 : den (LChange)) (it3 : den (.int .i64)), loopN (ref06_Rising_F2 call n ) m (ref06_Rising_sh2 pt0 it3) = ref06_Rising_l2  n  m pt0 it3 := by
  intro m
  induction m with
  | zero => intros; rfl
  | succ m ih =>
    intro pt0 it3
    have h : loopN (ref06_Rising_F2 call n ) (m + 1) (ref06_Rising_sh2 pt0 it3) = ref06_Rising_s2    (fun (pt0 : den (LChange)) (it3 : den (.int .i64)) => loopN (ref06_Rising_F2 call n ) m (ref06_Rising_sh2 pt0 it3)) pt0 it3 := by kernel_rfl
    have e0 : (fun (pt0 : den (LChange)) (it3 : den (.int .i64)) => loopN (ref06_Rising_F2 call n ) m (ref06_Rising_sh2 pt0 it3)) = (fun (pt0 : den (LChange)) (it3 : den (.int .i64)) => ref06_Rising_l2  n  m pt0 it3) := by funext pt0 it3; exact ih pt0 it3
    rw [h, e0]; rfl
noncomputable def ref06_Rising_top  (LL2 : den (LChange) → den (.int .i64) → Option (denR (.one (.bool)))) (a0 : den (LChange)) : Option (denR (.one (.bool))) := LL2 a0 (1 : Int)
noncomputable def ref06_Rising : Nat → den (LChange) → Option (denR (.one (.bool)))
  | 0, _ => none
  | n + 1, a0 => ref06_Rising_top  (ref06_Rising_l2  n n) a0
theorem ref06_Rising_eq (n : Nat) (a0 : den (LChange)) : (acalls cfg intr intrI n).p 10 [.s (.val (LChange) a0)] (.one (.bool)) = ref06_Rising n a0 := by
  cases n with
  | zero => rfl
  | succ n =>
    have h : (acalls cfg intr intrI (n + 1)).p 10 [.s (.val (LChange) a0)] (.one (.bool)) = ref06_Rising_top  (fun (pt0 : den (LChange)) (it3 : den (.int .i64)) => loopN (ref06_Rising_F2 (acalls cfg intr intrI n) n) n (ref06_Rising_sh2 pt0 it3)) a0 := by kernel_rfl
    have e2 : (fun (pt0 : den (LChange)) (it3 : den (.int .i64)) => loopN (ref06_Rising_F2 (acalls cfg intr intrI n) n) n (ref06_Rising_sh2 pt0 it3)) = ref06_Rising_l2  n n := by funext pt0 it3; exact ref06_Rising_l2_eq (acalls cfg intr intrI n) n n pt0 it3
    rw [h, e2]; rfl

noncomputable def law06_PatchBack_top (C_law06_great : den (LChange) → den (LLAttr) → Option (denR (.one (.bool)))) (C_law06_known : Option (denR (.one (.bool)))) (C_ref05_Rising : den (LAttr) → Option (denR (.one (.bool)))) (C_ref06_Rising : den (LChange) → Option (denR (.one (.bool)))) (C_patch_Apply : den (LAttr) → den (LChange) → Option (denR (.one (LAttr)))) (C_patch_Invert : den (LAttr) → den (LChange) → Option (denR (.one (LChange)))) (C_ref05_Same : den (LAttr) → den (LAttr) → Option (denR (.one (.bool)))) (C_patch_Diff : den (LAttr) → den (LAttr) → Option (denR (.one (LChange)))) (C_patch_Same : den (LChange) → den (LChange) → Option (denR (.one (.bool))))  (a0 : den (LAttr)) (a1 : den (LAttr)) (a2 : den (LChange)) : Option (denR (.one (.bool))) := ((C_law06_great a2 ([a0, a1] : den (LLAttr))).bind fun r1 => (bif r1 then ((C_law06_known).bind fun r2 => some r2) else ((C_ref05_Rising a0).bind fun r3 => (bif (!r3) then ((C_law06_known).bind fun r4 => some r4) else ((C_ref05_Rising a1).bind fun r5 => (bif (!r5) then ((C_law06_known).bind fun r6 => some r6) else ((C_ref06_Rising a2).bind fun r7 => (bif (!r7) then ((C_law06_known).bind fun r8 => some r8) else ((C_patch_Apply a0 a2).bind fun r9 => ((C_patch_Invert a0 a2).bind fun r10 => ((C_patch_Apply r9 r10).bind fun r11 => ((C_ref05_Same r11 a0).bind fun r12 => (bif (!r12) then some false else ((C_patch_Diff a0 a1).bind fun r13 => ((C_patch_Apply a0 r13).bind fun r14 => ((C_ref05_Same r14 a1).bind fun r15 => (bif (!r15) then some false else ((C_patch_Diff a0 a0).bind fun r16 => (bif ((!decide ((r16.length : Int) = (0 : Int)))) then some false else ((C_patch_Diff a0 a1).bind fun r17 => ((C_patch_Invert a0 r17).bind fun r18 => ((C_patch_Diff a1 a0).bind fun r19 => ((C_patch_Same r18 r19).bind fun r20 => (bif r20 then ((C_law06_known).bind fun r21 => some r21) else some false))))))))))))))))))))))))
noncomputable def law06_PatchBack : Nat → den (LAttr) → den (LAttr) → den (LChange) → Option (denR (.one (.bool)))
  | 0, _, _, _ => none
  | n + 1, a0, a1, a2 => law06_PatchBack_top (law06_great n) (law06_known n) (ref05_Rising n) (ref06_Rising n) (patch_Apply n) (patch_Invert n) (ref05_Same n) (patch_Diff n) (patch_Same n)  a0 a1 a2
theorem law06_PatchBack_eq (n : Nat) (a0 : den (LAttr)) (a1 : den (LAttr)) (a2 : den (LChange)) : (acalls cfg intr intrI n).p 3 [.s (.val (LAttr) a0), .s (.val (LAttr) a1), .s (.val (LChange) a2)] (.one (.bool)) = law06_PatchBack n a0 a1 a2 := by
  cases n with
  | zero => rfl
  | succ n =>
    have h : (acalls cfg intr intrI (n + 1)).p 3 [.s (.val (LAttr) a0), .s (.val (LAttr) a1), .s (.val (LChange) a2)] (.one (.bool)) = law06_PatchBack_top (fun (a0 : den (LChange)) (a1 : den (LLAttr)) => (acalls cfg intr intrI n).p 8 [.s (.val (LChange) a0), .s (.val (LLAttr) a1)] (.one (.bool))) ((acalls cfg intr intrI n).p 11 [] (.one (.bool))) (fun (a0 : den (LAttr)) => (acalls cfg intr intrI n).p 9 [.s (.val (LAttr) a0)] (.one (.bool))) (fun (a0 : den (LChange)) => (acalls cfg intr intrI n).p 10 [.s (.val (LChange) a0)] (.one (.bool))) (fun (a0 : den (LAttr)) (a1 : den (LChange)) => (acalls cfg intr intrI n).p 13 [.s (.val (LAttr) a0), .s (.val (LChange) a1)] (.one (LAttr))) (fun (a0 : den (LAttr)) (a1 : den (LChange)) => (acalls cfg intr intrI n).p 14 [.s (.val (LAttr) a0), .s (.val (LChange) a1)] (.one (LChange))) (fun (a0 : den (LAttr)) (a1 : den (LAttr)) => (acalls cfg intr intrI n).p 12 [.s (.val (LAttr) a0), .s (.val (LAttr) a1)] (.one (.bool))) (fun (a0 : den (LAttr)) (a1 : den (LAttr)) => (acalls cfg intr intrI n).p 15 [.s (.val (LAttr) a0), .s (.val (LAttr) a1)] (.one (LChange))) (fun (a0 : den (LChange)) (a1 : den (LChange)) => (acalls cfg intr intrI n).p 16 [.s (.val (LChange) a0), .s (.val (LChange) a1)] (.one (.bool)))  a0 a1 a2 := by kernel_rfl
    have c_law06_great : (fun (a0 : den (LChange)) (a1 : den (LLAttr)) => (acalls cfg intr intrI n).p 8 [.s (.val (LChange) a0), .s (.val (LLAttr) a1)] (.one (.bool))) = law06_great n := by funext a0 a1; exact law06_great_eq n a0 a1
    have c_law06_known : ((acalls cfg intr intrI n).p 11 [] (.one (.bool))) = law06_known n := law06_known_eq n
    have c_ref05_Rising : (fun (a0 : den (LAttr)) => (acalls cfg intr intrI n).p 9 [.s (.val (LAttr) a0)] (.one (.bool))) = ref05_Rising n := by funext a0; exact ref05_Rising_eq n a0
    have c_ref06_Rising : (fun (a0 : den (LChange)) => (acalls cfg intr intrI n).p 10 [.s (.val (LChange) a0)] (.one (.bool))) = ref06_Rising n := by funext a0; exact ref06_Rising_eq n a0
    have c_patch_Apply : (fun (a0 : den (LAttr)) (a1 : den (LChange)) => (acalls cfg intr intrI n).p 13 [.s (.val (LAttr) a0), .s (.val (LChange) a1)] (.one (LAttr))) = patch_Apply n := by funext a0 a1; exact patch_Apply_eq n a0 a1
    have c_patch_Invert : (fun (a0 : den (LAttr)) (a1 : den (LChange)) => (acalls cfg intr intrI n).p 14 [.s (.val (LAttr) a0), .s (.val (LChange) a1)] (.one (LChange))) = patch_Invert n := by funext a0 a1; exact patch_Invert_eq n a0 a1
    have c_ref05_Same : (fun (a0 : den (LAttr)) (a1 : den (LAttr)) => (acalls cfg intr intrI n).p 12 [.s (.val (LAttr) a0), .s (.val (LAttr) a1)] (.one (.bool))) = ref05_Same n := by funext a0 a1; exact ref05_Same_eq n a0 a1
    have c_patch_Diff : (fun (a0 : den (LAttr)) (a1 : den (LAttr)) => (acalls cfg intr intrI n).p 15 [.s (.val (LAttr) a0), .s (.val (LAttr) a1)] (.one (LChange))) = patch_Diff n := by funext a0 a1; exact patch_Diff_eq n a0 a1
    have c_patch_Same : (fun (a0 : den (LChange)) (a1 : den (LChange)) => (acalls cfg intr intrI n).p 16 [.s (.val (LChange) a0), .s (.val (LChange) a1)] (.one (.bool))) = patch_Same n := by funext a0 a1; exact patch_Same_eq n a0 a1
    rw [h, c_law06_great, c_law06_known, c_ref05_Rising, c_ref06_Rising, c_patch_Apply, c_patch_Invert, c_ref05_Same, c_patch_Diff, c_patch_Same]; rfl

noncomputable def B17 : Code := (Go.Proofs.Try.f17.body).getD .skip
noncomputable def patch_Compose_sh6 (pt0 : den (LChange)) (it6 : den (.int .i64)) (t9 : den (LChange)) (t10 : den (.int .i64)) (t11 : den (.int .i64)) (outo5 : den (LChange)) (co8 : den (TChange)) : St := ⟨[.s (.val (LChange) pt0), U, U, U, U, .s (.arr 5), .s (.val (.int .i64) it6), U, .s (.ref 8 []), .s (.val (LChange) t9), .s (.val (.int .i64) t10), .s (.val (.int .i64) t11), U, U, U, U, U, U, U, U, U, U, U, U, U, U, U, U, U, U, U, U, U, U, U, U, U, U, U, U, U, U, U, U, U, U, U, U, U, U, U, U, U, U, U, U], [(5, .arr 40 (TChange) outo5), (8, .box (TChange) co8)]⟩
noncomputable def patch_Compose_sh4 (pt0 : den (LChange)) (it6 : den (.int .i64)) (t9 : den (LChange)) (t10 : den (.int .i64)) (t11 : den (.int .i64)) (outo5 : den (LChange)) : St := ⟨[.s (.val (LChange) pt0), U, U, U, U, .s (.arr 5), .s (.val (.int .i64) it6), U, U, .s (.val (LChange) t9), .s (.val (.int .i64) t10), .s (.val (.int .i64) t11), U, U, U, U, U, U, U, U, U, U, U, U, U, U, U, U, U, U, U, U, U, U, U, U, U, U, U, U, U, U, U, U, U, U, U, U, U, U, U, U, U, U, U, U], [(5, .arr 40 (TChange) outo5)]⟩
noncomputable def patch_Compose_s6   (LS4 : den (LChange) → den (.int .i64) → den (LChange) → den (.int .i64) → den (.int .i64) → den (LChange) → Option (denR (.one (LChange)))) (LS6 : den (LChange) → den (.int .i64) → den (LChange) → den (.int .i64) → den (.int .i64) → den (LChange) → den (TChange) → Option (denR (.one (LChange)))) (pt0 : den (LChange)) (it6 : den (.int .i64)) (t9 : den (LChange)) (t10 : den (.int .i64)) (t11 : den (.int .i64)) (outo5 : den (LChange)) (co8 : den (TChange)) : Option (denR (.one (LChange))) := (bif (decide (it6 < (pt0.length : Int))) then (bif decide (0 ≤ it6) && decide (it6 < (pt0.length : Int)) then (bif (decide ((pt0.getD (Int.toNat it6) (dflt (TChange))).1 ≤ co8.1)) then (bif decide (0 ≤ it6) && decide (it6 < (pt0.length : Int)) then (bif (decide ((pt0.getD (Int.toNat it6) (dflt (TChange))).1 < co8.1)) then (bif decide (0 ≤ it6) && decide (it6 < (pt0.length : Int)) then (bif decide ((outo5.length + ([(pt0.getD (Int.toNat it6) (dflt (TChange)))] : List (den (TChange))).length) * 56 ≤ 140737488355328) then LS6 pt0 (IntKind.wrap .i64 (it6 + (1 : Int))) t9 t10 t11 (outo5 ++ ([(pt0.getD (Int.toNat it6) (dflt (TChange)))] : List (den (TChange)))) co8 else none) else none) else LS6 pt0 (IntKind.wrap .i64 (it6 + (1 : Int))) t9 t10 t11 outo5 co8) else none) else (bif decide ((outo5.length + ([co8] : List (den (TChange))).length) * 56 ≤ 140737488355328) then LS4 pt0 it6 t9 t10 (IntKind.wrap .i64 (t11 + (1 : Int))) (outo5 ++ ([co8] : List (den (TChange)))) else none)) else none) else (bif decide ((outo5.length + ([co8] : List (den (TChange))).length) * 56 ≤ 140737488355328) then LS4 pt0 it6 t9 t10 (IntKind.wrap .i64 (t11 + (1 : Int))) (outo5 ++ ([co8] : List (den (TChange)))) else none))
noncomputable def patch_Compose_l6  (n : Nat) (LS4 : den (LChange) → den (.int .i64) → den (LChange) → den (.int .i64) → den (.int .i64) → den (LChange) → Option (denR (.one (LChange)))) : Nat → den (LChange) → den (.int .i64) → den (LChange) → den (.int .i64) → den (.int .i64) → den (LChange) → den (TChange) → Option (denR (.one (LChange)))
  | 0, _, _, _, _, _, _, _ => none
  | m + 1, pt0, it6, t9, t10, t11, outo5, co8 => patch_Compose_s6   LS4 (fun (pt0 : den (LChange)) (it6 : den (.int .i64)) (t9 : den (LChange)) (t10 : den (.int .i64)) (t11 : den (.int .i64)) (outo5 : den (LChange)) (co8 : den (TChange)) => patch_Compose_l6  n LS4 m pt0 it6 t9 t10 t11 outo5 co8) pt0 it6 t9 t10 t11 outo5 co8
noncomputable def patch_Compose_g6   (LS4 : den (LChange) → den (.int .i64) → den (LChange) → den (.int .i64) → den (.int .i64) → den (LChange) → Option (denR (.one (LChange)))) : List (den (TChange)) → den (LChange) → den (.int .i64) → den (LChange) → den (.int .i64) → den (.int .i64) → den (LChange) → den (TChange) → Option (denR (.one (LChange)))
  | [], pt0, it6, t9, t10, t11, outo5, co8 => (bif decide ((outo5.length + ([co8] : List (den (TChange))).length) * 56 ≤ 140737488355328) then LS4 pt0 it6 t9 t10 (IntKind.wrap .i64 (t11 + (1 : Int))) (outo5 ++ ([co8] : List (den (TChange)))) else none)
  | x :: r, pt0, it6, t9, t10, t11, outo5, co8 => (bif (decide (x.1 ≤ co8.1)) then (bif (decide (x.1 < co8.1)) then (bif decide ((outo5.length + ([x] : List (den (TChange))).length) * 56 ≤ 140737488355328) then patch_Compose_g6   LS4 r pt0 (it6 + (1 : Int)) t9 t10 t11 (outo5 ++ ([x] : List (den (TChange)))) co8 else none) else patch_Compose_g6   LS4 r pt0 (it6 + (1 : Int)) t9 t10 t11 outo5 co8) else (bif decide ((outo5.length + ([co8] : List (den (TChange))).length) * 56 ≤ 140737488355328) then LS4 pt0 it6 t9 t10 (IntKind.wrap .i64 (t11 + (1 : Int))) (outo5 ++ ([co8] : List (den (TChange)))) else none))
theorem patch_Compose_l6_list  (n : Nat) (LS4 : den (LChange) → den (.int .i64) → den (LChange) → den (.int .i64) → den (.int .i64) → den (LChange) → Option (denR (.one (LChange)))) : ∀ (m i : Nat) (pt0 : den (LChange)) (t9 : den (LChange)) (t10 : den (.int .i64)) (t11 : den (.int .i64)) (outo5 : den (LChange)) (co8 : den (TChange)), pt0.length - i < m → i ≤ pt0.length → pt0.length < 4611686018427387904 → patch_Compose_l6  n LS4 m pt0 (i : Int) t9 t10 t11 outo5 co8 = patch_Compose_g6   LS4 (pt0.drop i) pt0 (i : Int) t9 t10 t11 outo5 co8 := by
  intro m
  induction m with
  | zero => intro i pt0 t9 t10 t11 outo5 co8 h1; omega
  | succ m ih =>
    intro i pt0 t9 t10 t11 outo5 co8 h1 h2 h3
    show patch_Compose_s6   LS4 (fun (pt0 : den (LChange)) (it6 : den (.int .i64)) (t9 : den (LChange)) (t10 : den (.int .i64)) (t11 : den (.int .i64)) (outo5 : den (LChange)) (co8 : den (TChange)) => patch_Compose_l6  n LS4 m pt0 it6 t9 t10 t11 outo5 co8) pt0 (i : Int) t9 t10 t11 outo5 co8 = _
    unfold patch_Compose_s6
    have b0 : decide ((0 : Int) ≤ (i : Int)) = true := decide_eq_true (by omega)
    rcases Nat.lt_or_ge i pt0.length with hi | hi
    · have b1 : decide ((i : Int) < (pt0.length : Int)) = true := decide_eq_true (by omega)
      have bw : IntKind.i64.wrap ((i : Int) + (1 : Int)) = ((i + 1 : Nat) : Int) := w64s (by omega)
      have ih' : ∀ (t9 : den (LChange)) (t10 : den (.int .i64)) (t11 : den (.int .i64)) (outo5 : den (LChange)) (co8 : den (TChange)), patch_Compose_l6  n LS4 m pt0 ((i + 1 : Nat) : Int) t9 t10 t11 outo5 co8 = patch_Compose_g6   LS4 (pt0.drop (i + 1)) pt0 ((i + 1 : Nat) : Int) t9 t10 t11 outo5 co8 := fun t9 t10 t11 outo5 co8 => ih (i + 1) pt0 t9 t10 t11 outo5 co8 (by omega) (by omega) h3
      simp only [b0, b1, bw, Bool.and_true, Bool.true_and, cond_true, Int.toNat_natCast, ih']
      rw [drop_getD hi (dflt (TChange))]
      rfl
    · have b1 : decide ((i : Int) < (pt0.length : Int)) = false := decide_eq_false (by omega)
      simp only [b1, cond_false]
      rw [List.drop_eq_nil_of_le hi]
      rfl
noncomputable def patch_Compose_F6 (call : Call0) (n : Nat) (r4 : St → Option (denR (.one (LChange)))) : (St → Option (denR (.one (LChange)))) → St → Option (denR (.one (LChange))) := fun rec => exec cfg call n 17 (cat B17 [1, 1, 1, 0, 1, 0, 0, 1, 1, 0, 0, 1, 0, 0, 0]) (kLoop rec (lk2 17 6 cfg.keep) (kBlock 2 (kSq (exec cfg call n 17 (cat B17 [1, 1, 1, 0, 1, 0, 0, 1, 1, 0, 0, 1, 1])) (kBlock 1 (kSq (exec cfg call n 17 (cat B17 [1, 1, 1, 0, 1, 0, 0, 1, 1, 1])) (kLoop r4 (lk2 17 4 cfg.keep) (kBlock 0 (kSq (exec cfg call n 17 (cat B17 [1, 1, 1, 1])) (kret cfg Go.Proofs.Try.f17 (.one (LChange)))))))))))
theorem patch_Compose_l6_eq (call : Call0) (n : Nat) (r4 : St → Option (denR (.one (LChange)))) : ∀ (m : Nat) (pt0 : den (LChange)) (it6 : den (.int .i64)) (t9 : den (LChange)) (t10 : den (.int .i64)) (t11 : den (.int .i64)) (outo5 : den (LChange)) (co8 : den (TChange)), loopN (patch_Compose_F6 call n r4) m (patch_Compose_sh6 pt0 it6 t9 t10 t11 outo5 co8) = patch_Compose_l6  n (fun (pt0 : den (LChange)) (it6 : den (.int .i64)) (t9 : den (LChange)) (t10 : den (.int .i64)) (t11 : den (.int .i64)) (outo5 : den (LChange)) => r4 (patch_Compose_sh4 pt0 it6 t9 t10 t11 outo5)) m pt0 it6 t9 t10 t11 outo5 co8 := by
  intro m
  induction m with
  | zero => intros; rfl
  | succ m ih =>
    intro pt0 it6 t9 t10 t11 outo5 co8
    have h : loopN (patch_Compose_F6 call n r4) (m + 1) (patch_Compose_sh6 pt0 it6 t9 t10 t11 outo5 co8) = patch_Compose_s6   (fun (pt0 : den (LChange)) (it6 : den (.int .i64)) (t9 : den (LChange)) (t10 : den (.int .i64)) (t11 : den (.int .i64)) (outo5 : den (LChange)) => r4 (patch_Compose_sh4 pt0 it6 t9 t10 t11 outo5)) (fun (pt0 : den (LChange)) (it6 : den (.int .i64)) (t9 : den (LChange)) (t10 : den (.int .i64)) (t11 : den (.int .i64)) (outo5 : den (LChange)) (co8 : den (TChange)) => loopN (patch_Compose_F6 call n r4) m (patch_Compose_sh6 pt0 it6 t9 t10 t11 outo5 co8)) pt0 it6 t9 t10 t11 outo5 co8 := by kernel_rfl
    have e0 : (fun (pt0 : den (LChange)) (it6 : den (.int .i64)) (t9 : den (LChange)) (t10 : den (.int .i64)) (t11 : den (.int .i64)) (outo5 : den (LChange)) (co8 : den (TChange)) => loopN (patch_Compose_F6 call n r4) m (patch_Compose_sh6 pt0 it6 t9 t10 t11 outo5 co8)) = (fun (pt0 : den (LChange)) (it6 : den (.int .i64)) (t9 : den (LChange)) (t10 : den (.int .i64)) (t11 : den (.int .i64)) (outo5 : den (LChange)) (co8 : den (TChange)) => patch_Compose_l6  n (fun (pt0 : den (LChange)) (it6 : den (.int .i64)) (t9 : den (LChange)) (t10 : den (.int .i64)) (t11 : den (.int .i64)) (outo5 : den (LChange)) => r4 (patch_Compose_sh4 pt0 it6 t9 t10 t11 outo5)) m pt0 it6 t9 t10 t11 outo5 co8) := by funext pt0 it6 t9 t10 t11 outo5 co8; exact ih pt0 it6 t9 t10 t11 outo5 co8
    rw [h, e0]; rfl
noncomputable def patch_Compose_s4  (LL6 : den (LChange) → den (.int .i64) → den (LChange) → den (.int .i64) → den (.int .i64) → den (LChange) → den (TChange) → Option (denR (.one (LChange))))  (LS4 : den (LChange) → den (.int .i64) → den (LChange) → den (.int .i64) → den (.int .i64) → den (LChange) → Option (denR (.one (LChange)))) (pt0 : den (LChange)) (it6 : den (.int .i64)) (t9 : den (LChange)) (t10 : den (.int .i64)) (t11 : den (.int .i64)) (outo5 : den (LChange)) : Option (denR (.one (LChange))) := (bif (decide (t11 < t10)) then (bif decide (0 ≤ t11) && decide (t11 < (t9.length : Int)) then LL6 pt0 it6 t9 t10 t11 outo5 (t9.getD (Int.toNat t11) (dflt (TChange))) else none) else (bif decide (0 ≤ it6) && decide (it6 ≤ (pt0.length : Int)) && decide ((pt0.length : Int) ≤ (pt0.length : Int)) then (bif decide ((outo5.length + (pt0.drop (Int.toNat it6)).length) * 56 ≤ 140737488355328) then some (outo5 ++ (pt0.drop (Int.toNat it6))) else none) else none))
noncomputable def patch_Compose_l4  (n : Nat)  : Nat → den (LChange) → den (.int .i64) → den (LChange) → den (.int .i64) → den (.int .i64) → den (LChange) → Option (denR (.one (LChange)))
  | 0, _, _, _, _, _, _ => none
  | m + 1, pt0, it6, t9, t10, t11, outo5 => patch_Compose_s4  (patch_Compose_l6  n (fun (pt0 : den (LChange)) (it6 : den (.int .i64)) (t9 : den (LChange)) (t10 : den (.int .i64)) (t11 : den (.int .i64)) (outo5 : den (LChange)) => patch_Compose_l4  n  m pt0 it6 t9 t10 t11 outo5) n)  (fun (pt0 : den (LChange)) (it6 : den (.int .i64)) (t9 : den (LChange)) (t10 : den (.int .i64)) (t11 : den (.int .i64)) (outo5 : den (LChange)) => patch_Compose_l4  n  m pt0 it6 t9 t10 t11 outo5) pt0 it6 t9 t10 t11 outo5
noncomputable def patch_Compose_F4 (call : Call0) (n : Nat)  : (St → Option (denR (.one (LChange)))) → St → Option (denR (.one (LChange))) := fun rec => exec cfg call n 17 (cat B17 [1, 1, 1, 0, 1, 0, 0]) (kLoop rec (lk2 17 4 cfg.keep) (kBlock 0 (kSq (exec cfg call n 17 (cat B17 [1, 1, 1, 1])) (kret cfg Go.Proofs.Try.f17 (.one (LChange))))))
theorem patch_Compose_l4_eq (call : Call0) (n : Nat)  : ∀ (m : Nat) (pt0 : den (LChange)) (it6 : den (.int .i64)) (t9 : den (LChange)) (t10 : den (.int .i64)) (t11 : den (.int .i64)) (outo5 : den (LChange)), loopN (patch_Compose_F4 call n ) m (patch_Compose_sh4 pt0 it6 t9 t10 t11 outo5) = patch_Compose_l4  n  m pt0 it6 t9 t10 t11 outo5 := by
  intro m
  induction m with
  | zero => intros; rfl
  | succ m ih =>
    intro pt0 it6 t9 t10 t11 outo5
    have h : loopN (patch_Compose_F4 call n ) (m + 1) (patch_Compose_sh4 pt0 it6 t9 t10 t11 outo5) = patch_Compose_s4  (fun (pt0 : den (LChange)) (it6 : den (.int .i64)) (t9 : den (LChange)) (t10 : den (.int .i64)) (t11 : den (.int .i64)) (outo5 : den (LChange)) (co8 : den (TChange)) => loopN (patch_Compose_F6 call n (loopN (patch_Compose_F4 call n ) m)) n (patch_Compose_sh6 pt0 it6 t9 t10 t11 outo5 co8))  (fun (pt0 : den (LChange)) (it6 : den (.int .i64)) (t9 : den (LChange)) (t10 : den (.int .i64)) (t11 : den (.int .i64)) (outo5 : den (LChange)) => loopN (patch_Compose_F4 call n ) m (patch_Compose_sh4 pt0 it6 t9 t10 t11 outo5)) pt0 it6 t9 t10 t11 outo5 := by kernel_rfl
    have e6 : (fun (pt0 : den (LChange)) (it6 : den (.int .i64)) (t9 : den (LChange)) (t10 : den (.int .i64)) (t11 : den (.int .i64)) (outo5 : den (LChange)) (co8 : den (TChange)) => loopN (patch_Compose_F6 call n (loopN (patch_Compose_F4 call n ) m)) n (patch_Compose_sh6 pt0 it6 t9 t10 t11 outo5 co8)) = patch_Compose_l6  n (fun (pt0 : den (LChange)) (it6 : den (.int .i64)) (t9 : den (LChange)) (t10 : den (.int .i64)) (t11 : den (.int .i64)) (outo5 : den (LChange)) => (loopN (patch_Compose_F4 call n ) m) (patch_Compose_sh4 pt0 it6 t9 t10 t11 outo5)) n := by funext pt0 it6 t9 t10 t11 outo5 co8; exact patch_Compose_l6_eq call n (loopN (patch_Compose_F4 call n ) m) n pt0 it6 t9 t10 t11 outo5 co8
    have e0 : (fun (pt0 : den (LChange)) (it6 : den (.int .i64)) (t9 : den (LChange)) (t10 : den (.int .i64)) (t11 : den (.int .i64)) (outo5 : den (LChange)) => loopN (patch_Compose_F4 call n ) m (patch_Compose_sh4 pt0 it6 t9 t10 t11 outo5)) = (fun (pt0 : den (LChange)) (it6 : den (.int .i64)) (t9 : den (LChange)) (t10 : den (.int .i64)) (t11 : den (.int .i64)) (outo5 : den (LChange)) => patch_Compose_l4  n  m pt0 it6 t9 t10 t11 outo5) := by funext pt0 it6 t9 t10 t11 outo5; exact ih pt0 it6 t9 t10 t11 outo5
    rw [h, e6, e0]; rfl
noncomputable def patch_Compose_top  (LL4 : den (LChange) → den (.int .i64) → den (LChange) → den (.int .i64) → den (.int .i64) → den (LChange) → Option (denR (.one (LChange)))) (a0 : den (LChange)) (a1 : den (LChange)) : Option (denR (.one (LChange))) := LL4 a0 (0 : Int) a1 (a1.length : Int) (0 : Int) []
noncomputable def patch_Compose : Nat → den (LChange) → den (LChange) → Option (denR (.one (LChange)))
  | 0, _, _ => none
  | n + 1, a0, a1 => patch_Compose_top  (patch_Compose_l4  n n) a0 a1
theorem patch_Compose_eq (n : Nat) (a0 : den (LChange)) (a1 : den (LChange)) : (acalls cfg intr intrI n).p 17 [.s (.val (LChange) a0), .s (.val (LChange) a1)] (.one (LChange)) = patch_Compose n a0 a1 := by
  cases n with
  | zero => rfl
  | succ n =>
    have h : (acalls cfg intr intrI (n + 1)).p 17 [.s (.val (LChange) a0), .s (.val (LChange) a1)] (.one (LChange)) = patch_Compose_top  (fun (pt0 : den (LChange)) (it6 : den (.int .i64)) (t9 : den (LChange)) (t10 : den (.int .i64)) (t11 : den (.int .i64)) (outo5 : den (LChange)) => loopN (patch_Compose_F4 (acalls cfg intr intrI n) n) n (patch_Compose_sh4 pt0 it6 t9 t10 t11 outo5)) a0 a1 := by kernel_rfl
    have e4 : (fun (pt0 : den (LChange)) (it6 : den (.int .i64)) (t9 : den (LChange)) (t10 : den (.int .i64)) (t11 : den (.int .i64)) (outo5 : den (LChange)) => loopN (patch_Compose_F4 (acalls cfg intr intrI n) n) n (patch_Compose_sh4 pt0 it6 t9 t10 t11 outo5)) = patch_Compose_l4  n n := by funext pt0 it6 t9 t10 t11 outo5; exact patch_Compose_l4_eq (acalls cfg intr intrI n) n n pt0 it6 t9 t10 t11 outo5
    rw [h, e4]; rfl

noncomputable def law06_PatchAlgebra_top (C_law06_great : den (LChange) → den (LLAttr) → Option (denR (.one (.bool)))) (C_law06_known : Option (denR (.one (.bool)))) (C_ref05_Rising : den (LAttr) → Option (denR (.one (.bool)))) (C_ref06_Rising : den (LChange) → Option (denR (.one (.bool)))) (C_patch_Apply : den (LAttr) → den (LChange) → Option (denR (.one (LAttr)))) (C_patch_Compose : den (LChange) → den (LChange) → Option (denR (.one (LChange)))) (C_ref05_Same : den (LAttr) → den (LAttr) → Option (denR (.one (.bool)))) (C_patch_Same : den (LChange) → den (LChange) → Option (denR (.one (.bool))))  (a0 : den (LAttr)) (a1 : den (LChange)) (a2 : den (LChange)) (a3 : den (LChange)) : Option (denR (.one (.bool))) := ((C_law06_great a1 ([a0] : den (LLAttr))).bind fun r1 => (bif r1 then ((C_law06_known).bind fun r2 => some r2) else ((C_law06_great a2 ([] : den (LLAttr))).bind fun r3 => (bif r3 then ((C_law06_known).bind fun r4 => some r4) else ((C_law06_great a3 ([] : den (LLAttr))).bind fun r5 => (bif r5 then ((C_law06_known).bind fun r6 => some r6) else ((C_ref05_Rising a0).bind fun r7 => (bif (!r7) then ((C_law06_known).bind fun r8 => some r8) else ((C_ref06_Rising a1).bind fun r9 => (bif (!r9) then ((C_law06_known).bind fun r10 => some r10) else ((C_ref06_Rising a2).bind fun r11 => (bif (!r11) then ((C_law06_known).bind fun r12 => some r12) else ((C_ref06_Rising a3).bind fun r13 => (bif (!r13) then ((C_law06_known).bind fun r14 => some r14) else ((C_patch_Apply a0 a1).bind fun r15 => ((C_patch_Apply r15 a2).bind fun r16 => ((C_patch_Compose a1 a2).bind fun r17 => ((C_patch_Apply a0 r17).bind fun r18 => ((C_ref05_Same r16 r18).bind fun r19 => (bif (!r19) then some false else ((C_patch_Apply a0 ([] : den (LChange))).bind fun r20 => ((C_ref05_Same r20 a0).bind fun r21 => (bif (!r21) then some false else ((C_patch_Compose a1 a2).bind fun r22 => ((C_patch_Compose r22 a3).bind fun r23 => ((C_patch_Compose a2 a3).bind fun r24 => ((C_patch_Compose a1 r24).bind fun r25 => ((C_patch_Same r23 r25).bind fun r26 => (bif r26 then ((C_patch_Compose a1 ([] : den (LChange))).bind fun r27 => ((C_patch_Same r27 a1).bind fun r28 => (bif r28 then ((C_patch_Compose ([] : den (LChange)) a1).bind fun r29 => ((C_patch_Same r29 a1).bind fun r30 => (bif r30 then ((C_law06_known).bind fun r31 => some r31) else some false))) else some false))) else some false)))))))))))))))))))))))))))))
noncomputable def law06_PatchAlgebra : Nat → den (LAttr) → den (LChange) → den (LChange) → den (LChange) → Option (denR (.one (.bool)))
  | 0, _, _, _, _ => none
  | n + 1, a0, a1, a2, a3 => law06_PatchAlgebra_top (law06_great n) (law06_known n) (ref05_Rising n) (ref06_Rising n) (patch_Apply n) (patch_Compose n) (ref05_Same n) (patch_Same n)  a0 a1 a2 a3
theorem law06_PatchAlgebra_eq (n : Nat) (a0 : den (LAttr)) (a1 : den (LChange)) (a2 : den (LChange)) (a3 : den (LChange)) : (acalls cfg intr intrI n).p 4 [.s (.val (LAttr) a0), .s (.val (LChange) a1), .s (.val (LChange) a2), .s (.val (LChange) a3)] (.one (.bool)) = law06_PatchAlgebra n a0 a1 a2 a3 := by
  cases n with
  | zero => rfl
  | succ n =>
    have h : (acalls cfg intr intrI (n + 1)).p 4 [.s (.val (LAttr) a0), .s (.val (LChange) a1), .s (.val (LChange) a2), .s (.val (LChange) a3)] (.one (.bool)) = law06_PatchAlgebra_top (fun (a0 : den (LChange)) (a1 : den (LLAttr)) => (acalls cfg intr intrI n).p 8 [.s (.val (LChange) a0), .s (.val (LLAttr) a1)] (.one (.bool))) ((acalls cfg intr intrI n).p 11 [] (.one (.bool))) (fun (a0 : den (LAttr)) => (acalls cfg intr intrI n).p 9 [.s (.val (LAttr) a0)] (.one (.bool))) (fun (a0 : den (LChange)) => (acalls cfg intr intrI n).p 10 [.s (.val (LChange) a0)] (.one (.bool))) (fun (a0 : den (LAttr)) (a1 : den (LChange)) => (acalls cfg intr intrI n).p 13 [.s (.val (LAttr) a0), .s (.val (LChange) a1)] (.one (LAttr))) (fun (a0 : den (LChange)) (a1 : den (LChange)) => (acalls cfg intr intrI n).p 17 [.s (.val (LChange) a0), .s (.val (LChange) a1)] (.one (LChange))) (fun (a0 : den (LAttr)) (a1 : den (LAttr)) => (acalls cfg intr intrI n).p 12 [.s (.val (LAttr) a0), .s (.val (LAttr) a1)] (.one (.bool))) (fun (a0 : den (LChange)) (a1 : den (LChange)) => (acalls cfg intr intrI n).p 16 [.s (.val (LChange) a0), .s (.val (LChange) a1)] (.one (.bool)))  a0 a1 a2 a3 := by kernel_rfl
    have c_law06_great : (fun (a0 : den (LChange)) (a1 : den (LLAttr)) => (acalls cfg intr intrI n).p 8 [.s (.val (LChange) a0), .s (.val (LLAttr) a1)] (.one (.bool))) = law06_great n := by funext a0 a1; exact law06_great_eq n a0 a1
    have c_law06_known : ((acalls cfg intr intrI n).p 11 [] (.one (.bool))) = law06_known n := law06_known_eq n
    have c_ref05_Rising : (fun (a0 : den (LAttr)) => (acalls cfg intr intrI n).p 9 [.s (.val (LAttr) a0)] (.one (.bool))) = ref05_Rising n := by funext a0; exact ref05_Rising_eq n a0
    have c_ref06_Rising : (fun (a0 : den (LChange)) => (acalls cfg intr intrI n).p 10 [.s (.val (LChange) a0)] (.one (.bool))) = ref06_Rising n := by funext a0; exact ref06_Rising_eq n a0
    have c_patch_Apply : (fun (a0 : den (LAttr)) (a1 : den (LChange)) => (acalls cfg intr intrI n).p 13 [.s (.val (LAttr) a0), .s (.val (LChange) a1)] (.one (LAttr))) = patch_Apply n := by funext a0 a1; exact patch_Apply_eq n a0 a1
    have c_patch_Compose : (fun (a0 : den (LChange)) (a1 : den (LChange)) => (acalls cfg intr intrI n).p 17 [.s (.val (LChange) a0), .s (.val (LChange) a1)] (.one (LChange))) = patch_Compose n := by funext a0 a1; exact patch_Compose_eq n a0 a1
    have c_ref05_Same : (fun (a0 : den (LAttr)) (a1 : den (LAttr)) => (acalls cfg intr intrI n).p 12 [.s (.val (LAttr) a0), .s (.val (LAttr) a1)] (.one (.bool))) = ref05_Same n := by funext a0 a1; exact ref05_Same_eq n a0 a1
    have c_patch_Same : (fun (a0 : den (LChange)) (a1 : den (LChange)) => (acalls cfg intr intrI n).p 16 [.s (.val (LChange) a0), .s (.val (LChange) a1)] (.one (.bool))) = patch_Same n := by funext a0 a1; exact patch_Same_eq n a0 a1
    rw [h, c_law06_great, c_law06_known, c_ref05_Rising, c_ref06_Rising, c_patch_Apply, c_patch_Compose, c_ref05_Same, c_patch_Same]; rfl

noncomputable def slices_Clone_Change : Nat → den (LChange) → Option (denS (⟨.row 40 (TChange), []⟩ : Sig))
  | 0, _ => none
  | n + 1, a0 => bif decide ((0 + a0.length) * 56 ≤ 140737488355328) then some (a0, ()) else none
theorem slices_Clone_Change_eq (n : Nat) (a0 : den (LChange)) : (acalls cfg intr intrI n).i 31 [.s (.val (LChange) a0)] [] (⟨.row 40 (TChange), []⟩ : Sig) = slices_Clone_Change n a0 := by
  cases n with
  | zero => rfl
  | succ n => kernel_rfl

noncomputable def patch_Less_1_1_top   (a0 : den (TChange)) (a1 : den (TChange)) : Option (denR (.one (.bool))) := some (decide (a0.1 = a1.1))
noncomputable def patch_Less_1_1 : Nat → den (TChange) → den (TChange) → Option (denR (.one (.bool)))
  | 0, _, _ => none
  | n + 1, a0, a1 => patch_Less_1_1_top   a0 a1
theorem patch_Less_1_1_eq (n : Nat) (a0 : den (TChange)) (a1 : den (TChange)) : (acalls cfg intr intrI n).p 34 [.s (.val (TChange) a0), .s (.eptr (TChange) a1)] (.one (.bool)) = patch_Less_1_1 n a0 a1 := by
  cases n with
  | zero => rfl
  | succ n =>
    have h : (acalls cfg intr intrI (n + 1)).p 34 [.s (.val (TChange) a0), .s (.eptr (TChange) a1)] (.one (.bool)) = patch_Less_1_1_top   a0 a1 := by kernel_rfl
    rw [h]; rfl

noncomputable def B41 : Code := (Go.Proofs.Try.f41.body).getD .skip
noncomputable def slices_IndexFunc_Change__patch_Less_1_1_sh2 (st0 : den (LChange)) (ft1_0 : den (TChange)) (t7 : den (.int .i64)) (t8 : den (.int .i64)) : St := ⟨[.s (.val (LChange) st0), .fn 34 [.eptr (TChange) ft1_0], U, U, U, U, U, .s (.val (.int .i64) t7), .s (.val (.int .i64) t8), U, U, U, U, U, U, U, U, U, U], []⟩
noncomputable def slices_IndexFunc_Change__patch_Less_1_1_s2 (C_patch_Less_1_1 : den (TChange) → den (TChange) → Option (denR (.one (.bool))))   (LS2 : den (LChange) → den (TChange) → den (.int .i64) → den (.int .i64) → Option (denR (.one (.int .i64)))) (st0 : den (LChange)) (ft1_0 : den (TChange)) (t7 : den (.int .i64)) (t8 : den (.int .i64)) : Option (denR (.one (.int .i64))) := (bif (decide (t8 < t7)) then (bif decide (0 ≤ t8) && decide (t8 < (st0.length : Int)) then ((C_patch_Less_1_1 (st0.getD (Int.toNat t8) (dflt (TChange))) ft1_0).bind fun r1 => (bif r1 then some t8 else LS2 st0 ft1_0 t7 (IntKind.wrap .i64 (t8 + (1 : Int))))) else none) else some (-1 : Int))
noncomputable def slices_IndexFunc_Change__patch_Less_1_1_l2 (C_patch_Less_1_1 : den (TChange) → den (TChange) → Option (denR (.one (.bool)))) (n : Nat)  : Nat → den (LChange) → den (TChange) → den (.int .i64) → den (.int .i64) → Option (denR (.one (.int .i64)))
  | 0, _, _, _, _ => none
  | m + 1, st0, ft1_0, t7, t8 => slices_IndexFunc_Change__patch_Less_1_1_s2 C_patch_Less_1_1   (fun (st0 : den (LChange)) (ft1_0 : den (TChange)) (t7 : den (.int .i64)) (t8 : den (.int .i64)) => slices_IndexFunc_Change__patch_Less_1_1_l2 C_patch_Less_1_1 n  m st0 ft1_0 t7 t8) st0 ft1_0 t7 t8
noncomputable def slices_IndexFunc_Change__patch_Less_1_1_g2 (C_patch_Less_1_1 : den (TChange) → den (TChange) → Option (denR (.one (.bool))))   : List (den (TChange)) → den (TChange) → den (.int .i64) → Option (denR (.one (.int .i64)))
  | [], ft1_0, t8 => some (-1 : Int)
  | x :: r, ft1_0, t8 => ((C_patch_Less_1_1 x ft1_0).bind fun r2 => (bif r2 then some t8 else slices_IndexFunc_Change__patch_Less_1_1_g2 C_patch_Less_1_1   r ft1_0 (t8 + (1 : Int))))
theorem slices_IndexFunc_Change__patch_Less_1_1_l2_list (C_patch_Less_1_1 : den (TChange) → den (TChange) → Option (denR (.one (.bool)))) (n : Nat)  : ∀ (m i : Nat) (st0 : den (LChange)) (ft1_0 : den (TChange)), st0.length - i < m → i ≤ st0.length → st0.length < 4611686018427387904 → slices_IndexFunc_Change__patch_Less_1_1_l2 C_patch_Less_1_1 n  m st0 ft1_0 (st0.length : Int) (i : Int) = slices_IndexFunc_Change__patch_Less_1_1_g2 C_patch_Less_1_1   (st0.drop i) ft1_0 (i : Int) := by
  intro m
  induction m with
  | zero => intro i st0 ft1_0 h1; omega
  | succ m ih =>
    intro i st0 ft1_0 h1 h2 h3
    show slices_IndexFunc_Change__patch_Less_1_1_s2 C_patch_Less_1_1   (fun (st0 : den (LChange)) (ft1_0 : den (TChange)) (t7 : den (.int .i64)) (t8 : den (.int .i64)) => slices_IndexFunc_Change__patch_Less_1_1_l2 C_patch_Less_1_1 n  m st0 ft1_0 t7 t8) st0 ft1_0 (st0.length : Int) (i : Int) = _
    unfold slices_IndexFunc_Change__patch_Less_1_1_s2
    have b0 : decide ((0 : Int) ≤ (i : Int)) = true := decide_eq_true (by omega)
    rcases Nat.lt_or_ge i st0.length with hi | hi
    · have b1 : decide ((i : Int) < (st0.length : Int)) = true := decide_eq_true (by omega)
      have bw : IntKind.i64.wrap ((i : Int) + (1 : Int)) = ((i + 1 : Nat) : Int) := w64s (by omega)
      have ih' : ∀ (ft1_0 : den (TChange)), slices_IndexFunc_Change__patch_Less_1_1_l2 C_patch_Less_1_1 n  m st0 ft1_0 (st0.length : Int) ((i + 1 : Nat) : Int) = slices_IndexFunc_Change__patch_Less_1_1_g2 C_patch_Less_1_1   (st0.drop (i + 1)) ft1_0 ((i + 1 : Nat) : Int) := fun ft1_0 => ih (i + 1) st0 ft1_0 (by omega) (by omega) h3
      simp only [b0, b1, bw, Bool.and_true, Bool.true_and, cond_true, Int.toNat_natCast, ih']
      rw [drop_getD hi (dflt (TChange))]
      rfl
    · have b1 : decide ((i : Int) < (st0.length : Int)) = false := decide_eq_false (by omega)
      simp only [b1, cond_false]
      rw [List.drop_eq_nil_of_le hi]
      rfl
noncomputable def slices_IndexFunc_Change__patch_Less_1_1_F2 (call : Call0) (n : Nat)  : (St → Option (denR (.one (.int .i64)))) → St → Option (denR (.one (.int .i64))) := fun rec => exec cfg call n 41 (cat B41 [1, 0, 1, 0, 0]) (kLoop rec (lk2 41 2 cfg.keep) (kBlock 0 (kSq (exec cfg call n 41 (cat B41 [1, 1])) (kret cfg Go.Proofs.Try.f41 (.one (.int .i64))))))
theorem slices_IndexFunc_Change__patch_Less_1_1_l2_eq (call : Call0) (n : Nat)  : ∀ (m : Nat) (st0 : den (LChange)) (ft1_0 : den (TChange)) (t7 : den (.int .i64)) (t8 : den (.int .i64)), loopN (slices_IndexFunc_Change__patch_Less_1_1_F2 call n ) m (slices_IndexFunc_Change__patch_Less_1_1_sh2 st0 ft1_0 t7 t8) = slices_IndexFunc_Change__patch_Less_1_1_l2 (fun (a0 : den (TChange)) (a1 : den (TChange)) => call.p 34 [.s (.val (TChange) a0), .s (.eptr (TChange) a1)] (.one (.bool))) n  m st0 ft1_0 t7 t8 := by
  intro m
  induction m with
  | zero => intros; rfl
  | succ m ih =>
    intro st0 ft1_0 t7 t8
    have h : loopN (slices_IndexFunc_Change__patch_Less_1_1_F2 call n ) (m + 1) (slices_IndexFunc_Change__patch_Less_1_1_sh2 st0 ft1_0 t7 t8) = slices_IndexFunc_Change__patch_Less_1_1_s2 (fun (a0 : den (TChange)) (a1 : den (TChange)) => call.p 34 [.s (.val (TChange) a0), .s (.eptr (TChange) a1)] (.one (.bool)))   (fun (st0 : den (LChange)) (ft1_0 : den (TChange)) (t7 : den (.int .i64)) (t8 : den (.int .i64)) => loopN (slices_IndexFunc_Change__patch_Less_1_1_F2 call n ) m (slices_IndexFunc_Change__patch_Less_1_1_sh2 st0 ft1_0 t7 t8)) st0 ft1_0 t7 t8 := by kernel_rfl
    have e0 : (fun (st0 : den (LChange)) (ft1_0 : den (TChange)) (t7 : den (.int .i64)) (t8 : den (.int .i64)) => loopN (slices_IndexFunc_Change__patch_Less_1_1_F2 call n ) m (slices_IndexFunc_Change__patch_Less_1_1_sh2 st0 ft1_0 t7 t8)) = (fun (st0 : den (LChange)) (ft1_0 : den (TChange)) (t7 : den (.int .i64)) (t8 : den (.int .i64)) => slices_IndexFunc_Change__patch_Less_1_1_l2 (fun (a0 : den (TChange)) (a1 : den (TChange)) => call.p 34 [.s (.val (TChange) a0), .s (.eptr (TChange) a1)] (.one (.bool))) n  m st0 ft1_0 t7 t8) := by funext st0 ft1_0 t7 t8; exact ih st0 ft1_0 t7 t8
    rw [h, e0]; rfl
noncomputable def slices_IndexFunc_Change__patch_Less_1_1_top (C_patch_Less_1_1 : den (TChange) → den (TChange) → Option (denR (.one (.bool)))) (LL2 : den (LChange) → den (TChange) → den (.int .i64) → den (.int .i64) → Option (denR (.one (.int .i64)))) (a0 : den (LChange)) (a1_0 : den (TChange)) : Option (denR (.one (.int .i64))) := LL2 a0 a1_0 (a0.length : Int) (0 : Int)
noncomputable def slices_IndexFunc_Change__patch_Less_1_1 : Nat → den (LChange) → den (TChange) → Option (denR (.one (.int .i64)))
  | 0, _, _ => none
  | n + 1, a0, a1_0 => slices_IndexFunc_Change__patch_Less_1_1_top (patch_Less_1_1 n) (slices_IndexFunc_Change__patch_Less_1_1_l2 (patch_Less_1_1 n) n n) a0 a1_0
theorem slices_IndexFunc_Change__patch_Less_1_1_eq (n : Nat) (a0 : den (LChange)) (a1_0 : den (TChange)) : (acalls cfg intr intrI n).p 41 [.s (.val (LChange) a0), .fn 34 [.eptr (TChange) a1_0]] (.one (.int .i64)) = slices_IndexFunc_Change__patch_Less_1_1 n a0 a1_0 := by
  cases n with
  | zero => rfl
  | succ n =>
    have h : (acalls cfg intr intrI (n + 1)).p 41 [.s (.val (LChange) a0), .fn 34 [.eptr (TChange) a1_0]] (.one (.int .i64)) = slices_IndexFunc_Change__patch_Less_1_1_top (fun (a0 : den (TChange)) (a1 : den (TChange)) => (acalls cfg intr intrI n).p 34 [.s (.val (TChange) a0), .s (.eptr (TChange) a1)] (.one (.bool))) (fun (st0 : den (LChange)) (ft1_0 : den (TChange)) (t7 : den (.int .i64)) (t8 : den (.int .i64)) => loopN (slices_IndexFunc_Change__patch_Less_1_1_F2 (acalls cfg intr intrI n) n) n (slices_IndexFunc_Change__patch_Less_1_1_sh2 st0 ft1_0 t7 t8)) a0 a1_0 := by kernel_rfl
    have e2 : (fun (st0 : den (LChange)) (ft1_0 : den (TChange)) (t7 : den (.int .i64)) (t8 : den (.int .i64)) => loopN (slices_IndexFunc_Change__patch_Less_1_1_F2 (acalls cfg intr intrI n) n) n (slices_IndexFunc_Change__patch_Less_1_1_sh2 st0 ft1_0 t7 t8)) = slices_IndexFunc_Change__patch_Less_1_1_l2 (fun (a0 : den (TChange)) (a1 : den (TChange)) => (acalls cfg intr intrI n).p 34 [.s (.val (TChange) a0), .s (.eptr (TChange) a1)] (.one (.bool))) n n := by funext st0 ft1_0 t7 t8; exact slices_IndexFunc_Change__patch_Less_1_1_l2_eq (acalls cfg intr intrI n) n n st0 ft1_0 t7 t8
    have c_patch_Less_1_1 : (fun (a0 : den (TChange)) (a1 : den (TChange)) => (acalls cfg intr intrI n).p 34 [.s (.val (TChange) a0), .s (.eptr (TChange) a1)] (.one (.bool))) = patch_Less_1_1 n := by funext a0 a1; exact patch_Less_1_1_eq n a0 a1
    rw [h, e2, c_patch_Less_1_1]; rfl

noncomputable def slices_ContainsFunc_Change__patch_Less_1_1_top (C_slices_IndexFunc_Change__patch_Less_1_1 : den (LChange) → den (TChange) → Option (denR (.one (.int .i64))))  (a0 : den (LChange)) (a1_0 : den (TChange)) : Option (denR (.one (.bool))) := ((C_slices_IndexFunc_Change__patch_Less_1_1 a0 a1_0).bind fun r1 => some (decide ((0 : Int) ≤ r1)))
noncomputable def slices_ContainsFunc_Change__patch_Less_1_1 : Nat → den (LChange) → den (TChange) → Option (denR (.one (.bool)))
  | 0, _, _ => none
  | n + 1, a0, a1_0 => slices_ContainsFunc_Change__patch_Less_1_1_top (slices_IndexFunc_Change__patch_Less_1_1 n)  a0 a1_0
theorem slices_ContainsFunc_Change__patch_Less_1_1_eq (n : Nat) (a0 : den (LChange)) (a1_0 : den (TChange)) : (acalls cfg intr intrI n).p 33 [.s (.val (LChange) a0), .fn 34 [.eptr (TChange) a1_0]] (.one (.bool)) = slices_ContainsFunc_Change__patch_Less_1_1 n a0 a1_0 := by
  cases n with
  | zero => rfl
  | succ n =>
    have h : (acalls cfg intr intrI (n + 1)).p 33 [.s (.val (LChange) a0), .fn 34 [.eptr (TChange) a1_0]] (.one (.bool)) = slices_ContainsFunc_Change__patch_Less_1_1_top (fun (a0 : den (LChange)) (a1_0 : den (TChange)) => (acalls cfg intr intrI n).p 41 [.s (.val (LChange) a0), .fn 34 [.eptr (TChange) a1_0]] (.one (.int .i64)))  a0 a1_0 := by kernel_rfl
    have c_slices_IndexFunc_Change__patch_Less_1_1 : (fun (a0 : den (LChange)) (a1_0 : den (TChange)) => (acalls cfg intr intrI n).p 41 [.s (.val (LChange) a0), .fn 34 [.eptr (TChange) a1_0]] (.one (.int .i64))) = slices_IndexFunc_Change__patch_Less_1_1 n := by funext a0 a1_0; exact slices_IndexFunc_Change__patch_Less_1_1_eq n a0 a1_0
    rw [h, c_slices_IndexFunc_Change__patch_Less_1_1]; rfl

noncomputable def patch_Less_1_top (C_slices_ContainsFunc_Change__patch_Less_1_1 : den (LChange) → den (TChange) → Option (denR (.one (.bool))))  (a0 : den (TChange)) (a1 : den (LChange)) : Option (denR (.one (.bool))) := ((C_slices_ContainsFunc_Change__patch_Less_1_1 a1 a0).bind fun r1 => some r1)
noncomputable def patch_Less_1 : Nat → den (TChange) → den (LChange) → Option (denR (.one (.bool)))
  | 0, _, _ => none
  | n + 1, a0, a1 => patch_Less_1_top (slices_ContainsFunc_Change__patch_Less_1_1 n)  a0 a1
theorem patch_Less_1_eq (n : Nat) (a0 : den (TChange)) (a1 : den (LChange)) : (acalls cfg intr intrI n).p 32 [.s (.val (TChange) a0), .s (.eptr (LChange) a1)] (.one (.bool)) = patch_Less_1 n a0 a1 := by
  cases n with
  | zero => rfl
  | succ n =>
    have h : (acalls cfg intr intrI (n + 1)).p 32 [.s (.val (TChange) a0), .s (.eptr (LChange) a1)] (.one (.bool)) = patch_Less_1_top (fun (a0 : den (LChange)) (a1_0 : den (TChange)) => (acalls cfg intr intrI n).p 33 [.s (.val (LChange) a0), .fn 34 [.eptr (TChange) a1_0]] (.one (.bool)))  a0 a1 := by kernel_rfl
    have c_slices_ContainsFunc_Change__patch_Less_1_1 : (fun (a0 : den (LChange)) (a1_0 : den (TChange)) => (acalls cfg intr intrI n).p 33 [.s (.val (LChange) a0), .fn 34 [.eptr (TChange) a1_0]] (.one (.bool))) = slices_ContainsFunc_Change__patch_Less_1_1 n := by funext a0 a1_0; exact slices_ContainsFunc_Change__patch_Less_1_1_eq n a0 a1_0
    rw [h, c_slices_ContainsFunc_Change__patch_Less_1_1]; rfl

noncomputable def slices_IndexFunc_Change__patch_Less_1_sh2 (st0 : den (LChange)) (ft1_0 : den (LChange)) (t7 : den (.int .i64)) (t8 : den (.int .i64)) : St := ⟨[.s (.val (LChange) st0), .fn 32 [.eptr (LChange) ft1_0], U, U, U, U, U, .s (.val (.int .i64) t7), .s (.val (.int .i64) t8), U, U, U, U, U, U, U, U, U, U], []⟩
noncomputable def slices_IndexFunc_Change__patch_Less_1_s2 (C_patch_Less_1 : den (TChange) → den (LChange) → Option (denR (.one (.bool))))   (LS2 : den (LChange) → den (LChange) → den (.int .i64) → den (.int .i64) → Option (denR (.one (.int .i64)))) (st0 : den (LChange)) (ft1_0 : den (LChange)) (t7 : den (.int .i64)) (t8 : den (.int .i64)) : Option (denR (.one (.int .i64))) := (bif (decide (t8 < t7)) then (bif decide (0 ≤ t8) && decide (t8 < (st0.length : Int)) then ((C_patch_Less_1 (st0.getD (Int.toNat t8) (dflt (TChange))) ft1_0).bind fun r1 => (bif r1 then some t8 else LS2 st0 ft1_0 t7 (IntKind.wrap .i64 (t8 + (1 : Int))))) else none) else some (-1 : Int))
noncomputable def slices_IndexFunc_Change__patch_Less_1_l2 (C_patch_Less_1 : den (TChange) → den (LChange) → Option (denR (.one (.bool)))) (n : Nat)  : Nat → den (LChange) → den (LChange) → den (.int .i64) → den (.int .i64) → Option (denR (.one (.int .i64)))
  | 0, _, _, _, _ => none
  | m + 1, st0, ft1_0, t7, t8 => slices_IndexFunc_Change__patch_Less_1_s2 C_patch_Less_1   (fun (st0 : den (LChange)) (ft1_0 : den (LChange)) (t7 : den (.int .i64)) (t8 : den (.int .i64)) => slices_IndexFunc_Change__patch_Less_1_l2 C_patch_Less_1 n  m st0 ft1_0 t7 t8) st0 ft1_0 t7 t8
noncomputable def slices_IndexFunc_Change__patch_Less_1_g2 (C_patch_Less_1 : den (TChange) → den (LChange) → Option (denR (.one (.bool))))   : List (den (TChange)) → den (LChange) → den (.int .i64) → Option (denR (.one (.int .i64)))
  | [], ft1_0, t8 => some (-1 : Int)
  | x :: r, ft1_0, t8 => ((C_patch_Less_1 x ft1_0).bind fun r2 => (bif r2 then some t8 else slices_IndexFunc_Change__patch_Less_1_g2 C_patch_Less_1   r ft1_0 (t8 + (1 : Int))))
theorem slices_IndexFunc_Change__patch_Less_1_l2_list (C_patch_Less_1 : den (TChange) → den (LChange) → Option (denR (.one (.bool)))) (n : Nat)  : ∀ (m i : Nat) (st0 : den (LChange)) (ft1_0 : den (LChange)), st0.length - i < m → i ≤ st0.length → st0.length < 4611686018427387904 → slices_IndexFunc_Change__patch_Less_1_l2 C_patch_Less_1 n  m st0 ft1_0 (st0.length : Int) (i : Int) = slices_IndexFunc_Change__patch_Less_1_g2 C_patch_Less_1   (st0.drop i) ft1_0 (i : Int) := by
  intro m
  induction m with
  | zero => intro i st0 ft1_0 h1; omega
  | succ m ih =>
    intro i st0 ft1_0 h1 h2 h3
    show slices_IndexFunc_Change__patch_Less_1_s2 C_patch_Less_1   (fun (st0 : den (LChange)) (ft1_0 : den (LChange)) (t7 : den (.int .i64)) (t8 : den (.int .i64)) => slices_IndexFunc_Change__patch_Less_1_l2 C_patch_Less_1 n  m st0 ft1_0 t7 t8) st0 ft1_0 (st0.length : Int) (i : Int) = _
    unfold slices_IndexFunc_Change__patch_Less_1_s2
    have b0 : decide ((0 : Int) ≤ (i : Int)) = true := decide_eq_true (by omega)
    rcases Nat.lt_or_ge i st0.length with hi | hi
    · have b1 : decide ((i : Int) < (st0.length : Int)) = true := decide_eq_true (by omega)
      have bw : IntKind.i64.wrap ((i : Int) + (1 : Int)) = ((i + 1 : Nat) : Int) := w64s (by omega)
      have ih' : ∀ (ft1_0 : den (LChange)), slices_IndexFunc_Change__patch_Less_1_l2 C_patch_Less_1 n  m st0 ft1_0 (st0.length : Int) ((i + 1 : Nat) : Int) = slices_IndexFunc_Change__patch_Less_1_g2 C_patch_Less_1   (st0.drop (i + 1)) ft1_0 ((i + 1 : Nat) : Int) := fun ft1_0 => ih (i + 1) st0 ft1_0 (by omega) (by omega) h3
      simp only [b0, b1, bw, Bool.and_true, Bool.true_and, cond_true, Int.toNat_natCast, ih']
      rw [drop_getD hi (dflt (TChange))]
      rfl
    · have b1 : decide ((i : Int) < (st0.length : Int)) = false := decide_eq_false (by omega)
      simp only [b1, cond_false]
      rw [List.drop_eq_nil_of_le hi]
      rfl
noncomputable def slices_IndexFunc_Change__patch_Less_1_F2 (call : Call0) (n : Nat)  : (St → Option (denR (.one (.int .i64)))) → St → Option (denR (.one (.int .i64))) := fun rec => exec cfg call n 41 (cat B41 [1, 0, 1, 0, 0]) (kLoop rec (lk2 41 2 cfg.keep) (kBlock 0 (kSq (exec cfg call n 41 (cat B41 [1, 1])) (kret cfg Go.Proofs.Try.f41 (.one (.int .i64))))))
theorem slices_IndexFunc_Change__patch_Less_1_l2_eq (call : Call0) (n : Nat)  : ∀ (m : Nat) (st0 : den (LChange)) (ft1_0 : den (LChange)) (t7 : den (.int .i64)) (t8 : den (.int .i64)), loopN (slices_IndexFunc_Change__patch_Less_1_F2 call n ) m (slices_IndexFunc_Change__patch_Less_1_sh2 st0 ft1_0 t7 t8) = slices_IndexFunc_Change__patch_Less_1_l2 (fun (a0 : den (TChange)) (a1 : den (LChange)) => call.p 32 [.s (.val (TChange) a0), .s (.eptr (LChange) a1)] (.one (.bool))) n  m st0 ft1_0 t7 t8 := by
  intro m
  induction m with
  | zero => intros; rfl
  | succ m ih =>
    intro st0 ft1_0 t7 t8
    have h : loopN (slices_IndexFunc_Change__patch_Less_1_F2 call n ) (m + 1) (slices_IndexFunc_Change__patch_Less_1_sh2 st0 ft1_0 t7 t8) = slices_IndexFunc_Change__patch_Less_1_s2 (fun (a0 : den (TChange)) (a1 : den (LChange)) => call.p 32 [.s (.val (TChange) a0), .s (.eptr (LChange) a1)] (.one (.bool)))   (fun (st0 : den (LChange)) (ft1_0 : den (LChange)) (t7 : den (.int .i64)) (t8 : den (.int .i64)) => loopN (slices_IndexFunc_Change__patch_Less_1_F2 call n ) m (slices_IndexFunc_Change__patch_Less_1_sh2 st0 ft1_0 t7 t8)) st0 ft1_0 t7 t8 := by kernel_rfl
    have e0 : (fun (st0 : den (LChange)) (ft1_0 : den (LChange)) (t7 : den (.int .i64)) (t8 : den (.int .i64)) => loopN (slices_IndexFunc_Change__patch_Less_1_F2 call n ) m (slices_IndexFunc_Change__patch_Less_1_sh2 st0 ft1_0 t7 t8)) = (fun (st0 : den (LChange)) (ft1_0 : den (LChange)) (t7 : den (.int .i64)) (t8 : den (.int .i64)) => slices_IndexFunc_Change__patch_Less_1_l2 (fun (a0 : den (TChange)) (a1 : den (LChange)) => call.p 32 [.s (.val (TChange) a0), .s (.eptr (LChange) a1)] (.one (.bool))) n  m st0 ft1_0 t7 t8) := by funext st0 ft1_0 t7 t8; exact ih st0 ft1_0 t7 t8
    rw [h, e0]; rfl
noncomputable def slices_IndexFunc_Change__patch_Less_1_top (C_patch_Less_1 : den (TChange) → den (LChange) → Option (denR (.one (.bool)))) (LL2 : den (LChange) → den (LChange) → den (.int .i64) → den (.int .i64) → Option (denR (.one (.int .i64)))) (a0 : den (LChange)) (a1_0 : den (LChange)) : Option (denR (.one (.int .i64))) := LL2 a0 a1_0 (a0.length : Int) (0 : Int)
noncomputable def slices_IndexFunc_Change__patch_Less_1 : Nat → den (LChange) → den (LChange) → Option (denR (.one (.int .i64)))
  | 0, _, _ => none
  | n + 1, a0, a1_0 => slices_IndexFunc_Change__patch_Less_1_top (patch_Less_1 n) (slices_IndexFunc_Change__patch_Less_1_l2 (patch_Less_1 n) n n) a0 a1_0
theorem slices_IndexFunc_Change__patch_Less_1_eq (n : Nat) (a0 : den (LChange)) (a1_0 : den (LChange)) : (acalls cfg intr intrI n).p 41 [.s (.val (LChange) a0), .fn 32 [.eptr (LChange) a1_0]] (.one (.int .i64)) = slices_IndexFunc_Change__patch_Less_1 n a0 a1_0 := by
  cases n with
  | zero => rfl
  | succ n =>
    have h : (acalls cfg intr intrI (n + 1)).p 41 [.s (.val (LChange) a0), .fn 32 [.eptr (LChange) a1_0]] (.one (.int .i64)) = slices_IndexFunc_Change__patch_Less_1_top (fun (a0 : den (TChange)) (a1 : den (LChange)) => (acalls cfg intr intrI n).p 32 [.s (.val (TChange) a0), .s (.eptr (LChange) a1)] (.one (.bool))) (fun (st0 : den (LChange)) (ft1_0 : den (LChange)) (t7 : den (.int .i64)) (t8 : den (.int .i64)) => loopN (slices_IndexFunc_Change__patch_Less_1_F2 (acalls cfg intr intrI n) n) n (slices_IndexFunc_Change__patch_Less_1_sh2 st0 ft1_0 t7 t8)) a0 a1_0 := by kernel_rfl
    have e2 : (fun (st0 : den (LChange)) (ft1_0 : den (LChange)) (t7 : den (.int .i64)) (t8 : den (.int .i64)) => loopN (slices_IndexFunc_Change__patch_Less_1_F2 (acalls cfg intr intrI n) n) n (slices_IndexFunc_Change__patch_Less_1_sh2 st0 ft1_0 t7 t8)) = slices_IndexFunc_Change__patch_Less_1_l2 (fun (a0 : den (TChange)) (a1 : den (LChange)) => (acalls cfg intr intrI n).p 32 [.s (.val (TChange) a0), .s (.eptr (LChange) a1)] (.one (.bool))) n n := by funext st0 ft1_0 t7 t8; exact slices_IndexFunc_Change__patch_Less_1_l2_eq (acalls cfg intr intrI n) n n st0 ft1_0 t7 t8
    have c_patch_Less_1 : (fun (a0 : den (TChange)) (a1 : den (LChange)) => (acalls cfg intr intrI n).p 32 [.s (.val (TChange) a0), .s (.eptr (LChange) a1)] (.one (.bool))) = patch_Less_1 n := by funext a0 a1; exact patch_Less_1_eq n a0 a1
    rw [h, e2, c_patch_Less_1]; rfl

noncomputable def B30 : Code := (Go.Proofs.Try.f30.body).getD .skip
noncomputable def slices_DeleteFunc_Change__patch_Less_1_sh5 (delt1_0 : den (LChange)) (it5 : den (.int .i64)) (jt6 : den (.int .i64)) (o42 : den (LChange)) : St := ⟨[.s (.arr 42), .fn 32 [.eptr (LChange) delt1_0], U, U, U, .s (.val (.int .i64) it5), .s (.val (.int .i64) jt6), U, U, U, U, U, U, U, U, U, U, U, U, U, U, U, U, U, U, U, U, U, U, U, U, U, U, U, U, U, U, U, U, U, U, U], [(42, .arr 40 (TChange) o42)]⟩
noncomputable def slices_DeleteFunc_Change__patch_Less_1_s5 (C_slices_IndexFunc_Change__patch_Less_1 : den (LChange) → den (LChange) → Option (denR (.one (.int .i64)))) (C_patch_Less_1 : den (TChange) → den (LChange) → Option (denR (.one (.bool))))   (LS5 : den (LChange) → den (.int .i64) → den (.int .i64) → den (LChange) → Option (denS (⟨.row 40 (TChange), [.dead]⟩ : Sig))) (delt1_0 : den (LChange)) (it5 : den (.int .i64)) (jt6 : den (.int .i64)) (o42 : den (LChange)) : Option (denS (⟨.row 40 (TChange), [.dead]⟩ : Sig)) := (bif (decide (jt6 < (o42.length : Int))) then (bif decide (0 ≤ jt6) && decide (jt6 < (o42.length : Int)) then ((C_patch_Less_1 (o42.getD (Int.toNat jt6) (dflt (TChange))) delt1_0).bind fun r2 => (bif (!r2) then (bif decide (0 ≤ it5) && decide (it5 < (o42.length : Int)) then LS5 delt1_0 (IntKind.wrap .i64 (it5 + (1 : Int))) (IntKind.wrap .i64 (jt6 + (1 : Int))) (o42.set (Int.toNat it5) (o42.getD (Int.toNat jt6) (dflt (TChange)))) else none) else LS5 delt1_0 it5 (IntKind.wrap .i64 (jt6 + (1 : Int))) o42)) else none) else (bif decide (0 ≤ it5) && decide (it5 ≤ (o42.length : Int)) then (bif decide (0 ≤ it5) && decide (it5 ≤ ((o42.take (Int.toNat it5) ++ List.replicate (o42.length - (Int.toNat it5)) (dflt (TChange))).length : Int)) then some (((o42.take (Int.toNat it5) ++ List.replicate (o42.length - (Int.toNat it5)) (dflt (TChange))).take (Int.toNat it5)), ((), ())) else none) else none))
noncomputable def slices_DeleteFunc_Change__patch_Less_1_l5 (C_slices_IndexFunc_Change__patch_Less_1 : den (LChange) → den (LChange) → Option (denR (.one (.int .i64)))) (C_patch_Less_1 : den (TChange) → den (LChange) → Option (denR (.one (.bool)))) (n : Nat)  : Nat → den (LChange) → den (.int .i64) → den (.int .i64) → den (LChange) → Option (denS (⟨.row 40 (TChange), [.dead]⟩ : Sig))
  | 0, _, _, _, _ => none
  | m + 1, delt1_0, it5, jt6, o42 => slices_DeleteFunc_Change__patch_Less_1_s5 C_slices_IndexFunc_Change__patch_Less_1 C_patch_Less_1   (fun (delt1_0 : den (LChange)) (it5 : den (.int .i64)) (jt6 : den (.int .i64)) (o42 : den (LChange)) => slices_DeleteFunc_Change__patch_Less_1_l5 C_slices_IndexFunc_Change__patch_Less_1 C_patch_Less_1 n  m delt1_0 it5 jt6 o42) delt1_0 it5 jt6 o42
noncomputable def slices_DeleteFunc_Change__patch_Less_1_F5 (call : Call0) (n : Nat)  : (St → Option (denS (⟨.row 40 (TChange), [.dead]⟩ : Sig))) → St → Option (denS (⟨.row 40 (TChange), [.dead]⟩ : Sig)) := fun rec => exec cfg call n 30 (cat B30 [1, 1, 1, 0, 1, 0, 0]) (kLoop rec (lk2 30 5 cfg.keep) (kBlock 0 (kSq (exec cfg call n 30 (cat B30 [1, 1, 1, 1])) (kretS cfg Go.Proofs.Try.f30 (⟨.row 40 (TChange), [.dead]⟩ : Sig)))))
theorem slices_DeleteFunc_Change__patch_Less_1_l5_eq (call : Call0) (n : Nat)  : ∀ (m : Nat) (delt1_0 : den (LChange)) (it5 : den (.int .i64)) (jt6 : den (.int .i64)) (o42 : den (LChange)), loopN (slices_DeleteFunc_Change__patch_Less_1_F5 call n ) m (slices_DeleteFunc_Change__patch_Less_1_sh5 delt1_0 it5 jt6 o42) = slices_DeleteFunc_Change__patch_Less_1_l5 (fun (a0 : den (LChange)) (a1_0 : den (LChange)) => call.p 41 [.s (.val (LChange) a0), .fn 32 [.eptr (LChange) a1_0]] (.one (.int .i64))) (fun (a0 : den (TChange)) (a1 : den (LChange)) => call.p 32 [.s (.val (TChange) a0), .s (.eptr (LChange) a1)] (.one (.bool))) n  m delt1_0 it5 jt6 o42 := by
  intro m
  induction m with
  | zero => intros; rfl
  | succ m ih =>
    intro delt1_0 it5 jt6 o42
    have h : loopN (slices_DeleteFunc_Change__patch_Less_1_F5 call n ) (m + 1) (slices_DeleteFunc_Change__patch_Less_1_sh5 delt1_0 it5 jt6 o42) = slices_DeleteFunc_Change__patch_Less_1_s5 (fun (a0 : den (LChange)) (a1_0 : den (LChange)) => call.p 41 [.s (.val (LChange) a0), .fn 32 [.eptr (LChange) a1_0]] (.one (.int .i64))) (fun (a0 : den (TChange)) (a1 : den (LChange)) => call.p 32 [.s (.val (TChange) a0), .s (.eptr (LChange) a1)] (.one (.bool)))   (fun (delt1_0 : den (LChange)) (it5 : den (.int .i64)) (jt6 : den (.int .i64)) (o42 : den (LChange)) => loopN (slices_DeleteFunc_Change__patch_Less_1_F5 call n ) m (slices_DeleteFunc_Change__patch_Less_1_sh5 delt1_0 it5 jt6 o42)) delt1_0 it5 jt6 o42 := by kernel_rfl
    have e0 : (fun (delt1_0 : den (LChange)) (it5 : den (.int .i64)) (jt6 : den (.int .i64)) (o42 : den (LChange)) => loopN (slices_DeleteFunc_Change__patch_Less_1_F5 call n ) m (slices_DeleteFunc_Change__patch_Less_1_sh5 delt1_0 it5 jt6 o42)) = (fun (delt1_0 : den (LChange)) (it5 : den (.int .i64)) (jt6 : den (.int .i64)) (o42 : den (LChange)) => slices_DeleteFunc_Change__patch_Less_1_l5 (fun (a0 : den (LChange)) (a1_0 : den (LChange)) => call.p 41 [.s (.val (LChange) a0), .fn 32 [.eptr (LChange) a1_0]] (.one (.int .i64))) (fun (a0 : den (TChange)) (a1 : den (LChange)) => call.p 32 [.s (.val (TChange) a0), .s (.eptr (LChange) a1)] (.one (.bool))) n  m delt1_0 it5 jt6 o42) := by funext delt1_0 it5 jt6 o42; exact ih delt1_0 it5 jt6 o42
    rw [h, e0]; rfl
noncomputable def slices_DeleteFunc_Change__patch_Less_1_top (C_slices_IndexFunc_Change__patch_Less_1 : den (LChange) → den (LChange) → Option (denR (.one (.int .i64)))) (C_patch_Less_1 : den (TChange) → den (LChange) → Option (denR (.one (.bool)))) (LL5 : den (LChange) → den (.int .i64) → den (.int .i64) → den (LChange) → Option (denS (⟨.row 40 (TChange), [.dead]⟩ : Sig))) (a1_0 : den (LChange)) (o0 : den (LChange)) : Option (denS (⟨.row 40 (TChange), [.dead]⟩ : Sig)) := ((C_slices_IndexFunc_Change__patch_Less_1 o0 a1_0).bind fun r1 => (bif (decide (r1 = (-1 : Int))) then some (o0, ((), ())) else LL5 a1_0 r1 (IntKind.wrap .i64 (r1 + (1 : Int))) o0))
noncomputable def slices_DeleteFunc_Change__patch_Less_1 : Nat → den (LChange) → den (LChange) → Option (denS (⟨.row 40 (TChange), [.dead]⟩ : Sig))
  | 0, _, _ => none
  | n + 1, a1_0, o0 => slices_DeleteFunc_Change__patch_Less_1_top (slices_IndexFunc_Change__patch_Less_1 n) (patch_Less_1 n) (slices_DeleteFunc_Change__patch_Less_1_l5 (slices_IndexFunc_Change__patch_Less_1 n) (patch_Less_1 n) n n) a1_0 o0
theorem slices_DeleteFunc_Change__patch_Less_1_eq (n : Nat) (a1_0 : den (LChange)) (o0 : den (LChange)) : (acalls cfg intr intrI n).i 30 [.s (.arr 42), .fn 32 [.eptr (LChange) a1_0]] [(42, .arr 40 (TChange) o0)] (⟨.row 40 (TChange), [.dead]⟩ : Sig) = slices_DeleteFunc_Change__patch_Less_1 n a1_0 o0 := by
  cases n with
  | zero => rfl
  | succ n =>
    have h : (acalls cfg intr intrI (n + 1)).i 30 [.s (.arr 42), .fn 32 [.eptr (LChange) a1_0]] [(42, .arr 40 (TChange) o0)] (⟨.row 40 (TChange), [.dead]⟩ : Sig) = slices_DeleteFunc_Change__patch_Less_1_top (fun (a0 : den (LChange)) (a1_0 : den (LChange)) => (acalls cfg intr intrI n).p 41 [.s (.val (LChange) a0), .fn 32 [.eptr (LChange) a1_0]] (.one (.int .i64))) (fun (a0 : den (TChange)) (a1 : den (LChange)) => (acalls cfg intr intrI n).p 32 [.s (.val (TChange) a0), .s (.eptr (LChange) a1)] (.one (.bool))) (fun (delt1_0 : den (LChange)) (it5 : den (.int .i64)) (jt6 : den (.int .i64)) (o42 : den (LChange)) => loopN (slices_DeleteFunc_Change__patch_Less_1_F5 (acalls cfg intr intrI n) n) n (slices_DeleteFunc_Change__patch_Less_1_sh5 delt1_0 it5 jt6 o42)) a1_0 o0 := by kernel_rfl
    have e5 : (fun (delt1_0 : den (LChange)) (it5 : den (.int .i64)) (jt6 : den (.int .i64)) (o42 : den (LChange)) => loopN (slices_DeleteFunc_Change__patch_Less_1_F5 (acalls cfg intr intrI n) n) n (slices_DeleteFunc_Change__patch_Less_1_sh5 delt1_0 it5 jt6 o42)) = slices_DeleteFunc_Change__patch_Less_1_l5 (fun (a0 : den (LChange)) (a1_0 : den (LChange)) => (acalls cfg intr intrI n).p 41 [.s (.val (LChange) a0), .fn 32 [.eptr (LChange) a1_0]] (.one (.int .i64))) (fun (a0 : den (TChange)) (a1 : den (LChange)) => (acalls cfg intr intrI n).p 32 [.s (.val (TChange) a0), .s (.eptr (LChange) a1)] (.one (.bool))) n n := by funext delt1_0 it5 jt6 o42; exact slices_DeleteFunc_Change__patch_Less_1_l5_eq (acalls cfg intr intrI n) n n delt1_0 it5 jt6 o42
    have c_slices_IndexFunc_Change__patch_Less_1 : (fun (a0 : den (LChange)) (a1_0 : den (LChange)) => (acalls cfg intr intrI n).p 41 [.s (.val (LChange) a0), .fn 32 [.eptr (LChange) a1_0]] (.one (.int .i64))) = slices_IndexFunc_Change__patch_Less_1 n := by funext a0 a1_0; exact slices_IndexFunc_Change__patch_Less_1_eq n a0 a1_0
    have c_patch_Less_1 : (fun (a0 : den (TChange)) (a1 : den (LChange)) => (acalls cfg intr intrI n).p 32 [.s (.val (TChange) a0), .s (.eptr (LChange) a1)] (.one (.bool))) = patch_Less_1 n := by funext a0 a1; exact patch_Less_1_eq n a0 a1
    rw [h, e5, c_slices_IndexFunc_Change__patch_Less_1, c_patch_Less_1]; rfl

noncomputable def patch_Less_top (C_slices_Clone_Change : den (LChange) → Option (denS (⟨.row 40 (TChange), []⟩ : Sig))) (C_slices_DeleteFunc_Change__patch_Less_1 : den (LChange) → den (LChange) → Option (denS (⟨.row 40 (TChange), [.dead]⟩ : Sig)))  (a0 : den (LChange)) (a1 : den (LChange)) : Option (denR (.one (LChange))) := ((C_slices_Clone_Change a0).bind fun r1 => ((C_slices_DeleteFunc_Change__patch_Less_1 a1 r1.1).bind fun r2 => some r2.1))
noncomputable def patch_Less : Nat → den (LChange) → den (LChange) → Option (denR (.one (LChange)))
  | 0, _, _ => none
  | n + 1, a0, a1 => patch_Less_top (slices_Clone_Change n) (slices_DeleteFunc_Change__patch_Less_1 n)  a0 a1
theorem patch_Less_eq (n : Nat) (a0 : den (LChange)) (a1 : den (LChange)) : (acalls cfg intr intrI n).p 18 [.s (.val (LChange) a0), .s (.val (LChange) a1)] (.one (LChange)) = patch_Less n a0 a1 := by
  cases n with
  | zero => rfl
  | succ n =>
    have h : (acalls cfg intr intrI (n + 1)).p 18 [.s (.val (LChange) a0), .s (.val (LChange) a1)] (.one (LChange)) = patch_Less_top (fun (a0 : den (LChange)) => (acalls cfg intr intrI n).i 31 [.s (.val (LChange) a0)] [] (⟨.row 40 (TChange), []⟩ : Sig)) (fun (a1_0 : den (LChange)) (o0 : den (LChange)) => (acalls cfg intr intrI n).i 30 [.s (.arr 42), .fn 32 [.eptr (LChange) a1_0]] [(42, .arr 40 (TChange) o0)] (⟨.row 40 (TChange), [.dead]⟩ : Sig))  a0 a1 := by kernel_rfl
    have c_slices_Clone_Change : (fun (a0 : den (LChange)) => (acalls cfg intr intrI n).i 31 [.s (.val (LChange) a0)] [] (⟨.row 40 (TChange), []⟩ : Sig)) = slices_Clone_Change n := by funext a0; exact slices_Clone_Change_eq n a0
    have c_slices_DeleteFunc_Change__patch_Less_1 : (fun (a1_0 : den (LChange)) (o0 : den (LChange)) => (acalls cfg intr intrI n).i 30 [.s (.arr 42), .fn 32 [.eptr (LChange) a1_0]] [(42, .arr 40 (TChange) o0)] (⟨.row 40 (TChange), [.dead]⟩ : Sig)) = slices_DeleteFunc_Change__patch_Less_1 n := by funext a1_0 o0; exact slices_DeleteFunc_Change__patch_Less_1_eq n a1_0 o0
    rw [h, c_slices_Clone_Change, c_slices_DeleteFunc_Change__patch_Less_1]; rfl

noncomputable def B19 : Code := (Go.Proofs.Try.f19.body).getD .skip
noncomputable def ref06_Find_sh2 (pt0 : den (LChange)) (keyt1 : den (.int .i64)) (it6 : den (.int .i64)) (o4 : den (TChange)) : St := ⟨[.s (.val (LChange) pt0), .s (.val (.int .i64) keyt1), U, U, .s (.ref 4 []), U, .s (.val (.int .i64) it6), U, U, U, U, U, U, U, U, U, U, U, U, U, U, U, U, U, U], [(4, .box (TChange) o4)]⟩
noncomputable def ref06_Find_s2    (LS2 : den (LChange) → den (.int .i64) → den (.int .i64) → den (TChange) → Option (denR (.two (TChange) (.bool)))) (pt0 : den (LChange)) (keyt1 : den (.int .i64)) (it6 : den (.int .i64)) (o4 : den (TChange)) : Option (denR (.two (TChange) (.bool))) := (bif (decide (it6 < (pt0.length : Int))) then (bif decide (0 ≤ it6) && decide (it6 < (pt0.length : Int)) then (bif (decide ((pt0.getD (Int.toNat it6) (dflt (TChange))).1 = keyt1)) then (bif decide (0 ≤ it6) && decide (it6 < (pt0.length : Int)) then some ((pt0.getD (Int.toNat it6) (dflt (TChange))), true) else none) else LS2 pt0 keyt1 (IntKind.wrap .i64 (it6 + (1 : Int))) o4) else none) else some (((0 : Int), (false, (((0 : Int), ((0 : Int), ((0 : Int), ((⟨#[]⟩ : ByteArray), ())))), ()))), false))
noncomputable def ref06_Find_l2  (n : Nat)  : Nat → den (LChange) → den (.int .i64) → den (.int .i64) → den (TChange) → Option (denR (.two (TChange) (.bool)))
  | 0, _, _, _, _ => none
  | m + 1, pt0, keyt1, it6, o4 => ref06_Find_s2    (fun (pt0 : den (LChange)) (keyt1 : den (.int .i64)) (it6 : den (.int .i64)) (o4 : den (TChange)) => ref06_Find_l2  n  m pt0 keyt1 it6 o4) pt0 keyt1 it6 o4
noncomputable def ref06_Find_g2    : List (den (TChange)) → den (.int .i64) → den (TChange) → Option (denR (.two (TChange) (.bool)))
  | [], keyt1, o4 => some (((0 : Int), (false, (((0 : Int), ((0 : Int), ((0 : Int), ((⟨#[]⟩ : ByteArray), ())))), ()))), false)
  | x :: r, keyt1, o4 => (bif (decide (x.1 = keyt1)) then some (x, true) else ref06_Find_g2    r keyt1 o4)
theorem ref06_Find_l2_list  (n : Nat)  : ∀ (m i : Nat) (pt0 : den (LChange)) (keyt1 : den (.int .i64)) (o4 : den (TChange)), pt0.length - i < m → i ≤ pt0.length → pt0.length < 4611686018427387904 → ref06_Find_l2  n  m pt0 keyt1 (i : Int) o4 = ref06_Find_g2    (pt0.drop i) keyt1 o4 := by
  intro m
  induction m with
  | zero => intro i pt0 keyt1 o4 h1; omega
  | succ m ih =>
    intro i pt0 keyt1 o4 h1 h2 h3
    show ref06_Find_s2    (fun (pt0 : den (LChange)) (keyt1 : den (.int .i64)) (it6 : den (.int .i64)) (o4 : den (TChange)) => ref06_Find_l2  n  m pt0 keyt1 it6 o4) pt0 keyt1 (i : Int) o4 = _
    unfold ref06_Find_s2
    have b0 : decide ((0 : Int) ≤ (i : Int)) = true := decide_eq_true (by omega)
    rcases Nat.lt_or_ge i pt0.length with hi | hi
    · have b1 : decide ((i : Int) < (pt0.length : Int)) = true := decide_eq_true (by omega)
      have bw : IntKind.i64.wrap ((i : Int) + (1 : Int)) = ((i + 1 : Nat) : Int) := w64s (by omega)
      have ih' : ∀ (keyt1 : den (.int .i64)) (o4 : den (TChange)), ref06_Find_l2  n  m pt0 keyt1 ((i + 1 : Nat) : Int) o4 = ref06_Find_g2    (pt0.drop (i + 1)) keyt1 o4 := fun keyt1 o4 => ih (i + 1) pt0 keyt1 o4 (by omega) (by omega) h3
      simp only [b0, b1, bw, Bool.and_true, Bool.true_and, cond_true, Int.toNat_natCast, ih']
      rw [drop_getD hi (dflt (TChange))]
      rfl
    · have b1 : decide ((i : Int) < (pt0.length : Int)) = false := decide_eq_false (by omega)
      simp only [b1, cond_false]
      rw [List.drop_eq_nil_of_le hi]
      rfl
noncomputable def ref06_Find_F2 (call : Call0) (n : Nat)  : (St → Option (denR (.two (TChange) (.bool)))) → St → Option (denR (.two (TChange) (.bool))) := fun rec => exec cfg call n 19 (cat B19 [1, 0, 1, 0, 0]) (kLoop rec (lk2 19 2 cfg.keep) (kBlock 0 (kSq (exec cfg call n 19 (cat B19 [1, 1])) (kret cfg Go.Proofs.Try.f19 (.two (TChange) (.bool))))))
theorem ref06_Find_l2_eq (call : Call0) (n : Nat)  : ∀ (m : Nat) (pt0 : den (LChange)) (keyt1 : den (.int .i64)) (it6 : den (.int .i64)) (o4 : den (TChange)), loopN (ref06_Find_F2 call n ) m (ref06_Find_sh2 pt0 keyt1 it6 o4) = ref06_Find_l2  n  m pt0 keyt1 it6 o4 := by
  intro m
  induction m with
  | zero => intros; rfl
  | succ m ih =>
    intro pt0 keyt1 it6 o4
    have h : loopN (ref06_Find_F2 call n ) (m + 1) (ref06_Find_sh2 pt0 keyt1 it6 o4) = ref06_Find_s2    (fun (pt0 : den (LChange)) (keyt1 : den (.int .i64)) (it6 : den (.int .i64)) (o4 : den (TChange)) => loopN (ref06_Find_F2 call n ) m (ref06_Find_sh2 pt0 keyt1 it6 o4)) pt0 keyt1 it6 o4 := by kernel_rfl
    have e0 : (fun (pt0 : den (LChange)) (keyt1 : den (.int .i64)) (it6 : den (.int .i64)) (o4 : den (TChange)) => loopN (ref06_Find_F2 call n ) m (ref06_Find_sh2 pt0 keyt1 it6 o4)) = (fun (pt0 : den (LChange)) (keyt1 : den (.int .i64)) (it6 : den (.int .i64)) (o4 : den (TChange)) => ref06_Find_l2  n  m pt0 keyt1 it6 o4) := by funext pt0 keyt1 it6 o4; exact ih pt0 keyt1 it6 o4
    rw [h, e0]; rfl
noncomputable def ref06_Find_top  (LL2 : den (LChange) → den (.int .i64) → den (.int .i64) → den (TChange) → Option (denR (.two (TChange) (.bool)))) (a0 : den (LChange)) (a1 : den (.int .i64)) : Option (denR (.two (TChange) (.bool))) := LL2 a0 a1 (0 : Int) ((0 : Int), (false, (((0 : Int), ((0 : Int), ((0 : Int), ((⟨#[]⟩ : ByteArray), ())))), ())))
noncomputable def ref06_Find : Nat → den (LChange) → den (.int .i64) → Option (denR (.two (TChange) (.bool)))
  | 0, _, _ => none
  | n + 1, a0, a1 => ref06_Find_top  (ref06_Find_l2  n n) a0 a1
theorem ref06_Find_eq (n : Nat) (a0 : den (LChange)) (a1 : den (.int .i64)) : (acalls cfg intr intrI n).p 19 [.s (.val (LChange) a0), .s (.val (.int .i64) a1)] (.two (TChange) (.bool)) = ref06_Find n a0 a1 := by
  cases n with
  | zero => rfl
  | succ n =>
    have h : (acalls cfg intr intrI (n + 1)).p 19 [.s (.val (LChange) a0), .s (.val (.int .i64) a1)] (.two (TChange) (.bool)) = ref06_Find_top  (fun (pt0 : den (LChange)) (keyt1 : den (.int .i64)) (it6 : den (.int .i64)) (o4 : den (TChange)) => loopN (ref06_Find_F2 (acalls cfg intr intrI n) n) n (ref06_Find_sh2 pt0 keyt1 it6 o4)) a0 a1 := by kernel_rfl
    have e2 : (fun (pt0 : den (LChange)) (keyt1 : den (.int .i64)) (it6 : den (.int .i64)) (o4 : den (TChange)) => loopN (ref06_Find_F2 (acalls cfg intr intrI n) n) n (ref06_Find_sh2 pt0 keyt1 it6 o4)) = ref06_Find_l2  n n := by funext pt0 keyt1 it6 o4; exact ref06_Find_l2_eq (acalls cfg intr intrI n) n n pt0 keyt1 it6 o4
    rw [h, e2]; rfl

noncomputable def B5 : Code := (Go.Proofs.Try.f5.body).getD .skip
noncomputable def law06_PatchPast_sh7 (t1 : den (LChange)) (t7 : den (LAttr)) (t8 : den (LAttr)) (t9 : den (LChange)) (t53 : den (.int .i64)) (t54 : den (.int .i64)) : St := ⟨[U, .s (.val (LChange) t1), U, U, U, U, U, .s (.val (LAttr) t7), .s (.val (LAttr) t8), .s (.val (LChange) t9), U, U, U, U, U, U, U, U, U, U, U, U, U, U, U, U, U, U, U, U, U, U, U, U, U, U, U, U, U, U, U, U, U, U, U, U, U, U, U, U, U, U, U, .s (.val (.int .i64) t53), .s (.val (.int .i64) t54), U, U, U, U, U, U, U, U, U, U, U, U, U, U, U, U, U, U, U, U], []⟩
noncomputable def law06_PatchPast_s7 (C_law06_great : den (LChange) → den (LLAttr) → Option (denR (.one (.bool)))) (C_law06_known : Option (denR (.one (.bool)))) (C_ref05_Rising : den (LAttr) → Option (denR (.one (.bool)))) (C_ref06_Rising : den (LChange) → Option (denR (.one (.bool)))) (C_patch_Apply : den (LAttr) → den (LChange) → Option (denR (.one (LAttr)))) (C_patch_Less : den (LChange) → den (LChange) → Option (denR (.one (LChange)))) (C_ref06_Find : den (LChange) → den (.int .i64) → Option (denR (.two (TChange) (.bool)))) (C_ref05_Same : den (LAttr) → den (LAttr) → Option (denR (.one (.bool))))   (LS7 : den (LChange) → den (LAttr) → den (LAttr) → den (LChange) → den (.int .i64) → den (.int .i64) → Option (denR (.one (.bool)))) (t1 : den (LChange)) (t7 : den (LAttr)) (t8 : den (LAttr)) (t9 : den (LChange)) (t53 : den (.int .i64)) (t54 : den (.int .i64)) : Option (denR (.one (.bool))) := (bif (decide (t54 < t53)) then (bif decide (0 ≤ t54) && decide (t54 < (t9.length : Int)) then ((C_ref06_Find t1 ((t9.getD (Int.toNat t54) (dflt (TChange))).1)).bind fun r17 => (bif r17.2 then some false else LS7 t1 t7 t8 t9 t53 (IntKind.wrap .i64 (t54 + (1 : Int))))) else none) else ((C_ref05_Same t7 t8).bind fun r18 => (bif r18 then ((C_law06_known).bind fun r19 => some r19) else some false)))
noncomputable def law06_PatchPast_l7 (C_law06_great : den (LChange) → den (LLAttr) → Option (denR (.one (.bool)))) (C_law06_known : Option (denR (.one (.bool)))) (C_ref05_Rising : den (LAttr) → Option (denR (.one (.bool)))) (C_ref06_Rising : den (LChange) → Option (denR (.one (.bool)))) (C_patch_Apply : den (LAttr) → den (LChange) → Option (denR (.one (LAttr)))) (C_patch_Less : den (LChange) → den (LChange) → Option (denR (.one (LChange)))) (C_ref06_Find : den (LChange) → den (.int .i64) → Option (denR (.two (TChange) (.bool)))) (C_ref05_Same : den (LAttr) → den (LAttr) → Option (denR (.one (.bool)))) (n : Nat)  : Nat → den (LChange) → den (LAttr) → den (LAttr) → den (LChange) → den (.int .i64) → den (.int .i64) → Option (denR (.one (.bool)))
  | 0, _, _, _, _, _, _ => none
  | m + 1, t1, t7, t8, t9, t53, t54 => law06_PatchPast_s7 C_law06_great C_law06_known C_ref05_Rising C_ref06_Rising C_patch_Apply C_patch_Less C_ref06_Find C_ref05_Same   (fun (t1 : den (LChange)) (t7 : den (LAttr)) (t8 : den (LAttr)) (t9 : den (LChange)) (t53 : den (.int .i64)) (t54 : den (.int .i64)) => law06_PatchPast_l7 C_law06_great C_law06_known C_ref05_Rising C_ref06_Rising C_patch_Apply C_patch_Less C_ref06_Find C_ref05_Same n  m t1 t7 t8 t9 t53 t54) t1 t7 t8 t9 t53 t54
noncomputable def law06_PatchPast_g7 (C_law06_great : den (LChange) → den (LLAttr) → Option (denR (.one (.bool)))) (C_law06_known : Option (denR (.one (.bool)))) (C_ref05_Rising : den (LAttr) → Option (denR (.one (.bool)))) (C_ref06_Rising : den (LChange) → Option (denR (.one (.bool)))) (C_patch_Apply : den (LAttr) → den (LChange) → Option (denR (.one (LAttr)))) (C_patch_Less : den (LChange) → den (LChange) → Option (denR (.one (LChange)))) (C_ref06_Find : den (LChange) → den (.int .i64) → Option (denR (.two (TChange) (.bool)))) (C_ref05_Same : den (LAttr) → den (LAttr) → Option (denR (.one (.bool))))   : List (den (TChange)) → den (LChange) → den (LAttr) → den (LAttr) → Option (denR (.one (.bool)))
  | [], t1, t7, t8 => ((C_ref05_Same t7 t8).bind fun r20 => (bif r20 then ((C_law06_known).bind fun r21 => some r21) else some false))
  | x :: r, t1, t7, t8 => ((C_ref06_Find t1 x.1).bind fun r22 => (bif r22.2 then some false else law06_PatchPast_g7 C_law06_great C_law06_known C_ref05_Rising C_ref06_Rising C_patch_Apply C_patch_Less C_ref06_Find C_ref05_Same   r t1 t7 t8))
theorem law06_PatchPast_l7_list (C_law06_great : den (LChange) → den (LLAttr) → Option (denR (.one (.bool)))) (C_law06_known : Option (denR (.one (.bool)))) (C_ref05_Rising : den (LAttr) → Option (denR (.one (.bool)))) (C_ref06_Rising : den (LChange) → Option (denR (.one (.bool)))) (C_patch_Apply : den (LAttr) → den (LChange) → Option (denR (.one (LAttr)))) (C_patch_Less : den (LChange) → den (LChange) → Option (denR (.one (LChange)))) (C_ref06_Find : den (LChange) → den (.int .i64) → Option (denR (.two (TChange) (.bool)))) (C_ref05_Same : den (LAttr) → den (LAttr) → Option (denR (.one (.bool)))) (n : Nat)  : ∀ (m i : Nat) (t1 : den (LChange)) (t7 : den (LAttr)) (t8 : den (LAttr)) (t9 : den (LChange)), t9.length - i < m → i ≤ t9.length → t9.length < 4611686018427387904 → law06_PatchPast_l7 C_law06_great C_law06_known C_ref05_Rising C_ref06_Rising C_patch_Apply C_patch_Less C_ref06_Find C_ref05_Same n  m t1 t7 t8 t9 (t9.length : Int) (i : Int) = law06_PatchPast_g7 C_law06_great C_law06_known C_ref05_Rising C_ref06_Rising C_patch_Apply C_patch_Less C_ref06_Find C_ref05_Same   (t9.drop i) t1 t7 t8 := by
  intro m
  induction m with
  | zero => intro i t1 t7 t8 t9 h1; omega
  | succ m ih =>
    intro i t1 t7 t8 t9 h1 h2 h3
    show law06_PatchPast_s7 C_law06_great C_law06_known C_ref05_Rising C_ref06_Rising C_patch_Apply C_patch_Less C_ref06_Find C_ref05_Same   (fun (t1 : den (LChange)) (t7 : den (LAttr)) (t8 : den (LAttr)) (t9 : den (LChange)) (t53 : den (.int .i64)) (t54 : den (.int .i64)) => law06_PatchPast_l7 C_law06_great C_law06_known C_ref05_Rising C_ref06_Rising C_patch_Apply C_patch_Less C_ref06_Find C_ref05_Same n  m t1 t7 t8 t9 t53 t54) t1 t7 t8 t9 (t9.length : Int) (i : Int) = _
    unfold law06_PatchPast_s7
    have b0 : decide ((0 : Int) ≤ (i : Int)) = true := decide_eq_true (by omega)
    rcases Nat.lt_or_ge i t9.length with hi | hi
    · have b1 : decide ((i : Int) < (t9.length : Int)) = true := decide_eq_true (by omega)
      have bw : IntKind.i64.wrap ((i : Int) + (1 : Int)) = ((i + 1 : Nat) : Int) := w64s (by omega)
      have ih' : ∀ (t1 : den (LChange)) (t7 : den (LAttr)) (t8 : den (LAttr)), law06_PatchPast_l7 C_law06_great C_law06_known C_ref05_Rising C_ref06_Rising C_patch_Apply C_patch_Less C_ref06_Find C_ref05_Same n  m t1 t7 t8 t9 (t9.length : Int) ((i + 1 : Nat) : Int) = law06_PatchPast_g7 C_law06_great C_law06_known C_ref05_Rising C_ref06_Rising C_patch_Apply C_patch_Less C_ref06_Find C_ref05_Same   (t9.drop (i + 1)) t1 t7 t8 := fun t1 t7 t8 => ih (i + 1) t1 t7 t8 t9 (by omega) (by omega) h3
      simp only [b0, b1, bw, Bool.and_true, Bool.true_and, cond_true, Int.toNat_natCast, ih']
      rw [drop_getD hi (dflt (TChange))]
      rfl
    · have b1 : decide ((i : Int) < (t9.length : Int)) = false := decide_eq_false (by omega)
      simp only [b1, cond_false]
      rw [List.drop_eq_nil_of_le hi]
      rfl
noncomputable def law06_PatchPast_F7 (call : Call0) (n : Nat)  : (St → Option (denR (.one (.bool)))) → St → Option (denR (.one (.bool))) := fun rec => exec cfg call n 5 (cat B5 [1, 1, 1, 1, 1, 0, 1, 0, 0]) (kLoop rec (lk2 5 7 cfg.keep) (kBlock 0 (kSq (exec cfg call n 5 (cat B5 [1, 1, 1, 1, 1, 1])) (kret cfg Go.Proofs.Try.f5 (.one (.bool))))))
theorem law06_PatchPast_l7_eq (call : Call0) (n : Nat)  : ∀ (m : Nat) (t1 : den (LChange)) (t7 : den (LAttr)) (t8 : den (LAttr)) (t9 : den (LChange)) (t53 : den (.int .i64)) (t54 : den (.int .i64)), loopN (law06_PatchPast_F7 call n ) m (law06_PatchPast_sh7 t1 t7 t8 t9 t53 t54) = law06_PatchPast_l7 (fun (a0 : den (LChange)) (a1 : den (LLAttr)) => call.p 8 [.s (.val (LChange) a0), .s (.val (LLAttr) a1)] (.one (.bool))) (call.p 11 [] (.one (.bool))) (fun (a0 : den (LAttr)) => call.p 9 [.s (.val (LAttr) a0)] (.one (.bool))) (fun (a0 : den (LChange)) => call.p 10 [.s (.val (LChange) a0)] (.one (.bool))) (fun (a0 : den (LAttr)) (a1 : den (LChange)) => call.p 13 [.s (.val (LAttr) a0), .s (.val (LChange) a1)] (.one (LAttr))) (fun (a0 : den (LChange)) (a1 : den (LChange)) => call.p 18 [.s (.val (LChange) a0), .s (.val (LChange) a1)] (.one (LChange))) (fun (a0 : den (LChange)) (a1 : den (.int .i64)) => call.p 19 [.s (.val (LChange) a0), .s (.val (.int .i64) a1)] (.two (TChange) (.bool))) (fun (a0 : den (LAttr)) (a1 : den (LAttr)) => call.p 12 [.s (.val (LAttr) a0), .s (.val (LAttr) a1)] (.one (.bool))) n  m t1 t7 t8 t9 t53 t54 := by
  intro m
  induction m with
  | zero => intros; rfl
  | succ m ih =>
    intro t1 t7 t8 t9 t53 t54
    have h : loopN (law06_PatchPast_F7 call n ) (m + 1) (law06_PatchPast_sh7 t1 t7 t8 t9 t53 t54) = law06_PatchPast_s7 (fun (a0 : den (LChange)) (a1 : den (LLAttr)) => call.p 8 [.s (.val (LChange) a0), .s (.val (LLAttr) a1)] (.one (.bool))) (call.p 11 [] (.one (.bool))) (fun (a0 : den (LAttr)) => call.p 9 [.s (.val (LAttr) a0)] (.one (.bool))) (fun (a0 : den (LChange)) => call.p 10 [.s (.val (LChange) a0)] (.one (.bool))) (fun (a0 : den (LAttr)) (a1 : den (LChange)) => call.p 13 [.s (.val (LAttr) a0), .s (.val (LChange) a1)] (.one (LAttr))) (fun (a0 : den (LChange)) (a1 : den (LChange)) => call.p 18 [.s (.val (LChange) a0), .s (.val (LChange) a1)] (.one (LChange))) (fun (a0 : den (LChange)) (a1 : den (.int .i64)) => call.p 19 [.s (.val (LChange) a0), .s (.val (.int .i64) a1)] (.two (TChange) (.bool))) (fun (a0 : den (LAttr)) (a1 : den (LAttr)) => call.p 12 [.s (.val (LAttr) a0), .s (.val (LAttr) a1)] (.one (.bool)))   (fun (t1 : den (LChange)) (t7 : den (LAttr)) (t8 : den (LAttr)) (t9 : den (LChange)) (t53 : den (.int .i64)) (t54 : den (.int .i64)) => loopN (law06_PatchPast_F7 call n ) m (law06_PatchPast_sh7 t1 t7 t8 t9 t53 t54)) t1 t7 t8 t9 t53 t54 := by kernel_rfl
    have e0 : (fun (t1 : den (LChange)) (t7 : den (LAttr)) (t8 : den (LAttr)) (t9 : den (LChange)) (t53 : den (.int .i64)) (t54 : den (.int .i64)) => loopN (law06_PatchPast_F7 call n ) m (law06_PatchPast_sh7 t1 t7 t8 t9 t53 t54)) = (fun (t1 : den (LChange)) (t7 : den (LAttr)) (t8 : den (LAttr)) (t9 : den (LChange)) (t53 : den (.int .i64)) (t54 : den (.int .i64)) => law06_PatchPast_l7 (fun (a0 : den (LChange)) (a1 : den (LLAttr)) => call.p 8 [.s (.val (LChange) a0), .s (.val (LLAttr) a1)] (.one (.bool))) (call.p 11 [] (.one (.bool))) (fun (a0 : den (LAttr)) => call.p 9 [.s (.val (LAttr) a0)] (.one (.bool))) (fun (a0 : den (LChange)) => call.p 10 [.s (.val (LChange) a0)] (.one (.bool))) (fun (a0 : den (LAttr)) (a1 : den (LChange)) => call.p 13 [.s (.val (LAttr) a0), .s (.val (LChange) a1)] (.one (LAttr))) (fun (a0 : den (LChange)) (a1 : den (LChange)) => call.p 18 [.s (.val (LChange) a0), .s (.val (LChange) a1)] (.one (LChange))) (fun (a0 : den (LChange)) (a1 : den (.int .i64)) => call.p 19 [.s (.val (LChange) a0), .s (.val (.int .i64) a1)] (.two (TChange) (.bool))) (fun (a0 : den (LAttr)) (a1 : den (LAttr)) => call.p 12 [.s (.val (LAttr) a0), .s (.val (LAttr) a1)] (.one (.bool))) n  m t1 t7 t8 t9 t53 t54) := by funext t1 t7 t8 t9 t53 t54; exact ih t1 t7 t8 t9 t53 t54
    rw [h, e0]; rfl
noncomputable def law06_PatchPast_top (C_law06_great : den (LChange) → den (LLAttr) → Option (denR (.one (.bool)))) (C_law06_known : Option (denR (.one (.bool)))) (C_ref05_Rising : den (LAttr) → Option (denR (.one (.bool)))) (C_ref06_Rising : den (LChange) → Option (denR (.one (.bool)))) (C_patch_Apply : den (LAttr) → den (LChange) → Option (denR (.one (LAttr)))) (C_patch_Less : den (LChange) → den (LChange) → Option (denR (.one (LChange)))) (C_ref06_Find : den (LChange) → den (.int .i64) → Option (denR (.two (TChange) (.bool)))) (C_ref05_Same : den (LAttr) → den (LAttr) → Option (denR (.one (.bool)))) (LL7 : den (LChange) → den (LAttr) → den (LAttr) → den (LChange) → den (.int .i64) → den (.int .i64) → Option (denR (.one (.bool)))) (a0 : den (LAttr)) (a1 : den (LChange)) (a2 : den (LChange)) : Option (denR (.one (.bool))) := ((C_law06_great a1 ([a0] : den (LLAttr))).bind fun r1 => (bif r1 then ((C_law06_known).bind fun r2 => some r2) else ((C_law06_great a2 ([] : den (LLAttr))).bind fun r3 => (bif r3 then ((C_law06_known).bind fun r4 => some r4) else ((C_ref05_Rising a0).bind fun r5 => (bif (!r5) then ((C_law06_known).bind fun r6 => some r6) else ((C_ref06_Rising a1).bind fun r7 => (bif (!r7) then ((C_law06_known).bind fun r8 => some r8) else ((C_ref06_Rising a2).bind fun r9 => (bif (!r9) then ((C_law06_known).bind fun r10 => some r10) else ((C_patch_Apply a0 a1).bind fun r11 => ((C_patch_Less a2 a1).bind fun r12 => ((C_patch_Apply r11 r12).bind fun r13 => ((C_patch_Apply a0 a2).bind fun r14 => ((C_patch_Apply r14 a1).bind fun r15 => ((C_patch_Less a2 a1).bind fun r16 => LL7 a1 r13 r15 r16 (r16.length : Int) (0 : Int)))))))))))))))))
noncomputable def law06_PatchPast : Nat → den (LAttr) → den (LChange) → den (LChange) → Option (denR (.one (.bool)))
  | 0, _, _, _ => none
  | n + 1, a0, a1, a2 => law06_PatchPast_top (law06_great n) (law06_known n) (ref05_Rising n) (ref06_Rising n) (patch_Apply n) (patch_Less n) (ref06_Find n) (ref05_Same n) (law06_PatchPast_l7 (law06_great n) (law06_known n) (ref05_Rising n) (ref06_Rising n) (patch_Apply n) (patch_Less n) (ref06_Find n) (ref05_Same n) n n) a0 a1 a2
theorem law06_PatchPast_eq (n : Nat) (a0 : den (LAttr)) (a1 : den (LChange)) (a2 : den (LChange)) : (acalls cfg intr intrI n).p 5 [.s (.val (LAttr) a0), .s (.val (LChange) a1), .s (.val (LChange) a2)] (.one (.bool)) = law06_PatchPast n a0 a1 a2 := by
  cases n with
  | zero => rfl
  | succ n =>
    have h : (acalls cfg intr intrI (n + 1)).p 5 [.s (.val (LAttr) a0), .s (.val (LChange) a1), .s (.val (LChange) a2)] (.one (.bool)) = law06_PatchPast_top (fun (a0 : den (LChange)) (a1 : den (LLAttr)) => (acalls cfg intr intrI n).p 8 [.s (.val (LChange) a0), .s (.val (LLAttr) a1)] (.one (.bool))) ((acalls cfg intr intrI n).p 11 [] (.one (.bool))) (fun (a0 : den (LAttr)) => (acalls cfg intr intrI n).p 9 [.s (.val (LAttr) a0)] (.one (.bool))) (fun (a0 : den (LChange)) => (acalls cfg intr intrI n).p 10 [.s (.val (LChange) a0)] (.one (.bool))) (fun (a0 : den (LAttr)) (a1 : den (LChange)) => (acalls cfg intr intrI n).p 13 [.s (.val (LAttr) a0), .s (.val (LChange) a1)] (.one (LAttr))) (fun (a0 : den (LChange)) (a1 : den (LChange)) => (acalls cfg intr intrI n).p 18 [.s (.val (LChange) a0), .s (.val (LChange) a1)] (.one (LChange))) (fun (a0 : den (LChange)) (a1 : den (.int .i64)) => (acalls cfg intr intrI n).p 19 [.s (.val (LChange) a0), .s (.val (.int .i64) a1)] (.two (TChange) (.bool))) (fun (a0 : den (LAttr)) (a1 : den (LAttr)) => (acalls cfg intr intrI n).p 12 [.s (.val (LAttr) a0), .s (.val (LAttr) a1)] (.one (.bool))) (fun (t1 : den (LChange)) (t7 : den (LAttr)) (t8 : den (LAttr)) (t9 : den (LChange)) (t53 : den (.int .i64)) (t54 : den (.int .i64)) => loopN (law06_PatchPast_F7 (acalls cfg intr intrI n) n) n (law06_PatchPast_sh7 t1 t7 t8 t9 t53 t54)) a0 a1 a2 := by kernel_rfl
    have e7 : (fun (t1 : den (LChange)) (t7 : den (LAttr)) (t8 : den (LAttr)) (t9 : den (LChange)) (t53 : den (.int .i64)) (t54 : den (.int .i64)) => loopN (law06_PatchPast_F7 (acalls cfg intr intrI n) n) n (law06_PatchPast_sh7 t1 t7 t8 t9 t53 t54)) = law06_PatchPast_l7 (fun (a0 : den (LChange)) (a1 : den (LLAttr)) => (acalls cfg intr intrI n).p 8 [.s (.val (LChange) a0), .s (.val (LLAttr) a1)] (.one (.bool))) ((acalls cfg intr intrI n).p 11 [] (.one (.bool))) (fun (a0 : den (LAttr)) => (acalls cfg intr intrI n).p 9 [.s (.val (LAttr) a0)] (.one (.bool))) (fun (a0 : den (LChange)) => (acalls cfg intr intrI n).p 10 [.s (.val (LChange) a0)] (.one (.bool))) (fun (a0 : den (LAttr)) (a1 : den (LChange)) => (acalls cfg intr intrI n).p 13 [.s (.val (LAttr) a0), .s (.val (LChange) a1)] (.one (LAttr))) (fun (a0 : den (LChange)) (a1 : den (LChange)) => (acalls cfg intr intrI n).p 18 [.s (.val (LChange) a0), .s (.val (LChange) a1)] (.one (LChange))) (fun (a0 : den (LChange)) (a1 : den (.int .i64)) => (acalls cfg intr intrI n).p 19 [.s (.val (LChange) a0), .s (.val (.int .i64) a1)] (.two (TChange) (.bool))) (fun (a0 : den (LAttr)) (a1 : den (LAttr)) => (acalls cfg intr intrI n).p 12 [.s (.val (LAttr) a0), .s (.val (LAttr) a1)] (.one (.bool))) n n := by funext t1 t7 t8 t9 t53 t54; exact law06_PatchPast_l7_eq (acalls cfg intr intrI n) n n t1 t7 t8 t9 t53 t54
    have c_law06_great : (fun (a0 : den (LChange)) (a1 : den (LLAttr)) => (acalls cfg intr intrI n).p 8 [.s (.val (LChange) a0), .s (.val (LLAttr) a1)] (.one (.bool))) = law06_great n := by funext a0 a1; exact law06_great_eq n a0 a1
    have c_law06_known : ((acalls cfg intr intrI n).p 11 [] (.one (.bool))) = law06_known n := law06_known_eq n
    have c_ref05_Rising : (fun (a0 : den (LAttr)) => (acalls cfg intr intrI n).p 9 [.s (.val (LAttr) a0)] (.one (.bool))) = ref05_Rising n := by funext a0; exact ref05_Rising_eq n a0
    have c_ref06_Rising : (fun (a0 : den (LChange)) => (acalls cfg intr intrI n).p 10 [.s (.val (LChange) a0)] (.one (.bool))) = ref06_Rising n := by funext a0; exact ref06_Rising_eq n a0
    have c_patch_Apply : (fun (a0 : den (LAttr)) (a1 : den (LChange)) => (acalls cfg intr intrI n).p 13 [.s (.val (LAttr) a0), .s (.val (LChange) a1)] (.one (LAttr))) = patch_Apply n := by funext a0 a1; exact patch_Apply_eq n a0 a1
    have c_patch_Less : (fun (a0 : den (LChange)) (a1 : den (LChange)) => (acalls cfg intr intrI n).p 18 [.s (.val (LChange) a0), .s (.val (LChange) a1)] (.one (LChange))) = patch_Less n := by funext a0 a1; exact patch_Less_eq n a0 a1
    have c_ref06_Find : (fun (a0 : den (LChange)) (a1 : den (.int .i64)) => (acalls cfg intr intrI n).p 19 [.s (.val (LChange) a0), .s (.val (.int .i64) a1)] (.two (TChange) (.bool))) = ref06_Find n := by funext a0 a1; exact ref06_Find_eq n a0 a1
    have c_ref05_Same : (fun (a0 : den (LAttr)) (a1 : den (LAttr)) => (acalls cfg intr intrI n).p 12 [.s (.val (LAttr) a0), .s (.val (LAttr) a1)] (.one (.bool))) = ref05_Same n := by funext a0 a1; exact ref05_Same_eq n a0 a1
    rw [h, e7, c_law06_great, c_law06_known, c_ref05_Rising, c_ref06_Rising, c_patch_Apply, c_patch_Less, c_ref06_Find, c_ref05_Same]; rfl

noncomputable def slices_Clone_Attr : Nat → den (LAttr) → Option (denS (⟨.row 46 (TAttr), []⟩ : Sig))
  | 0, _ => none
  | n + 1, a0 => bif decide ((0 + a0.length) * 48 ≤ 140737488355328) then some (a0, ()) else none
theorem slices_Clone_Attr_eq (n : Nat) (a0 : den (LAttr)) : (acalls cfg intr intrI n).i 36 [.s (.val (LAttr) a0)] [] (⟨.row 46 (TAttr), []⟩ : Sig) = slices_Clone_Attr n a0 := by
  cases n with
  | zero => rfl
  | succ n => kernel_rfl

noncomputable def slices_Insert_Attr : Nat → den (.int .i64) → den (LAttr) → den (LAttr) → Option (denS (⟨.row 46 (TAttr), [.dead, .dead]⟩ : Sig))
  | 0, _, _, _ => none
  | n + 1, a1, o0, o1 => bif decide (0 < o1.length) && (decide (0 ≤ a1) && decide (a1 ≤ (o0.length : Int)) && decide ((o0.length + o1.length) * 48 ≤ 140737488355328)) then some (o0.take a1.toNat ++ o1 ++ o0.drop a1.toNat, ((), ((), ()))) else none
theorem slices_Insert_Attr_eq (n : Nat) (a1 : den (.int .i64)) (o0 : den (LAttr)) (o1 : den (LAttr)) : (acalls cfg intr intrI n).i 37 [.s (.arr 95), .s (.val (.int .i64) a1), .s (.arr 96)] [(95, .arr 46 (TAttr) o0), (96, .arr 46 (TAttr) o1)] (⟨.row 46 (TAttr), [.dead, .dead]⟩ : Sig) = slices_Insert_Attr n a1 o0 o1 := by
  cases n with
  | zero => rfl
  | succ n => kernel_rfl

noncomputable def attrs_With_top (C_attrs_find : den (LAttr) → den (.int .i64) → Option (denR (.two (.int .i64) (.bool)))) (C_slices_Clone_Attr : den (LAttr) → Option (denS (⟨.row 46 (TAttr), []⟩ : Sig))) (C_slices_Insert_Attr : den (.int .i64) → den (LAttr) → den (LAttr) → Option (denS (⟨.row 46 (TAttr), [.dead, .dead]⟩ : Sig)))  (a0 : den (LAttr)) (a1 : den (TAttr)) : Option (denR (.one (LAttr))) := ((C_attrs_find a0 a1.1).bind fun r1 => (bif r1.2 then ((C_slices_Clone_Attr a0).bind fun r2 => (bif decide (0 ≤ r1.1) && decide (r1.1 < (r2.1.length : Int)) then some (r2.1.set (Int.toNat r1.1) a1) else none)) else ((C_slices_Clone_Attr a0).bind fun r3 => ((C_slices_Insert_Attr r1.1 r3.1 ([a1] : den (LAttr))).bind fun r4 => some r4.1))))
noncomputable def attrs_With : Nat → den (LAttr) → den (TAttr) → Option (denR (.one (LAttr)))
  | 0, _, _ => none
  | n + 1, a0, a1 => attrs_With_top (attrs_find n) (slices_Clone_Attr n) (slices_Insert_Attr n)  a0 a1
theorem attrs_With_eq (n : Nat) (a0 : den (LAttr)) (a1 : den (TAttr)) : (acalls cfg intr intrI n).p 22 [.s (.val (LAttr) a0), .s (.val (TAttr) a1)] (.one (LAttr)) = attrs_With n a0 a1 := by
  cases n with
  | zero => rfl
  | succ n =>
    have h : (acalls cfg intr intrI (n + 1)).p 22 [.s (.val (LAttr) a0), .s (.val (TAttr) a1)] (.one (LAttr)) = attrs_With_top (fun (a0 : den (LAttr)) (a1 : den (.int .i64)) => (acalls cfg intr intrI n).p 35 [.s (.val (LAttr) a0), .s (.val (.int .i64) a1)] (.two (.int .i64) (.bool))) (fun (a0 : den (LAttr)) => (acalls cfg intr intrI n).i 36 [.s (.val (LAttr) a0)] [] (⟨.row 46 (TAttr), []⟩ : Sig)) (fun (a1 : den (.int .i64)) (o0 : den (LAttr)) (o1 : den (LAttr)) => (acalls cfg intr intrI n).i 37 [.s (.arr 95), .s (.val (.int .i64) a1), .s (.arr 96)] [(95, .arr 46 (TAttr) o0), (96, .arr 46 (TAttr) o1)] (⟨.row 46 (TAttr), [.dead, .dead]⟩ : Sig))  a0 a1 := by kernel_rfl
    have c_attrs_find : (fun (a0 : den (LAttr)) (a1 : den (.int .i64)) => (acalls cfg intr intrI n).p 35 [.s (.val (LAttr) a0), .s (.val (.int .i64) a1)] (.two (.int .i64) (.bool))) = attrs_find n := by funext a0 a1; exact attrs_find_eq n a0 a1
    have c_slices_Clone_Attr : (fun (a0 : den (LAttr)) => (acalls cfg intr intrI n).i 36 [.s (.val (LAttr) a0)] [] (⟨.row 46 (TAttr), []⟩ : Sig)) = slices_Clone_Attr n := by funext a0; exact slices_Clone_Attr_eq n a0
    have c_slices_Insert_Attr : (fun (a1 : den (.int .i64)) (o0 : den (LAttr)) (o1 : den (LAttr)) => (acalls cfg intr intrI n).i 37 [.s (.arr 95), .s (.val (.int .i64) a1), .s (.arr 96)] [(95, .arr 46 (TAttr) o0), (96, .arr 46 (TAttr) o1)] (⟨.row 46 (TAttr), [.dead, .dead]⟩ : Sig)) = slices_Insert_Attr n := by funext a1 o0 o1; exact slices_Insert_Attr_eq n a1 o0 o1
    rw [h, c_attrs_find, c_slices_Clone_Attr, c_slices_Insert_Attr]; rfl

noncomputable def attrs_Without_1_top   (a0 : den (TAttr)) (a1 : den (.int .i64)) : Option (denR (.one (.bool))) := some (decide (a0.1 = a1))
noncomputable def attrs_Without_1 : Nat → den (TAttr) → den (.int .i64) → Option (denR (.one (.bool)))
  | 0, _, _ => none
  | n + 1, a0, a1 => attrs_Without_1_top   a0 a1
theorem attrs_Without_1_eq (n : Nat) (a0 : den (TAttr)) (a1 : den (.int .i64)) : (acalls cfg intr intrI n).p 40 [.s (.val (TAttr) a0), .s (.eptr (.int .i64) a1)] (.one (.bool)) = attrs_Without_1 n a0 a1 := by
  cases n with
  | zero => rfl
  | succ n =>
    have h : (acalls cfg intr intrI (n + 1)).p 40 [.s (.val (TAttr) a0), .s (.eptr (.int .i64) a1)] (.one (.bool)) = attrs_Without_1_top   a0 a1 := by kernel_rfl
    rw [h]; rfl

noncomputable def B47 : Code := (Go.Proofs.Try.f47.body).getD .skip
noncomputable def slices_IndexFunc_Attr__attrs_Without_1_sh2 (st0 : den (LAttr)) (ft1_0 : den (.int .i64)) (t7 : den (.int .i64)) (t8 : den (.int .i64)) : St := ⟨[.s (.val (LAttr) st0), .fn 40 [.eptr (.int .i64) ft1_0], U, U, U, U, U, .s (.val (.int .i64) t7), .s (.val (.int .i64) t8), U, U, U, U, U, U, U, U, U, U], []⟩
noncomputable def slices_IndexFunc_Attr__attrs_Without_1_s2 (C_attrs_Without_1 : den (TAttr) → den (.int .i64) → Option (denR (.one (.bool))))   (LS2 : den (LAttr) → den (.int .i64) → den (.int .i64) → den (.int .i64) → Option (denR (.one (.int .i64)))) (st0 : den (LAttr)) (ft1_0 : den (.int .i64)) (t7 : den (.int .i64)) (t8 : den (.int .i64)) : Option (denR (.one (.int .i64))) := (bif (decide (t8 < t7)) then (bif decide (0 ≤ t8) && decide (t8 < (st0.length : Int)) then ((C_attrs_Without_1 (st0.getD (Int.toNat t8) (dflt (TAttr))) ft1_0).bind fun r1 => (bif r1 then some t8 else LS2 st0 ft1_0 t7 (IntKind.wrap .i64 (t8 + (1 : Int))))) else none) else some (-1 : Int))
noncomputable def slices_IndexFunc_Attr__attrs_Without_1_l2 (C_attrs_Without_1 : den (TAttr) → den (.int .i64) → Option (denR (.one (.bool)))) (n : Nat)  : Nat → den (LAttr) → den (.int .i64) → den (.int .i64) → den (.int .i64) → Option (denR (.one (.int .i64)))
  | 0, _, _, _, _ => none
  | m + 1, st0, ft1_0, t7, t8 => slices_IndexFunc_Attr__attrs_Without_1_s2 C_attrs_Without_1   (fun (st0 : den (LAttr)) (ft1_0 : den (.int .i64)) (t7 : den (.int .i64)) (t8 : den (.int .i64)) => slices_IndexFunc_Attr__attrs_Without_1_l2 C_attrs_Without_1 n  m st0 ft1_0 t7 t8) st0 ft1_0 t7 t8
noncomputable def slices_IndexFunc_Attr__attrs_Without_1_g2 (C_attrs_Without_1 : den (TAttr) → den (.int .i64) → Option (denR (.one (.bool))))   : List (den (TAttr)) → den (.int .i64) → den (.int .i64) → Option (denR (.one (.int .i64)))
  | [], ft1_0, t8 => some (-1 : Int)
  | x :: r, ft1_0, t8 => ((C_attrs_Without_1 x ft1_0).bind fun r2 => (bif r2 then some t8 else slices_IndexFunc_Attr__attrs_Without_1_g2 C_attrs_Without_1   r ft1_0 (t8 + (1 : Int))))
theorem slices_IndexFunc_Attr__attrs_Without_1_l2_list (C_attrs_Without_1 : den (TAttr) → den (.int .i64) → Option (denR (.one (.bool)))) (n : Nat)  : ∀ (m i : Nat) (st0 : den (LAttr)) (ft1_0 : den (.int .i64)), st0.length - i < m → i ≤ st0.length → st0.length < 4611686018427387904 → slices_IndexFunc_Attr__attrs_Without_1_l2 C_attrs_Without_1 n  m st0 ft1_0 (st0.length : Int) (i : Int) = slices_IndexFunc_Attr__attrs_Without_1_g2 C_attrs_Without_1   (st0.drop i) ft1_0 (i : Int) := by
  intro m
  induction m with
  | zero => intro i st0 ft1_0 h1; omega
  | succ m ih =>
    intro i st0 ft1_0 h1 h2 h3
    show slices_IndexFunc_Attr__attrs_Without_1_s2 C_attrs_Without_1   (fun (st0 : den (LAttr)) (ft1_0 : den (.int .i64)) (t7 : den (.int .i64)) (t8 : den (.int .i64)) => slices_IndexFunc_Attr__attrs_Without_1_l2 C_attrs_Without_1 n  m st0 ft1_0 t7 t8) st0 ft1_0 (st0.length : Int) (i : Int) = _
    unfold slices_IndexFunc_Attr__attrs_Without_1_s2
    have b0 : decide ((0 : Int) ≤ (i : Int)) = true := decide_eq_true (by omega)
    rcases Nat.lt_or_ge i st0.length with hi | hi
    · have b1 : decide ((i : Int) < (st0.length : Int)) = true := decide_eq_true (by omega)
      have bw : IntKind.i64.wrap ((i : Int) + (1 : Int)) = ((i + 1 : Nat) : Int) := w64s (by omega)
      have ih' : ∀ (ft1_0 : den (.int .i64)), slices_IndexFunc_Attr__attrs_Without_1_l2 C_attrs_Without_1 n  m st0 ft1_0 (st0.length : Int) ((i + 1 : Nat) : Int) = slices_IndexFunc_Attr__attrs_Without_1_g2 C_attrs_Without_1   (st0.drop (i + 1)) ft1_0 ((i + 1 : Nat) : Int) := fun ft1_0 => ih (i + 1) st0 ft1_0 (by omega) (by omega) h3
      simp only [b0, b1, bw, Bool.and_true, Bool.true_and, cond_true, Int.toNat_natCast, ih']
      rw [drop_getD hi (dflt (TAttr))]
      rfl
    · have b1 : decide ((i : Int) < (st0.length : Int)) = false := decide_eq_false (by omega)
      simp only [b1, cond_false]
      rw [List.drop_eq_nil_of_le hi]
      rfl
noncomputable def slices_IndexFunc_Attr__attrs_Without_1_F2 (call : Call0) (n : Nat)  : (St → Option (denR (.one (.int .i64)))) → St → Option (denR (.one (.int .i64))) := fun rec => exec cfg call n 47 (cat B47 [1, 0, 1, 0, 0]) (kLoop rec (lk2 47 2 cfg.keep) (kBlock 0 (kSq (exec cfg call n 47 (cat B47 [1, 1])) (kret cfg Go.Proofs.Try.f47 (.one (.int .i64))))))
theorem slices_IndexFunc_Attr__attrs_Without_1_l2_eq (call : Call0) (n : Nat)  : ∀ (m : Nat) (st0 : den (LAttr)) (ft1_0 : den (.int .i64)) (t7 : den (.int .i64)) (t8 : den (.int .i64)), loopN (slices_IndexFunc_Attr__attrs_Without_1_F2 call n ) m (slices_IndexFunc_Attr__attrs_Without_1_sh2 st0 ft1_0 t7 t8) = slices_IndexFunc_Attr__attrs_Without_1_l2 (fun (a0 : den (TAttr)) (a1 : den (.int .i64)) => call.p 40 [.s (.val (TAttr) a0), .s (.eptr (.int .i64) a1)] (.one (.bool))) n  m st0 ft1_0 t7 t8 := by
  intro m
  induction m with
  | zero => intros; rfl
  | succ m ih =>
    intro st0 ft1_0 t7 t8
    have h : loopN (slices_IndexFunc_Attr__attrs_Without_1_F2 call n ) (m + 1) (slices_IndexFunc_Attr__attrs_Without_1_sh2 st0 ft1_0 t7 t8) = slices_IndexFunc_Attr__attrs_Without_1_s2 (fun (a0 : den (TAttr)) (a1 : den (.int .i64)) => call.p 40 [.s (.val (TAttr) a0), .s (.eptr (.int .i64) a1)] (.one (.bool)))   (fun (st0 : den (LAttr)) (ft1_0 : den (.int .i64)) (t7 : den (.int .i64)) (t8 : den (.int .i64)) => loopN (slices_IndexFunc_Attr__attrs_Without_1_F2 call n ) m (slices_IndexFunc_Attr__attrs_Without_1_sh2 st0 ft1_0 t7 t8)) st0 ft1_0 t7 t8 := by kernel_rfl
    have e0 : (fun (st0 : den (LAttr)) (ft1_0 : den (.int .i64)) (t7 : den (.int .i64)) (t8 : den (.int .i64)) => loopN (slices_IndexFunc_Attr__attrs_Without_1_F2 call n ) m (slices_IndexFunc_Attr__attrs_Without_1_sh2 st0 ft1_0 t7 t8)) = (fun (st0 : den (LAttr)) (ft1_0 : den (.int .i64)) (t7 : den (.int .i64)) (t8 : den (.int .i64)) => slices_IndexFunc_Attr__attrs_Without_1_l2 (fun (a0 : den (TAttr)) (a1 : den (.int .i64)) => call.p 40 [.s (.val (TAttr) a0), .s (.eptr (.int .i64) a1)] (.one (.bool))) n  m st0 ft1_0 t7 t8) := by funext st0 ft1_0 t7 t8; exact ih st0 ft1_0 t7 t8
    rw [h, e0]; rfl
noncomputable def slices_IndexFunc_Attr__attrs_Without_1_top (C_attrs_Without_1 : den (TAttr) → den (.int .i64) → Option (denR (.one (.bool)))) (LL2 : den (LAttr) → den (.int .i64) → den (.int .i64) → den (.int .i64) → Option (denR (.one (.int .i64)))) (a0 : den (LAttr)) (a1_0 : den (.int .i64)) : Option (denR (.one (.int .i64))) := LL2 a0 a1_0 (a0.length : Int) (0 : Int)
noncomputable def slices_IndexFunc_Attr__attrs_Without_1 : Nat → den (LAttr) → den (.int .i64) → Option (denR (.one (.int .i64)))
  | 0, _, _ => none
  | n + 1, a0, a1_0 => slices_IndexFunc_Attr__attrs_Without_1_top (attrs_Without_1 n) (slices_IndexFunc_Attr__attrs_Without_1_l2 (attrs_Without_1 n) n n) a0 a1_0
theorem slices_IndexFunc_Attr__attrs_Without_1_eq (n : Nat) (a0 : den (LAttr)) (a1_0 : den (.int .i64)) : (acalls cfg intr intrI n).p 47 [.s (.val (LAttr) a0), .fn 40 [.eptr (.int .i64) a1_0]] (.one (.int .i64)) = slices_IndexFunc_Attr__attrs_Without_1 n a0 a1_0 := by
  cases n with
  | zero => rfl
  | succ n =>
    have h : (acalls cfg intr intrI (n + 1)).p 47 [.s (.val (LAttr) a0), .fn 40 [.eptr (.int .i64) a1_0]] (.one (.int .i64)) = slices_IndexFunc_Attr__attrs_Without_1_top (fun (a0 : den (TAttr)) (a1 : den (.int .i64)) => (acalls cfg intr intrI n).p 40 [.s (.val (TAttr) a0), .s (.eptr (.int .i64) a1)] (.one (.bool))) (fun (st0 : den (LAttr)) (ft1_0 : den (.int .i64)) (t7 : den (.int .i64)) (t8 : den (.int .i64)) => loopN (slices_IndexFunc_Attr__attrs_Without_1_F2 (acalls cfg intr intrI n) n) n (slices_IndexFunc_Attr__attrs_Without_1_sh2 st0 ft1_0 t7 t8)) a0 a1_0 := by kernel_rfl
    have e2 : (fun (st0 : den (LAttr)) (ft1_0 : den (.int .i64)) (t7 : den (.int .i64)) (t8 : den (.int .i64)) => loopN (slices_IndexFunc_Attr__attrs_Without_1_F2 (acalls cfg intr intrI n) n) n (slices_IndexFunc_Attr__attrs_Without_1_sh2 st0 ft1_0 t7 t8)) = slices_IndexFunc_Attr__attrs_Without_1_l2 (fun (a0 : den (TAttr)) (a1 : den (.int .i64)) => (acalls cfg intr intrI n).p 40 [.s (.val (TAttr) a0), .s (.eptr (.int .i64) a1)] (.one (.bool))) n n := by funext st0 ft1_0 t7 t8; exact slices_IndexFunc_Attr__attrs_Without_1_l2_eq (acalls cfg intr intrI n) n n st0 ft1_0 t7 t8
    have c_attrs_Without_1 : (fun (a0 : den (TAttr)) (a1 : den (.int .i64)) => (acalls cfg intr intrI n).p 40 [.s (.val (TAttr) a0), .s (.eptr (.int .i64) a1)] (.one (.bool))) = attrs_Without_1 n := by funext a0 a1; exact attrs_Without_1_eq n a0 a1
    rw [h, e2, c_attrs_Without_1]; rfl

noncomputable def B39 : Code := (Go.Proofs.Try.f39.body).getD .skip
noncomputable def slices_DeleteFunc_Attr__attrs_Without_1_sh5 (delt1_0 : den (.int .i64)) (it5 : den (.int .i64)) (jt6 : den (.int .i64)) (o42 : den (LAttr)) : St := ⟨[.s (.arr 42), .fn 40 [.eptr (.int .i64) delt1_0], U, U, U, .s (.val (.int .i64) it5), .s (.val (.int .i64) jt6), U, U, U, U, U, U, U, U, U, U, U, U, U, U, U, U, U, U, U, U, U, U, U, U, U, U, U, U, U, U, U, U, U, U, U], [(42, .arr 46 (TAttr) o42)]⟩
noncomputable def slices_DeleteFunc_Attr__attrs_Without_1_s5 (C_slices_IndexFunc_Attr__attrs_Without_1 : den (LAttr) → den (.int .i64) → Option (denR (.one (.int .i64)))) (C_attrs_Without_1 : den (TAttr) → den (.int .i64) → Option (denR (.one (.bool))))   (LS5 : den (.int .i64) → den (.int .i64) → den (.int .i64) → den (LAttr) → Option (denS (⟨.row 46 (TAttr), [.dead]⟩ : Sig))) (delt1_0 : den (.int .i64)) (it5 : den (.int .i64)) (jt6 : den (.int .i64)) (o42 : den (LAttr)) : Option (denS (⟨.row 46 (TAttr), [.dead]⟩ : Sig)) := (bif (decide (jt6 < (o42.length : Int))) then (bif decide (0 ≤ jt6) && decide (jt6 < (o42.length : Int)) then ((C_attrs_Without_1 (o42.getD (Int.toNat jt6) (dflt (TAttr))) delt1_0).bind fun r2 => (bif (!r2) then (bif decide (0 ≤ it5) && decide (it5 < (o42.length : Int)) then LS5 delt1_0 (IntKind.wrap .i64 (it5 + (1 : Int))) (IntKind.wrap .i64 (jt6 + (1 : Int))) (o42.set (Int.toNat it5) (o42.getD (Int.toNat jt6) (dflt (TAttr)))) else none) else LS5 delt1_0 it5 (IntKind.wrap .i64 (jt6 + (1 : Int))) o42)) else none) else (bif decide (0 ≤ it5) && decide (it5 ≤ (o42.length : Int)) then (bif decide (0 ≤ it5) && decide (it5 ≤ ((o42.take (Int.toNat it5) ++ List.replicate (o42.length - (Int.toNat it5)) (dflt (TAttr))).length : Int)) then some (((o42.take (Int.toNat it5) ++ List.replicate (o42.length - (Int.toNat it5)) (dflt (TAttr))).take (Int.toNat it5)), ((), ())) else none) else none))
noncomputable def slices_DeleteFunc_Attr__attrs_Without_1_l5 (C_slices_IndexFunc_Attr__attrs_Without_1 : den (LAttr) → den (.int .i64) → Option (denR (.one (.int .i64)))) (C_attrs_Without_1 : den (TAttr) → den (.int .i64) → Option (denR (.one (.bool)))) (n : Nat)  : Nat → den (.int .i64) → den (.int .i64) → den (.int .i64) → den (LAttr) → Option (denS (⟨.row 46 (TAttr), [.dead]⟩ : Sig))
  | 0, _, _, _, _ => none
  | m + 1, delt1_0, it5, jt6, o42 => slices_DeleteFunc_Attr__attrs_Without_1_s5 C_slices_IndexFunc_Attr__attrs_Without_1 C_attrs_Without_1   (fun (delt1_0 : den (.int .i64)) (it5 : den (.int .i64)) (jt6 : den (.int .i64)) (o42 : den (LAttr)) => slices_DeleteFunc_Attr__attrs_Without_1_l5 C_slices_IndexFunc_Attr__attrs_Without_1 C_attrs_Without_1 n  m delt1_0 it5 jt6 o42) delt1_0 it5 jt6 o42
noncomputable def slices_DeleteFunc_Attr__attrs_Without_1_F5 (call : Call0) (n : Nat)  : (St → Option (denS (⟨.row 46 (TAttr), [.dead]⟩ : Sig))) → St → Option (denS (⟨.row 46 (TAttr), [.dead]⟩ : Sig)) := fun rec => exec cfg call n 39 (cat B39 [1, 1, 1, 0, 1, 0, 0]) (kLoop rec (lk2 39 5 cfg.keep) (kBlock 0 (kSq (exec cfg call n 39 (cat B39 [1, 1, 1, 1])) (kretS cfg Go.Proofs.Try.f39 (⟨.row 46 (TAttr), [.dead]⟩ : Sig)))))
theorem slices_DeleteFunc_Attr__attrs_Without_1_l5_eq (call : Call0) (n : Nat)  : ∀ (m : Nat) (delt1_0 : den (.int .i64)) (it5 : den (.int .i64)) (jt6 : den (.int .i64)) (o42 : den (LAttr)), loopN (slices_DeleteFunc_Attr__attrs_Without_1_F5 call n ) m (slices_DeleteFunc_Attr__attrs_Without_1_sh5 delt1_0 it5 jt6 o42) = slices_DeleteFunc_Attr__attrs_Without_1_l5 (fun (a0 : den (LAttr)) (a1_0 : den (.int .i64)) => call.p 47 [.s (.val (LAttr) a0), .fn 40 [.eptr (.int .i64) a1_0]] (.one (.int .i64))) (fun (a0 : den (TAttr)) (a1 : den (.int .i64)) => call.p 40 [.s (.val (TAttr) a0), .s (.eptr (.int .i64) a1)] (.one (.bool))) n  m delt1_0 it5 jt6 o42 := by
  intro m
  induction m with
  | zero => intros; rfl
  | succ m ih =>
    intro delt1_0 it5 jt6 o42
    have h : loopN (slices_DeleteFunc_Attr__attrs_Without_1_F5 call n ) (m + 1) (slices_DeleteFunc_Attr__attrs_Without_1_sh5 delt1_0 it5 jt6 o42) = slices_DeleteFunc_Attr__attrs_Without_1_s5 (fun (a0 : den (LAttr)) (a1_0 : den (.int .i64)) => call.p 47 [.s (.val (LAttr) a0), .fn 40 [.eptr (.int .i64) a1_0]] (.one (.int .i64))) (fun (a0 : den (TAttr)) (a1 : den (.int .i64)) => call.p 40 [.s (.val (TAttr) a0), .s (.eptr (.int .i64) a1)] (.one (.bool)))   (fun (delt1_0 : den (.int .i64)) (it5 : den (.int .i64)) (jt6 : den (.int .i64)) (o42 : den (LAttr)) => loopN (slices_DeleteFunc_Attr__attrs_Without_1_F5 call n ) m (slices_DeleteFunc_Attr__attrs_Without_1_sh5 delt1_0 it5 jt6 o42)) delt1_0 it5 jt6 o42 := by kernel_rfl
    have e0 : (fun (delt1_0 : den (.int .i64)) (it5 : den (.int .i64)) (jt6 : den (.int .i64)) (o42 : den (LAttr)) => loopN (slices_DeleteFunc_Attr__attrs_Without_1_F5 call n ) m (slices_DeleteFunc_Attr__attrs_Without_1_sh5 delt1_0 it5 jt6 o42)) = (fun (delt1_0 : den (.int .i64)) (it5 : den (.int .i64)) (jt6 : den (.int .i64)) (o42 : den (LAttr)) => slices_DeleteFunc_Attr__attrs_Without_1_l5 (fun (a0 : den (LAttr)) (a1_0 : den (.int .i64)) => call.p 47 [.s (.val (LAttr) a0), .fn 40 [.eptr (.int .i64) a1_0]] (.one (.int .i64))) (fun (a0 : den (TAttr)) (a1 : den (.int .i64)) => call.p 40 [.s (.val (TAttr) a0), .s (.eptr (.int .i64) a1)] (.one (.bool))) n  m delt1_0 it5 jt6 o42) := by funext delt1_0 it5 jt6 o42; exact ih delt1_0 it5 jt6 o42
    rw [h, e0]; rfl
noncomputable def slices_DeleteFunc_Attr__attrs_Without_1_top (C_slices_IndexFunc_Attr__attrs_Without_1 : den (LAttr) → den (.int .i64) → Option (denR (.one (.int .i64)))) (C_attrs_Without_1 : den (TAttr) → den (.int .i64) → Option (denR (.one (.bool)))) (LL5 : den (.int .i64) → den (.int .i64) → den (.int .i64) → den (LAttr) → Option (denS (⟨.row 46 (TAttr), [.dead]⟩ : Sig))) (a1_0 : den (.int .i64)) (o0 : den (LAttr)) : Option (denS (⟨.row 46 (TAttr), [.dead]⟩ : Sig)) := ((C_slices_IndexFunc_Attr__attrs_Without_1 o0 a1_0).bind fun r1 => (bif (decide (r1 = (-1 : Int))) then some (o0, ((), ())) else LL5 a1_0 r1 (IntKind.wrap .i64 (r1 + (1 : Int))) o0))
noncomputable def slices_DeleteFunc_Attr__attrs_Without_1 : Nat → den (.int .i64) → den (LAttr) → Option (denS (⟨.row 46 (TAttr), [.dead]⟩ : Sig))
  | 0, _, _ => none
  | n + 1, a1_0, o0 => slices_DeleteFunc_Attr__attrs_Without_1_top (slices_IndexFunc_Attr__attrs_Without_1 n) (attrs_Without_1 n) (slices_DeleteFunc_Attr__attrs_Without_1_l5 (slices_IndexFunc_Attr__attrs_Without_1 n) (attrs_Without_1 n) n n) a1_0 o0
theorem slices_DeleteFunc_Attr__attrs_Without_1_eq (n : Nat) (a1_0 : den (.int .i64)) (o0 : den (LAttr)) : (acalls cfg intr intrI n).i 39 [.s (.arr 42), .fn 40 [.eptr (.int .i64) a1_0]] [(42, .arr 46 (TAttr) o0)] (⟨.row 46 (TAttr), [.dead]⟩ : Sig) = slices_DeleteFunc_Attr__attrs_Without_1 n a1_0 o0 := by
  cases n with
  | zero => rfl
  | succ n =>
    have h : (acalls cfg intr intrI (n + 1)).i 39 [.s (.arr 42), .fn 40 [.eptr (.int .i64) a1_0]] [(42, .arr 46 (TAttr) o0)] (⟨.row 46 (TAttr), [.dead]⟩ : Sig) = slices_DeleteFunc_Attr__attrs_Without_1_top (fun (a0 : den (LAttr)) (a1_0 : den (.int .i64)) => (acalls cfg intr intrI n).p 47 [.s (.val (LAttr) a0), .fn 40 [.eptr (.int .i64) a1_0]] (.one (.int .i64))) (fun (a0 : den (TAttr)) (a1 : den (.int .i64)) => (acalls cfg intr intrI n).p 40 [.s (.val (TAttr) a0), .s (.eptr (.int .i64) a1)] (.one (.bool))) (fun (delt1_0 : den (.int .i64)) (it5 : den (.int .i64)) (jt6 : den (.int .i64)) (o42 : den (LAttr)) => loopN (slices_DeleteFunc_Attr__attrs_Without_1_F5 (acalls cfg intr intrI n) n) n (slices_DeleteFunc_Attr__attrs_Without_1_sh5 delt1_0 it5 jt6 o42)) a1_0 o0 := by kernel_rfl
    have e5 : (fun (delt1_0 : den (.int .i64)) (it5 : den (.int .i64)) (jt6 : den (.int .i64)) (o42 : den (LAttr)) => loopN (slices_DeleteFunc_Attr__attrs_Without_1_F5 (acalls cfg intr intrI n) n) n (slices_DeleteFunc_Attr__attrs_Without_1_sh5 delt1_0 it5 jt6 o42)) = slices_DeleteFunc_Attr__attrs_Without_1_l5 (fun (a0 : den (LAttr)) (a1_0 : den (.int .i64)) => (acalls cfg intr intrI n).p 47 [.s (.val (LAttr) a0), .fn 40 [.eptr (.int .i64) a1_0]] (.one (.int .i64))) (fun (a0 : den (TAttr)) (a1 : den (.int .i64)) => (acalls cfg intr intrI n).p 40 [.s (.val (TAttr) a0), .s (.eptr (.int .i64) a1)] (.one (.bool))) n n := by funext delt1_0 it5 jt6 o42; exact slices_DeleteFunc_Attr__attrs_Without_1_l5_eq (acalls cfg intr intrI n) n n delt1_0 it5 jt6 o42
    have c_slices_IndexFunc_Attr__attrs_Without_1 : (fun (a0 : den (LAttr)) (a1_0 : den (.int .i64)) => (acalls cfg intr intrI n).p 47 [.s (.val (LAttr) a0), .fn 40 [.eptr (.int .i64) a1_0]] (.one (.int .i64))) = slices_IndexFunc_Attr__attrs_Without_1 n := by funext a0 a1_0; exact slices_IndexFunc_Attr__attrs_Without_1_eq n a0 a1_0
    have c_attrs_Without_1 : (fun (a0 : den (TAttr)) (a1 : den (.int .i64)) => (acalls cfg intr intrI n).p 40 [.s (.val (TAttr) a0), .s (.eptr (.int .i64) a1)] (.one (.bool))) = attrs_Without_1 n := by funext a0 a1; exact attrs_Without_1_eq n a0 a1
    rw [h, e5, c_slices_IndexFunc_Attr__attrs_Without_1, c_attrs_Without_1]; rfl

noncomputable def attrs_Without_top (C_slices_Clone_Attr : den (LAttr) → Option (denS (⟨.row 46 (TAttr), []⟩ : Sig))) (C_slices_DeleteFunc_Attr__attrs_Without_1 : den (.int .i64) → den (LAttr) → Option (denS (⟨.row 46 (TAttr), [.dead]⟩ : Sig)))  (a0 : den (LAttr)) (a1 : den (.int .i64)) : Option (denR (.one (LAttr))) := ((C_slices_Clone_Attr a0).bind fun r1 => ((C_slices_DeleteFunc_Attr__attrs_Without_1 a1 r1.1).bind fun r2 => some r2.1))
noncomputable def attrs_Without : Nat → den (LAttr) → den (.int .i64) → Option (denR (.one (LAttr)))
  | 0, _, _ => none
  | n + 1, a0, a1 => attrs_Without_top (slices_Clone_Attr n) (slices_DeleteFunc_Attr__attrs_Without_1 n)  a0 a1
theorem attrs_Without_eq (n : Nat) (a0 : den (LAttr)) (a1 : den (.int .i64)) : (acalls cfg intr intrI n).p 25 [.s (.val (LAttr) a0), .s (.val (.int .i64) a1)] (.one (LAttr)) = attrs_Without n a0 a1 := by
  cases n with
  | zero => rfl
  | succ n =>
    have h : (acalls cfg intr intrI (n + 1)).p 25 [.s (.val (LAttr) a0), .s (.val (.int .i64) a1)] (.one (LAttr)) = attrs_Without_top (fun (a0 : den (LAttr)) => (acalls cfg intr intrI n).i 36 [.s (.val (LAttr) a0)] [] (⟨.row 46 (TAttr), []⟩ : Sig)) (fun (a1_0 : den (.int .i64)) (o0 : den (LAttr)) => (acalls cfg intr intrI n).i 39 [.s (.arr 42), .fn 40 [.eptr (.int .i64) a1_0]] [(42, .arr 46 (TAttr) o0)] (⟨.row 46 (TAttr), [.dead]⟩ : Sig))  a0 a1 := by kernel_rfl
    have c_slices_Clone_Attr : (fun (a0 : den (LAttr)) => (acalls cfg intr intrI n).i 36 [.s (.val (LAttr) a0)] [] (⟨.row 46 (TAttr), []⟩ : Sig)) = slices_Clone_Attr n := by funext a0; exact slices_Clone_Attr_eq n a0
    have c_slices_DeleteFunc_Attr__attrs_Without_1 : (fun (a1_0 : den (.int .i64)) (o0 : den (LAttr)) => (acalls cfg intr intrI n).i 39 [.s (.arr 42), .fn 40 [.eptr (.int .i64) a1_0]] [(42, .arr 46 (TAttr) o0)] (⟨.row 46 (TAttr), [.dead]⟩ : Sig)) = slices_DeleteFunc_Attr__attrs_Without_1 n := by funext a1_0 o0; exact slices_DeleteFunc_Attr__attrs_Without_1_eq n a1_0 o0
    rw [h, c_slices_Clone_Attr, c_slices_DeleteFunc_Attr__attrs_Without_1]; rfl

end Go.Proofs.Ytecangnmmbcbkaa.Ab
