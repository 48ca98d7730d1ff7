/- The seat's functions as plain Lean functions, each shown to be what the abstract interpreter comes to (printed by try3.py). -/
import Derived.Test.YtecangnmmbcbkaaDoorAJ
import Derived.Test.YtecangnmmbcbkaaDoorP0
import Derived.Test.YtecangnmmbcbkaaDoorProg
import Derived.KernelRfl
set_option linter.unusedVariables false
set_option linter.unusedSimpArgs false
set_option maxRecDepth 100000
namespace Go.Proofs.YtecangnmmbcbkaaDoor.Ab
open Go
abbrev Y0 : Ty := .prod (.int .i64) (.unit)
abbrev Y1 : Ty := .prod (.bool) (Y0)
abbrev Y2 : Ty := .prod (.bool) (Y1)
abbrev Y3 : Ty := .prod (.int .u8) (Y2)
abbrev Y4 : Ty := .prod (.bool) (Y3)
abbrev TKey : Ty := .prod (.int .i64) (Y4)
abbrev Y5 : Ty := .prod (.str) (.unit)
abbrev Y6 : Ty := .prod (.int .u64) (Y5)
abbrev Y7 : Ty := .prod (.int .i64) (Y6)
abbrev TValue : Ty := .prod (.int .u8) (Y7)
abbrev Y8 : Ty := .prod (TValue) (.unit)
abbrev Y9 : Ty := .prod (.bool) (Y8)
abbrev TChange : Ty := .prod (.int .i64) (Y9)
abbrev TAttr : Ty := .prod (.int .i64) (Y8)
abbrev LAttr : Ty := .slice (TAttr)
abbrev LChange : Ty := .slice (TChange)
abbrev LLAttr : Ty := .slice (LAttr)
abbrev Y10 : Ty := .prod (.int .u8) (.unit)
abbrev TacceptRange : Ty := .prod (.int .u8) (Y10)
abbrev Y11 : Ty := .prod (.bool) (Y10)
abbrev Y12 : Ty := .prod (.int .i64) (Y11)
abbrev TboundsError : Ty := .prod (.int .i64) (Y12)
abbrev LKey : Ty := .slice (TKey)
abbrev MKey : Ty := .map (TKey)
abbrev Y13 : Ty := .prod (MKey) (.unit)
abbrev TSchema : Ty := .prod (LKey) (Y13)
abbrev PSchema : Ty := .ptr (TSchema)
abbrev LLChange : Ty := .slice (LChange)
abbrev Li32 : Ty := .slice (.int .i32)
abbrev Lu8 : Ty := .slice (.int .u8)
abbrev Pi64 : Ty := .ptr (.int .i64)
abbrev Pu64 : Ty := .ptr (.int .u64)
abbrev Pu8 : Ty := .ptr (.int .u8)
abbrev Y14 : Ty := .prod (.str) (.int .i64)
noncomputable def cfg : Cfg :=
  { ty := [(2, .int .i64), (3, .int .i64), (4, .bool), (5, .int .u8), (6, .int .u8), (7, TboundsError), (9, .str), (12, .int .u64), (21, .int .i32), (22, LKey), (23, LAttr), (24, LChange), (28, PSchema), (29, .int .i64), (36, .int .u64), (37, TValue), (38, TValue), (39, TChange), (40, TChange), (43, TAttr), (44, TAttr), (59, LLChange), (68, LLAttr), (74, TKey), (75, TKey), (76, MKey), (77, TSchema), (78, TSchema), (99, .int .u64), (103, .f64), (109, Li32), (112, Lu8), (118, .int .i64), (125, .int .u32), (131, .int .u64), (135, Pi64), (141, Pu64), (146, TacceptRange), (147, TacceptRange), (157, .int .u8), (158, .int .u8), (160, Pu8), (161, .int .i32), (162, .int .i32)]
    el := [(22, 75), (23, 44), (24, 40), (59, 24), (68, 23), (109, 21), (112, 5)]
    bytes := [(75, 24), (44, 48), (40, 56), (24, 24), (23, 24), (21, 4), (5, 1)]
    fns := [(3, Go.Proofs.Tryd.f3), (4, Go.Proofs.Tryd.f4), (5, Go.Proofs.Tryd.f5), (6, Go.Proofs.Tryd.f6), (8, Go.Proofs.Tryd.f8), (9, Go.Proofs.Tryd.f9), (10, Go.Proofs.Tryd.f10), (11, Go.Proofs.Tryd.f11), (12, Go.Proofs.Tryd.f12), (13, Go.Proofs.Tryd.f13), (14, Go.Proofs.Tryd.f14), (15, Go.Proofs.Tryd.f15), (16, Go.Proofs.Tryd.f16), (17, Go.Proofs.Tryd.f17), (18, Go.Proofs.Tryd.f18), (19, Go.Proofs.Tryd.f19), (20, Go.Proofs.Tryd.f20), (21, Go.Proofs.Tryd.f21), (22, Go.Proofs.Tryd.f22), (23, Go.Proofs.Tryd.f23), (24, Go.Proofs.Tryd.f24), (25, Go.Proofs.Tryd.f25), (26, Go.Proofs.Tryd.f26), (27, Go.Proofs.Tryd.f27), (28, Go.Proofs.Tryd.f28), (29, Go.Proofs.Tryd.f29), (30, Go.Proofs.Tryd.f30), (31, Go.Proofs.Tryd.f31), (32, Go.Proofs.Tryd.f32), (33, Go.Proofs.Tryd.f33), (34, Go.Proofs.Tryd.f34), (35, Go.Proofs.Tryd.f35), (36, Go.Proofs.Tryd.f36), (37, Go.Proofs.Tryd.f37), (38, Go.Proofs.Tryd.f38), (39, Go.Proofs.Tryd.f39), (40, Go.Proofs.Tryd.f40), (44, Go.Proofs.Tryd.f44), (46, Go.Proofs.Tryd.f46), (49, Go.Proofs.Tryd.f49), (50, Go.Proofs.Tryd.f50), (51, Go.Proofs.Tryd.f51), (52, Go.Proofs.Tryd.f52), (53, Go.Proofs.Tryd.f53), (54, Go.Proofs.Tryd.f54), (55, Go.Proofs.Tryd.f55), (56, Go.Proofs.Tryd.f56), (57, Go.Proofs.Tryd.f57), (58, Go.Proofs.Tryd.f58), (59, Go.Proofs.Tryd.f59), (60, Go.Proofs.Tryd.f60), (61, Go.Proofs.Tryd.f61), (62, Go.Proofs.Tryd.f62), (63, Go.Proofs.Tryd.f63), (64, Go.Proofs.Tryd.f64), (65, Go.Proofs.Tryd.f65), (66, Go.Proofs.Tryd.f66), (67, Go.Proofs.Tryd.f67), (68, Go.Proofs.Tryd.f68), (69, Go.Proofs.Tryd.f69), (72, Go.Proofs.Tryd.f72), (73, Go.Proofs.Tryd.f73), (74, Go.Proofs.Tryd.f74), (75, Go.Proofs.Tryd.f75), (77, Go.Proofs.Tryd.f77), (78, Go.Proofs.Tryd.f78), (79, Go.Proofs.Tryd.f79), (80, Go.Proofs.Tryd.f80), (81, Go.Proofs.Tryd.f81), (82, Go.Proofs.Tryd.f82), (85, Go.Proofs.Tryd.f85), (96, Go.Proofs.Tryd.f96), (98, Go.Proofs.Tryd.f98), (99, Go.Proofs.Tryd.f99), (106, Go.Proofs.Tryd.f106), (107, Go.Proofs.Tryd.f107), (108, Go.Proofs.Tryd.f108), (111, Go.Proofs.Tryd.f111), (112, Go.Proofs.Tryd.f112)]
    res := [(3, (.one (.bool))), (4, (.one (.bool))), (5, (.one (.bool))), (6, (.one (.bool))), (8, (.one (.bool))), (9, (.one (.bool))), (10, (.one (.bool))), (11, (.one (.bool))), (12, (.two (PSchema) (.int .i64))), (13, (.one (.int .i64))), (14, (.one (LChange))), (15, (.one (LAttr))), (16, (.one (.bool))), (17, (.two (TChange) (.bool))), (18, (.two (TValue) (.bool))), (19, (.one (.bool))), (20, (.one (.int .i64))), (21, (.one (.bool))), (22, (.one (.bool))), (23, (.one (LChange))), (24, (.one (.bool))), (25, (.one (LChange))), (26, (.one (.int .i64))), (27, (.one (LChange))), (28, (.one (LChange))), (29, (.one (LChange))), (30, (.one (LChange))), (31, (.one (.bool))), (32, (.one (.bool))), (33, (.one (.int .i64))), (34, (.one (.bool))), (35, (.one (LAttr))), (36, (.one (LAttr))), (37, (.one (LAttr))), (38, (.one (.bool))), (39, (.one (LAttr))), (40, (.two (TValue) (.bool))), (44, (.one (TValue))), (46, (.one (.bool))), (49, (.one (.int .i64))), (50, (.two (TKey) (.bool))), (51, (.one (.bool))), (52, (.one (LChange))), (53, (.one (LChange))), (54, (.one (.bool))), (55, (.one (.bool))), (56, (.two (TKey) (.bool))), (57, (.one (.bool))), (58, (.one (.bool))), (59, (.one (TChange))), (60, (.one (.bool))), (61, (.one (.bool))), (62, (.one (.bool))), (63, (.two (.int .i64) (.bool))), (64, (.one (LAttr))), (65, (.one (LAttr))), (66, (.one (LAttr))), (67, (.one (.bool))), (68, (.one (.bool))), (69, (.one (.bool))), (72, (.one (.bool))), (73, (.one (TValue))), (74, (.one (TValue))), (75, (.one (TValue))), (77, (.two (TValue) (.int .i64))), (78, (.one (.int .i64))), (79, (.one (.bool))), (80, (.two (Li32) (.int .i64))), (81, (.two (.int .i64) (.bool))), (82, (.one (.int .i64))), (85, (.one (.int .i64))), (96, (.one (.bool))), (98, (.two (Li32) (.int .i64))), (99, (.two (.int .i32) (.int .i64))), (106, (.one (.bool))), (107, (.one (.bool))), (108, (.one (Lu8))), (111, (.one (.int .u64))), (112, (.one (.int .u8)))]
    keep := [((3, 11), [1, 2, 11, 92, 93]),
      ((5, 8), [0, 1, 3, 11, 13, 82, 83]),
      ((8, 9), [1, 5, 7, 8, 9, 42, 43]),
      ((9, 3), [0, 1, 5, 12, 13]),
      ((9, 8), [1, 5, 27, 28]),
      ((9, 12), [1, 5, 7, 27, 28, 42, 43]),
      ((10, 2), [0, 3]),
      ((13, 5), [0, 1, 5, 13, 14, 15]),
      ((15, 4), [0, 5, 6, 9, 10, 11]),
      ((15, 6), [0, 5, 6, 8, 9, 10, 11]),
      ((16, 4), [0, 1, 5]),
      ((17, 2), [0, 1, 4, 6]),
      ((18, 2), [0, 1, 4, 6]),
      ((19, 4), [0, 3]),
      ((19, 10), [0, 3, 4, 5]),
      ((20, 4), [0, 1, 5]),
      ((20, 9), [0, 1, 6]),
      ((22, 4), [0, 1, 5]),
      ((24, 2), [0, 3]),
      ((25, 3), [0, 1, 2, 7, 8]),
      ((26, 4), [0, 1, 5]),
      ((26, 9), [0, 1, 6]),
      ((27, 4), [0, 5, 6, 11, 12, 13]),
      ((27, 6), [0, 5, 6, 8, 11, 12, 13]),
      ((27, 16), [5, 79, 80, 81]),
      ((28, 4), [0, 5, 6, 9, 10, 11]),
      ((28, 6), [0, 5, 6, 8, 9, 10, 11]),
      ((29, 3), [0, 5, 10, 11, 12]),
      ((31, 2), [0, 5, 6]),
      ((33, 5), [0, 1, 5, 11, 12, 13]),
      ((52, 5), [0, 1, 5, 6, 42]),
      ((56, 2), [0, 1, 4, 6]),
      ((58, 4), [0, 1, 12, 13]),
      ((66, 5), [0, 1, 5, 6, 42]),
      ((69, 4), [0, 1, 12, 13]),
      ((78, 2), [0, 1, 7, 8]),
      ((80, 3), [0, 4, 5]),
      ((81, 3), [0, 1, 2, 8, 9, 10]),
      ((85, 2), [0, 1, 7, 8]),
      ((98, 5), [4, 12]),
      ((99, 17), [0, 4, 5, 6]),
      ((106, 2), [0]),
      ((106, 10), [0])]
    inl := [(52, (⟨.row 40 (TChange), [.dead]⟩ : Sig)), (53, (⟨.row 40 (TChange), []⟩ : Sig)), (64, (⟨.row 44 (TAttr), []⟩ : Sig)), (65, (⟨.row 44 (TAttr), [.dead, .dead]⟩ : Sig)), (66, (⟨.row 44 (TAttr), [.dead]⟩ : Sig))]
    cut := [((35, 6), [5])]
    ext := [(76, 0), (97, 1)]
    arr := [(145, (256, 5)), (148, (16, 147))] }
noncomputable def intr : Intr := [(12, gNew)]
noncomputable def intrI : IntrI := [(53, gClone 40 (TChange) 56), (64, gClone 44 (TAttr) 48), (65, gInsert 44 (TAttr) 48)]

noncomputable def schema_may_top   (a0 : den (TKey)) : Option (denR (.one (.bool))) := (bif (decide (a0.1 < (1 : Int))) then some false else (bif (decide ((1000 : Int) < a0.1)) then some false else (bif (decide (a0.2.2.1 < (1 : Int))) then some false else (bif (decide ((4 : Int) < a0.2.2.1)) then some false else (bif a0.2.1 then (bif (!a0.2.2.2.2.1) then (bif (decide ((0 : Int) ≤ a0.2.2.2.2.2.1)) then some (decide (a0.2.2.2.2.2.1 ≤ (8 : Int))) else some false) else some false) else some (decide (a0.2.2.2.2.2.1 = (0 : Int))))))))
noncomputable def schema_may : Nat → den (TKey) → Option (denR (.one (.bool)))
  | 0, _ => none
  | n + 1, a0 => schema_may_top   a0
theorem schema_may_eq (n : Nat) (a0 : den (TKey)) : (acalls cfg intr intrI n).p 46 [.s (.val (TKey) a0)] (.one (.bool)) = schema_may n a0 := by
  cases n with
  | zero => rfl
  | succ n =>
    have h : (acalls cfg intr intrI (n + 1)).p 46 [.s (.val (TKey) a0)] (.one (.bool)) = schema_may_top   a0 := by kernel_rfl
    rw [h]; rfl

noncomputable def law06_known_1_top   (a0 : den (.int .i64)) : Option (denR (.one (TValue))) := some ((2 : Int), (a0, ((0 : Int), ((⟨#[]⟩ : ByteArray), ()))))
noncomputable def law06_known_1 : Nat → den (.int .i64) → Option (denR (.one (TValue)))
  | 0, _ => none
  | n + 1, a0 => law06_known_1_top   a0
theorem law06_known_1_eq (n : Nat) (a0 : den (.int .i64)) : (acalls cfg intr intrI n).p 44 [.s (.val (.int .i64) a0)] (.one (TValue)) = law06_known_1 n a0 := by
  cases n with
  | zero => rfl
  | succ n =>
    have h : (acalls cfg intr intrI (n + 1)).p 44 [.s (.val (.int .i64) a0)] (.one (TValue)) = law06_known_1_top   a0 := by kernel_rfl
    rw [h]; rfl

noncomputable def patch_change_top   (a0 : den (TAttr)) : Option (denR (.one (TChange))) := some (a0.1, (false, (a0.2.1, ())))
noncomputable def patch_change : Nat → den (TAttr) → Option (denR (.one (TChange)))
  | 0, _ => none
  | n + 1, a0 => patch_change_top   a0
theorem patch_change_eq (n : Nat) (a0 : den (TAttr)) : (acalls cfg intr intrI n).p 59 [.s (.val (TAttr) a0)] (.one (TChange)) = patch_change n a0 := by
  cases n with
  | zero => rfl
  | succ n =>
    have h : (acalls cfg intr intrI (n + 1)).p 59 [.s (.val (TAttr) a0)] (.one (TChange)) = patch_change_top   a0 := by kernel_rfl
    rw [h]; rfl

noncomputable def B27 : Code := (Go.Proofs.Tryd.f27.body).getD .skip
noncomputable def patch_Diff_sh6 (t0 : den (LAttr)) (t6 : den (.int .i64)) (t11 : den (LAttr)) (t12 : den (.int .i64)) (t13 : den (.int .i64)) (o5 : den (LChange)) (o8 : den (TAttr)) : St := ⟨[.s (.val (LAttr) t0), U, U, U, U, .s (.arr 5), .s (.val (.int .i64) t6), U, .s (.ref 8 []), U, U, .s (.val (LAttr) t11), .s (.val (.int .i64) t12), .s (.val (.int .i64) t13), U, U, U, U, U, U, U, U, U, U, U, U, U, U, U, U, U, U, U, U, U, U, U, U, U, U, U, U, U, U, U, U, U, U, U, U, U, U, U, U, U, U, U, U, U, U, U, U, U, U, U, U, U, U, U, U, U, U, U, U, U, U, U, U, U, U, U, U, U, U, U, U, U, U, U, U, U, U, U], [(5, .arr 40 (TChange) o5), (8, .box (TAttr) o8)]⟩
noncomputable def patch_Diff_sh16 (t79 : den (LAttr)) (t80 : den (.int .i64)) (t81 : den (.int .i64)) (o5 : den (LChange)) : St := ⟨[U, U, U, U, U, .s (.arr 5), U, U, U, U, U, U, U, U, U, U, U, U, U, U, U, U, U, U, U, U, U, U, U, U, U, U, U, U, U, U, U, U, U, U, U, U, U, U, U, U, U, U, U, U, U, U, U, U, U, U, U, U, U, U, U, U, U, U, U, U, U, U, U, U, U, U, U, U, U, U, U, U, U, .s (.val (LAttr) t79), .s (.val (.int .i64) t80), .s (.val (.int .i64) t81), U, U, U, U, U, U, U, U, U, U, U], [(5, .arr 40 (TChange) o5)]⟩
noncomputable def patch_Diff_sh4 (t0 : den (LAttr)) (t6 : den (.int .i64)) (t11 : den (LAttr)) (t12 : den (.int .i64)) (t13 : den (.int .i64)) (o5 : den (LChange)) : St := ⟨[.s (.val (LAttr) t0), U, U, U, U, .s (.arr 5), .s (.val (.int .i64) t6), U, U, U, U, .s (.val (LAttr) t11), .s (.val (.int .i64) t12), .s (.val (.int .i64) t13), U, U, U, U, U, U, U, U, U, U, U, U, U, U, U, U, U, U, U, U, U, U, U, U, U, U, U, U, U, U, U, U, U, U, U, U, U, U, U, U, U, U, U, U, U, U, U, U, U, U, U, U, U, U, U, U, U, U, U, U, U, U, U, U, U, U, U, U, U, U, U, U, U, U, U, U, U, U, U], [(5, .arr 40 (TChange) o5)]⟩
noncomputable def patch_Diff_s6 (C_patch_change : den (TAttr) → Option (denR (.one (TChange))))  (LS4 : den (LAttr) → den (.int .i64) → den (LAttr) → den (.int .i64) → den (.int .i64) → den (LChange) → Option (denR (.one (LChange)))) (LS6 : den (LAttr) → den (.int .i64) → den (LAttr) → den (.int .i64) → den (.int .i64) → den (LChange) → den (TAttr) → Option (denR (.one (LChange)))) (t0 : den (LAttr)) (t6 : den (.int .i64)) (t11 : den (LAttr)) (t12 : den (.int .i64)) (t13 : den (.int .i64)) (o5 : den (LChange)) (o8 : den (TAttr)) : Option (denR (.one (LChange))) := (bif (decide (t6 < (t0.length : Int))) then (bif decide (0 ≤ t6) && decide (t6 < (t0.length : Int)) then (bif (decide ((t0.getD (Int.toNat t6) (dflt (TAttr))).1 < o8.1)) then (bif decide (0 ≤ t6) && decide (t6 < (t0.length : Int)) then (bif decide ((o5.length + ([((t0.getD (Int.toNat t6) (dflt (TAttr))).1, (true, (((0 : Int), ((0 : Int), ((0 : Int), ((⟨#[]⟩ : ByteArray), ())))), ())))] : List (den (TChange))).length) * 56 ≤ 140737488355328) then LS6 t0 (IntKind.wrap .i64 (t6 + (1 : Int))) t11 t12 t13 (o5 ++ ([((t0.getD (Int.toNat t6) (dflt (TAttr))).1, (true, (((0 : Int), ((0 : Int), ((0 : Int), ((⟨#[]⟩ : ByteArray), ())))), ())))] : List (den (TChange)))) o8 else none) else none) else (bif (decide (t6 < (t0.length : Int))) then (bif decide (0 ≤ t6) && decide (t6 < (t0.length : Int)) then (bif (decide ((t0.getD (Int.toNat t6) (dflt (TAttr))).1 = o8.1)) then (bif decide (0 ≤ t6) && decide (t6 < (t0.length : Int)) then (bif (!eqT (TValue) (((t0.getD (Int.toNat t6) (dflt (TAttr))).2).1) o8.2.1) then ((C_patch_change o8).bind fun r1 => (bif decide ((o5.length + ([r1] : List (den (TChange))).length) * 56 ≤ 140737488355328) then LS4 t0 (IntKind.wrap .i64 (t6 + (1 : Int))) t11 t12 (IntKind.wrap .i64 (t13 + (1 : Int))) (o5 ++ ([r1] : List (den (TChange)))) else none)) else LS4 t0 (IntKind.wrap .i64 (t6 + (1 : Int))) t11 t12 (IntKind.wrap .i64 (t13 + (1 : Int))) o5) else none) else ((C_patch_change o8).bind fun r2 => (bif decide ((o5.length + ([r2] : List (den (TChange))).length) * 56 ≤ 140737488355328) then LS4 t0 t6 t11 t12 (IntKind.wrap .i64 (t13 + (1 : Int))) (o5 ++ ([r2] : List (den (TChange)))) else none))) else none) else ((C_patch_change o8).bind fun r3 => (bif decide ((o5.length + ([r3] : List (den (TChange))).length) * 56 ≤ 140737488355328) then LS4 t0 t6 t11 t12 (IntKind.wrap .i64 (t13 + (1 : Int))) (o5 ++ ([r3] : List (den (TChange)))) else none)))) else none) else (bif (decide (t6 < (t0.length : Int))) then (bif decide (0 ≤ t6) && decide (t6 < (t0.length : Int)) then (bif (decide ((t0.getD (Int.toNat t6) (dflt (TAttr))).1 = o8.1)) then (bif decide (0 ≤ t6) && decide (t6 < (t0.length : Int)) then (bif (!eqT (TValue) (((t0.getD (Int.toNat t6) (dflt (TAttr))).2).1) o8.2.1) then ((C_patch_change o8).bind fun r4 => (bif decide ((o5.length + ([r4] : List (den (TChange))).length) * 56 ≤ 140737488355328) then LS4 t0 (IntKind.wrap .i64 (t6 + (1 : Int))) t11 t12 (IntKind.wrap .i64 (t13 + (1 : Int))) (o5 ++ ([r4] : List (den (TChange)))) else none)) else LS4 t0 (IntKind.wrap .i64 (t6 + (1 : Int))) t11 t12 (IntKind.wrap .i64 (t13 + (1 : Int))) o5) else none) else ((C_patch_change o8).bind fun r5 => (bif decide ((o5.length + ([r5] : List (den (TChange))).length) * 56 ≤ 140737488355328) then LS4 t0 t6 t11 t12 (IntKind.wrap .i64 (t13 + (1 : Int))) (o5 ++ ([r5] : List (den (TChange)))) else none))) else none) else ((C_patch_change o8).bind fun r6 => (bif decide ((o5.length + ([r6] : List (den (TChange))).length) * 56 ≤ 140737488355328) then LS4 t0 t6 t11 t12 (IntKind.wrap .i64 (t13 + (1 : Int))) (o5 ++ ([r6] : List (den (TChange)))) else none))))
noncomputable def patch_Diff_l6 (C_patch_change : den (TAttr) → Option (denR (.one (TChange)))) (n : Nat) (LS4 : den (LAttr) → den (.int .i64) → den (LAttr) → den (.int .i64) → den (.int .i64) → den (LChange) → Option (denR (.one (LChange)))) : Nat → den (LAttr) → den (.int .i64) → den (LAttr) → den (.int .i64) → den (.int .i64) → den (LChange) → den (TAttr) → Option (denR (.one (LChange)))
  | 0, _, _, _, _, _, _, _ => none
  | m + 1, t0, t6, t11, t12, t13, o5, o8 => patch_Diff_s6 C_patch_change  LS4 (fun (t0 : den (LAttr)) (t6 : den (.int .i64)) (t11 : den (LAttr)) (t12 : den (.int .i64)) (t13 : den (.int .i64)) (o5 : den (LChange)) (o8 : den (TAttr)) => patch_Diff_l6 C_patch_change n LS4 m t0 t6 t11 t12 t13 o5 o8) t0 t6 t11 t12 t13 o5 o8
noncomputable def patch_Diff_g6 (C_patch_change : den (TAttr) → Option (denR (.one (TChange))))  (LS4 : den (LAttr) → den (.int .i64) → den (LAttr) → den (.int .i64) → den (.int .i64) → den (LChange) → Option (denR (.one (LChange)))) : List (den (TAttr)) → den (LAttr) → den (.int .i64) → den (LAttr) → den (.int .i64) → den (.int .i64) → den (LChange) → den (TAttr) → Option (denR (.one (LChange)))
  | [], t0, t6, t11, t12, t13, o5, o8 => ((C_patch_change o8).bind fun r7 => (bif decide ((o5.length + ([r7] : List (den (TChange))).length) * 56 ≤ 140737488355328) then LS4 t0 t6 t11 t12 (IntKind.wrap .i64 (t13 + (1 : Int))) (o5 ++ ([r7] : List (den (TChange)))) else none))
  | x :: r, t0, t6, t11, t12, t13, o5, o8 => (bif (decide (x.1 < o8.1)) then (bif decide ((o5.length + ([(x.1, (true, (((0 : Int), ((0 : Int), ((0 : Int), ((⟨#[]⟩ : ByteArray), ())))), ())))] : List (den (TChange))).length) * 56 ≤ 140737488355328) then patch_Diff_g6 C_patch_change  LS4 r t0 (t6 + (1 : Int)) t11 t12 t13 (o5 ++ ([(x.1, (true, (((0 : Int), ((0 : Int), ((0 : Int), ((⟨#[]⟩ : ByteArray), ())))), ())))] : List (den (TChange)))) o8 else none) else (bif (decide (x.1 = o8.1)) then (bif (!eqT (TValue) x.2.1 o8.2.1) then ((C_patch_change o8).bind fun r8 => (bif decide ((o5.length + ([r8] : List (den (TChange))).length) * 56 ≤ 140737488355328) then LS4 t0 (t6 + (1 : Int)) t11 t12 (IntKind.wrap .i64 (t13 + (1 : Int))) (o5 ++ ([r8] : List (den (TChange)))) else none)) else LS4 t0 (t6 + (1 : Int)) t11 t12 (IntKind.wrap .i64 (t13 + (1 : Int))) o5) else ((C_patch_change o8).bind fun r9 => (bif decide ((o5.length + ([r9] : List (den (TChange))).length) * 56 ≤ 140737488355328) then LS4 t0 t6 t11 t12 (IntKind.wrap .i64 (t13 + (1 : Int))) (o5 ++ ([r9] : List (den (TChange)))) else none))))
theorem patch_Diff_l6_list (C_patch_change : den (TAttr) → Option (denR (.one (TChange)))) (n : Nat) (LS4 : den (LAttr) → den (.int .i64) → den (LAttr) → den (.int .i64) → den (.int .i64) → den (LChange) → Option (denR (.one (LChange)))) : ∀ (m i : Nat) (t0 : den (LAttr)) (t11 : den (LAttr)) (t12 : den (.int .i64)) (t13 : den (.int .i64)) (o5 : den (LChange)) (o8 : den (TAttr)), t0.length - i < m → i ≤ t0.length → t0.length < 4611686018427387904 → patch_Diff_l6 C_patch_change n LS4 m t0 (i : Int) t11 t12 t13 o5 o8 = patch_Diff_g6 C_patch_change  LS4 (t0.drop i) t0 (i : Int) t11 t12 t13 o5 o8 := by
  intro m
  induction m with
  | zero => intro i t0 t11 t12 t13 o5 o8 h1; omega
  | succ m ih =>
    intro i t0 t11 t12 t13 o5 o8 h1 h2 h3
    show patch_Diff_s6 C_patch_change  LS4 (fun (t0 : den (LAttr)) (t6 : den (.int .i64)) (t11 : den (LAttr)) (t12 : den (.int .i64)) (t13 : den (.int .i64)) (o5 : den (LChange)) (o8 : den (TAttr)) => patch_Diff_l6 C_patch_change n LS4 m t0 t6 t11 t12 t13 o5 o8) t0 (i : Int) t11 t12 t13 o5 o8 = _
    unfold patch_Diff_s6
    have b0 : decide ((0 : Int) ≤ (i : Int)) = true := decide_eq_true (by omega)
    rcases Nat.lt_or_ge i t0.length with hi | hi
    · have b1 : decide ((i : Int) < (t0.length : Int)) = true := decide_eq_true (by omega)
      have bw : IntKind.i64.wrap ((i : Int) + (1 : Int)) = ((i + 1 : Nat) : Int) := w64s (by omega)
      have ih' : ∀ (t11 : den (LAttr)) (t12 : den (.int .i64)) (t13 : den (.int .i64)) (o5 : den (LChange)) (o8 : den (TAttr)), patch_Diff_l6 C_patch_change n LS4 m t0 ((i + 1 : Nat) : Int) t11 t12 t13 o5 o8 = patch_Diff_g6 C_patch_change  LS4 (t0.drop (i + 1)) t0 ((i + 1 : Nat) : Int) t11 t12 t13 o5 o8 := fun t11 t12 t13 o5 o8 => ih (i + 1) t0 t11 t12 t13 o5 o8 (by omega) (by omega) h3
      simp only [b0, b1, bw, Bool.and_true, Bool.true_and, cond_true, Int.toNat_natCast, ih']
      rw [drop_getD hi (dflt (TAttr))]
      rfl
    · have b1 : decide ((i : Int) < (t0.length : Int)) = false := decide_eq_false (by omega)
      simp only [b1, cond_false]
      rw [List.drop_eq_nil_of_le hi]
      rfl
noncomputable def patch_Diff_F6 (call : Call0) (n : Nat) (r4 : St → Option (denR (.one (LChange)))) : (St → Option (denR (.one (LChange)))) → St → Option (denR (.one (LChange))) := fun rec => exec cfg call n 27 (cat B27 [1, 1, 1, 0, 1, 0, 0, 1, 1, 0, 0, 1, 0, 0, 0]) (kLoop rec (lk2 27 6 cfg.keep) (kBlock 2 (kSq (exec cfg call n 27 (cat B27 [1, 1, 1, 0, 1, 0, 0, 1, 1, 0, 0, 1, 1])) (kBlock 1 (kSq (exec cfg call n 27 (cat B27 [1, 1, 1, 0, 1, 0, 0, 1, 1, 1])) (kLoop r4 (lk2 27 4 cfg.keep) (kBlock 0 (kSq (exec cfg call n 27 (cat B27 [1, 1, 1, 1])) (kret cfg Go.Proofs.Tryd.f27 (.one (LChange)))))))))))
theorem patch_Diff_l6_eq (call : Call0) (n : Nat) (r4 : St → Option (denR (.one (LChange)))) : ∀ (m : Nat) (t0 : den (LAttr)) (t6 : den (.int .i64)) (t11 : den (LAttr)) (t12 : den (.int .i64)) (t13 : den (.int .i64)) (o5 : den (LChange)) (o8 : den (TAttr)), loopN (patch_Diff_F6 call n r4) m (patch_Diff_sh6 t0 t6 t11 t12 t13 o5 o8) = patch_Diff_l6 (fun (a0 : den (TAttr)) => call.p 59 [.s (.val (TAttr) a0)] (.one (TChange))) n (fun (t0 : den (LAttr)) (t6 : den (.int .i64)) (t11 : den (LAttr)) (t12 : den (.int .i64)) (t13 : den (.int .i64)) (o5 : den (LChange)) => r4 (patch_Diff_sh4 t0 t6 t11 t12 t13 o5)) m t0 t6 t11 t12 t13 o5 o8 := by
  intro m
  induction m with
  | zero => intros; rfl
  | succ m ih =>
    intro t0 t6 t11 t12 t13 o5 o8
    have h : loopN (patch_Diff_F6 call n r4) (m + 1) (patch_Diff_sh6 t0 t6 t11 t12 t13 o5 o8) = patch_Diff_s6 (fun (a0 : den (TAttr)) => call.p 59 [.s (.val (TAttr) a0)] (.one (TChange)))  (fun (t0 : den (LAttr)) (t6 : den (.int .i64)) (t11 : den (LAttr)) (t12 : den (.int .i64)) (t13 : den (.int .i64)) (o5 : den (LChange)) => r4 (patch_Diff_sh4 t0 t6 t11 t12 t13 o5)) (fun (t0 : den (LAttr)) (t6 : den (.int .i64)) (t11 : den (LAttr)) (t12 : den (.int .i64)) (t13 : den (.int .i64)) (o5 : den (LChange)) (o8 : den (TAttr)) => loopN (patch_Diff_F6 call n r4) m (patch_Diff_sh6 t0 t6 t11 t12 t13 o5 o8)) t0 t6 t11 t12 t13 o5 o8 := by kernel_rfl
    have e0 : (fun (t0 : den (LAttr)) (t6 : den (.int .i64)) (t11 : den (LAttr)) (t12 : den (.int .i64)) (t13 : den (.int .i64)) (o5 : den (LChange)) (o8 : den (TAttr)) => loopN (patch_Diff_F6 call n r4) m (patch_Diff_sh6 t0 t6 t11 t12 t13 o5 o8)) = (fun (t0 : den (LAttr)) (t6 : den (.int .i64)) (t11 : den (LAttr)) (t12 : den (.int .i64)) (t13 : den (.int .i64)) (o5 : den (LChange)) (o8 : den (TAttr)) => patch_Diff_l6 (fun (a0 : den (TAttr)) => call.p 59 [.s (.val (TAttr) a0)] (.one (TChange))) n (fun (t0 : den (LAttr)) (t6 : den (.int .i64)) (t11 : den (LAttr)) (t12 : den (.int .i64)) (t13 : den (.int .i64)) (o5 : den (LChange)) => r4 (patch_Diff_sh4 t0 t6 t11 t12 t13 o5)) m t0 t6 t11 t12 t13 o5 o8) := by funext t0 t6 t11 t12 t13 o5 o8; exact ih t0 t6 t11 t12 t13 o5 o8
    rw [h, e0]; rfl
noncomputable def patch_Diff_s16 (C_patch_change : den (TAttr) → Option (denR (.one (TChange))))   (LS16 : den (LAttr) → den (.int .i64) → den (.int .i64) → den (LChange) → Option (denR (.one (LChange)))) (t79 : den (LAttr)) (t80 : den (.int .i64)) (t81 : den (.int .i64)) (o5 : den (LChange)) : Option (denR (.one (LChange))) := (bif (decide (t81 < t80)) then (bif decide (0 ≤ t81) && decide (t81 < (t79.length : Int)) then (bif decide ((o5.length + ([((t79.getD (Int.toNat t81) (dflt (TAttr))).1, (true, (((0 : Int), ((0 : Int), ((0 : Int), ((⟨#[]⟩ : ByteArray), ())))), ())))] : List (den (TChange))).length) * 56 ≤ 140737488355328) then LS16 t79 t80 (IntKind.wrap .i64 (t81 + (1 : Int))) (o5 ++ ([((t79.getD (Int.toNat t81) (dflt (TAttr))).1, (true, (((0 : Int), ((0 : Int), ((0 : Int), ((⟨#[]⟩ : ByteArray), ())))), ())))] : List (den (TChange)))) else none) else none) else some o5)
noncomputable def patch_Diff_l16 (C_patch_change : den (TAttr) → Option (denR (.one (TChange)))) (n : Nat)  : Nat → den (LAttr) → den (.int .i64) → den (.int .i64) → den (LChange) → Option (denR (.one (LChange)))
  | 0, _, _, _, _ => none
  | m + 1, t79, t80, t81, o5 => patch_Diff_s16 C_patch_change   (fun (t79 : den (LAttr)) (t80 : den (.int .i64)) (t81 : den (.int .i64)) (o5 : den (LChange)) => patch_Diff_l16 C_patch_change n  m t79 t80 t81 o5) t79 t80 t81 o5
noncomputable def patch_Diff_g16 (C_patch_change : den (TAttr) → Option (denR (.one (TChange))))   : List (den (TAttr)) → den (LChange) → Option (denR (.one (LChange)))
  | [], o5 => some o5
  | x :: r, o5 => (bif decide ((o5.length + ([(x.1, (true, (((0 : Int), ((0 : Int), ((0 : Int), ((⟨#[]⟩ : ByteArray), ())))), ())))] : List (den (TChange))).length) * 56 ≤ 140737488355328) then patch_Diff_g16 C_patch_change   r (o5 ++ ([(x.1, (true, (((0 : Int), ((0 : Int), ((0 : Int), ((⟨#[]⟩ : ByteArray), ())))), ())))] : List (den (TChange)))) else none)
theorem patch_Diff_l16_list (C_patch_change : den (TAttr) → Option (denR (.one (TChange)))) (n : Nat)  : ∀ (m i : Nat) (t79 : den (LAttr)) (o5 : den (LChange)), t79.length - i < m → i ≤ t79.length → t79.length < 4611686018427387904 → patch_Diff_l16 C_patch_change n  m t79 (t79.length : Int) (i : Int) o5 = patch_Diff_g16 C_patch_change   (t79.drop i) o5 := by
  intro m
  induction m with
  | zero => intro i t79 o5 h1; omega
  | succ m ih =>
    intro i t79 o5 h1 h2 h3
    show patch_Diff_s16 C_patch_change   (fun (t79 : den (LAttr)) (t80 : den (.int .i64)) (t81 : den (.int .i64)) (o5 : den (LChange)) => patch_Diff_l16 C_patch_change n  m t79 t80 t81 o5) t79 (t79.length : Int) (i : Int) o5 = _
    unfold patch_Diff_s16
    have b0 : decide ((0 : Int) ≤ (i : Int)) = true := decide_eq_true (by omega)
    rcases Nat.lt_or_ge i t79.length with hi | hi
    · have b1 : decide ((i : Int) < (t79.length : Int)) = true := decide_eq_true (by omega)
      have bw : IntKind.i64.wrap ((i : Int) + (1 : Int)) = ((i + 1 : Nat) : Int) := w64s (by omega)
      have ih' : ∀ (o5 : den (LChange)), patch_Diff_l16 C_patch_change n  m t79 (t79.length : Int) ((i + 1 : Nat) : Int) o5 = patch_Diff_g16 C_patch_change   (t79.drop (i + 1)) o5 := fun o5 => ih (i + 1) t79 o5 (by omega) (by omega) h3
      simp only [b0, b1, bw, Bool.and_true, Bool.true_and, cond_true, Int.toNat_natCast, ih']
      rw [drop_getD hi (dflt (TAttr))]
      rfl
    · have b1 : decide ((i : Int) < (t79.length : Int)) = false := decide_eq_false (by omega)
      simp only [b1, cond_false]
      rw [List.drop_eq_nil_of_le hi]
      rfl
noncomputable def patch_Diff_F16 (call : Call0) (n : Nat)  : (St → Option (denR (.one (LChange)))) → St → Option (denR (.one (LChange))) := fun rec => exec cfg call n 27 (cat B27 [1, 1, 1, 1, 0, 1, 0, 0]) (kLoop rec (lk2 27 16 cfg.keep) (kBlock 4 (kSq (exec cfg call n 27 (cat B27 [1, 1, 1, 1, 1])) (kret cfg Go.Proofs.Tryd.f27 (.one (LChange))))))
theorem patch_Diff_l16_eq (call : Call0) (n : Nat)  : ∀ (m : Nat) (t79 : den (LAttr)) (t80 : den (.int .i64)) (t81 : den (.int .i64)) (o5 : den (LChange)), loopN (patch_Diff_F16 call n ) m (patch_Diff_sh16 t79 t80 t81 o5) = patch_Diff_l16 (fun (a0 : den (TAttr)) => call.p 59 [.s (.val (TAttr) a0)] (.one (TChange))) n  m t79 t80 t81 o5 := by
  intro m
  induction m with
  | zero => intros; rfl
  | succ m ih =>
    intro t79 t80 t81 o5
    have h : loopN (patch_Diff_F16 call n ) (m + 1) (patch_Diff_sh16 t79 t80 t81 o5) = patch_Diff_s16 (fun (a0 : den (TAttr)) => call.p 59 [.s (.val (TAttr) a0)] (.one (TChange)))   (fun (t79 : den (LAttr)) (t80 : den (.int .i64)) (t81 : den (.int .i64)) (o5 : den (LChange)) => loopN (patch_Diff_F16 call n ) m (patch_Diff_sh16 t79 t80 t81 o5)) t79 t80 t81 o5 := by kernel_rfl
    have e0 : (fun (t79 : den (LAttr)) (t80 : den (.int .i64)) (t81 : den (.int .i64)) (o5 : den (LChange)) => loopN (patch_Diff_F16 call n ) m (patch_Diff_sh16 t79 t80 t81 o5)) = (fun (t79 : den (LAttr)) (t80 : den (.int .i64)) (t81 : den (.int .i64)) (o5 : den (LChange)) => patch_Diff_l16 (fun (a0 : den (TAttr)) => call.p 59 [.s (.val (TAttr) a0)] (.one (TChange))) n  m t79 t80 t81 o5) := by funext t79 t80 t81 o5; exact ih t79 t80 t81 o5
    rw [h, e0]; rfl
noncomputable def patch_Diff_s4 (C_patch_change : den (TAttr) → Option (denR (.one (TChange)))) (LL6 : den (LAttr) → den (.int .i64) → den (LAttr) → den (.int .i64) → den (.int .i64) → den (LChange) → den (TAttr) → Option (denR (.one (LChange)))) (LL16 : den (LAttr) → den (.int .i64) → den (.int .i64) → den (LChange) → Option (denR (.one (LChange))))  (LS4 : den (LAttr) → den (.int .i64) → den (LAttr) → den (.int .i64) → den (.int .i64) → den (LChange) → Option (denR (.one (LChange)))) (t0 : den (LAttr)) (t6 : den (.int .i64)) (t11 : den (LAttr)) (t12 : den (.int .i64)) (t13 : den (.int .i64)) (o5 : den (LChange)) : Option (denR (.one (LChange))) := (bif (decide (t13 < t12)) then (bif decide (0 ≤ t13) && decide (t13 < (t11.length : Int)) then LL6 t0 t6 t11 t12 t13 o5 (t11.getD (Int.toNat t13) (dflt (TAttr))) else none) else (bif decide (0 ≤ t6) && decide (t6 ≤ (t0.length : Int)) && decide ((t0.length : Int) ≤ (t0.length : Int)) then LL16 (t0.drop (Int.toNat t6)) ((t0.drop (Int.toNat t6)).length : Int) (0 : Int) o5 else none))
noncomputable def patch_Diff_l4 (C_patch_change : den (TAttr) → Option (denR (.one (TChange)))) (n : Nat)  : Nat → den (LAttr) → den (.int .i64) → den (LAttr) → den (.int .i64) → den (.int .i64) → den (LChange) → Option (denR (.one (LChange)))
  | 0, _, _, _, _, _, _ => none
  | m + 1, t0, t6, t11, t12, t13, o5 => patch_Diff_s4 C_patch_change (patch_Diff_l6 C_patch_change n (fun (t0 : den (LAttr)) (t6 : den (.int .i64)) (t11 : den (LAttr)) (t12 : den (.int .i64)) (t13 : den (.int .i64)) (o5 : den (LChange)) => patch_Diff_l4 C_patch_change n  m t0 t6 t11 t12 t13 o5) n) (patch_Diff_l16 C_patch_change n  n)  (fun (t0 : den (LAttr)) (t6 : den (.int .i64)) (t11 : den (LAttr)) (t12 : den (.int .i64)) (t13 : den (.int .i64)) (o5 : den (LChange)) => patch_Diff_l4 C_patch_change n  m t0 t6 t11 t12 t13 o5) t0 t6 t11 t12 t13 o5
noncomputable def patch_Diff_F4 (call : Call0) (n : Nat)  : (St → Option (denR (.one (LChange)))) → St → Option (denR (.one (LChange))) := fun rec => exec cfg call n 27 (cat B27 [1, 1, 1, 0, 1, 0, 0]) (kLoop rec (lk2 27 4 cfg.keep) (kBlock 0 (kSq (exec cfg call n 27 (cat B27 [1, 1, 1, 1])) (kret cfg Go.Proofs.Tryd.f27 (.one (LChange))))))
theorem patch_Diff_l4_eq (call : Call0) (n : Nat)  : ∀ (m : Nat) (t0 : den (LAttr)) (t6 : den (.int .i64)) (t11 : den (LAttr)) (t12 : den (.int .i64)) (t13 : den (.int .i64)) (o5 : den (LChange)), loopN (patch_Diff_F4 call n ) m (patch_Diff_sh4 t0 t6 t11 t12 t13 o5) = patch_Diff_l4 (fun (a0 : den (TAttr)) => call.p 59 [.s (.val (TAttr) a0)] (.one (TChange))) n  m t0 t6 t11 t12 t13 o5 := by
  intro m
  induction m with
  | zero => intros; rfl
  | succ m ih =>
    intro t0 t6 t11 t12 t13 o5
    have h : loopN (patch_Diff_F4 call n ) (m + 1) (patch_Diff_sh4 t0 t6 t11 t12 t13 o5) = patch_Diff_s4 (fun (a0 : den (TAttr)) => call.p 59 [.s (.val (TAttr) a0)] (.one (TChange))) (fun (t0 : den (LAttr)) (t6 : den (.int .i64)) (t11 : den (LAttr)) (t12 : den (.int .i64)) (t13 : den (.int .i64)) (o5 : den (LChange)) (o8 : den (TAttr)) => loopN (patch_Diff_F6 call n (loopN (patch_Diff_F4 call n ) m)) n (patch_Diff_sh6 t0 t6 t11 t12 t13 o5 o8)) (fun (t79 : den (LAttr)) (t80 : den (.int .i64)) (t81 : den (.int .i64)) (o5 : den (LChange)) => loopN (patch_Diff_F16 call n ) n (patch_Diff_sh16 t79 t80 t81 o5))  (fun (t0 : den (LAttr)) (t6 : den (.int .i64)) (t11 : den (LAttr)) (t12 : den (.int .i64)) (t13 : den (.int .i64)) (o5 : den (LChange)) => loopN (patch_Diff_F4 call n ) m (patch_Diff_sh4 t0 t6 t11 t12 t13 o5)) t0 t6 t11 t12 t13 o5 := by kernel_rfl
    have e6 : (fun (t0 : den (LAttr)) (t6 : den (.int .i64)) (t11 : den (LAttr)) (t12 : den (.int .i64)) (t13 : den (.int .i64)) (o5 : den (LChange)) (o8 : den (TAttr)) => loopN (patch_Diff_F6 call n (loopN (patch_Diff_F4 call n ) m)) n (patch_Diff_sh6 t0 t6 t11 t12 t13 o5 o8)) = patch_Diff_l6 (fun (a0 : den (TAttr)) => call.p 59 [.s (.val (TAttr) a0)] (.one (TChange))) n (fun (t0 : den (LAttr)) (t6 : den (.int .i64)) (t11 : den (LAttr)) (t12 : den (.int .i64)) (t13 : den (.int .i64)) (o5 : den (LChange)) => (loopN (patch_Diff_F4 call n ) m) (patch_Diff_sh4 t0 t6 t11 t12 t13 o5)) n := by funext t0 t6 t11 t12 t13 o5 o8; exact patch_Diff_l6_eq call n (loopN (patch_Diff_F4 call n ) m) n t0 t6 t11 t12 t13 o5 o8
    have e16 : (fun (t79 : den (LAttr)) (t80 : den (.int .i64)) (t81 : den (.int .i64)) (o5 : den (LChange)) => loopN (patch_Diff_F16 call n ) n (patch_Diff_sh16 t79 t80 t81 o5)) = patch_Diff_l16 (fun (a0 : den (TAttr)) => call.p 59 [.s (.val (TAttr) a0)] (.one (TChange))) n  n := by funext t79 t80 t81 o5; exact patch_Diff_l16_eq call n  n t79 t80 t81 o5
    have e0 : (fun (t0 : den (LAttr)) (t6 : den (.int .i64)) (t11 : den (LAttr)) (t12 : den (.int .i64)) (t13 : den (.int .i64)) (o5 : den (LChange)) => loopN (patch_Diff_F4 call n ) m (patch_Diff_sh4 t0 t6 t11 t12 t13 o5)) = (fun (t0 : den (LAttr)) (t6 : den (.int .i64)) (t11 : den (LAttr)) (t12 : den (.int .i64)) (t13 : den (.int .i64)) (o5 : den (LChange)) => patch_Diff_l4 (fun (a0 : den (TAttr)) => call.p 59 [.s (.val (TAttr) a0)] (.one (TChange))) n  m t0 t6 t11 t12 t13 o5) := by funext t0 t6 t11 t12 t13 o5; exact ih t0 t6 t11 t12 t13 o5
    rw [h, e6, e16, e0]; rfl
noncomputable def patch_Diff_top (C_patch_change : den (TAttr) → Option (denR (.one (TChange)))) (LL4 : den (LAttr) → den (.int .i64) → den (LAttr) → den (.int .i64) → den (.int .i64) → den (LChange) → Option (denR (.one (LChange)))) (a0 : den (LAttr)) (a1 : den (LAttr)) : Option (denR (.one (LChange))) := LL4 a0 (0 : Int) a1 (a1.length : Int) (0 : Int) []
noncomputable def patch_Diff : Nat → den (LAttr) → den (LAttr) → Option (denR (.one (LChange)))
  | 0, _, _ => none
  | n + 1, a0, a1 => patch_Diff_top (patch_change n) (patch_Diff_l4 (patch_change n) n n) a0 a1
theorem patch_Diff_eq (n : Nat) (a0 : den (LAttr)) (a1 : den (LAttr)) : (acalls cfg intr intrI n).p 27 [.s (.val (LAttr) a0), .s (.val (LAttr) a1)] (.one (LChange)) = patch_Diff n a0 a1 := by
  cases n with
  | zero => rfl
  | succ n =>
    have h : (acalls cfg intr intrI (n + 1)).p 27 [.s (.val (LAttr) a0), .s (.val (LAttr) a1)] (.one (LChange)) = patch_Diff_top (fun (a0 : den (TAttr)) => (acalls cfg intr intrI n).p 59 [.s (.val (TAttr) a0)] (.one (TChange))) (fun (t0 : den (LAttr)) (t6 : den (.int .i64)) (t11 : den (LAttr)) (t12 : den (.int .i64)) (t13 : den (.int .i64)) (o5 : den (LChange)) => loopN (patch_Diff_F4 (acalls cfg intr intrI n) n) n (patch_Diff_sh4 t0 t6 t11 t12 t13 o5)) a0 a1 := by kernel_rfl
    have e4 : (fun (t0 : den (LAttr)) (t6 : den (.int .i64)) (t11 : den (LAttr)) (t12 : den (.int .i64)) (t13 : den (.int .i64)) (o5 : den (LChange)) => loopN (patch_Diff_F4 (acalls cfg intr intrI n) n) n (patch_Diff_sh4 t0 t6 t11 t12 t13 o5)) = patch_Diff_l4 (fun (a0 : den (TAttr)) => (acalls cfg intr intrI n).p 59 [.s (.val (TAttr) a0)] (.one (TChange))) n n := by funext t0 t6 t11 t12 t13 o5; exact patch_Diff_l4_eq (acalls cfg intr intrI n) n n t0 t6 t11 t12 t13 o5
    have c_patch_change : (fun (a0 : den (TAttr)) => (acalls cfg intr intrI n).p 59 [.s (.val (TAttr) a0)] (.one (TChange))) = patch_change n := by funext a0; exact patch_change_eq n a0
    rw [h, e4, c_patch_change]; rfl

noncomputable def B58 : Code := (Go.Proofs.Tryd.f58.body).getD .skip
noncomputable def slices_Equal_Change_sh4 (s1t0 : den (LChange)) (s2t1 : den (LChange)) (t12 : den (.int .i64)) (t13 : den (.int .i64)) : St := ⟨[.s (.val (LChange) s1t0), .s (.val (LChange) s2t1), U, U, U, U, U, U, U, U, U, U, .s (.val (.int .i64) t12), .s (.val (.int .i64) t13), U, U, U, U, U, U, U, U, U, U, U, U], []⟩
noncomputable def slices_Equal_Change_s4    (LS4 : den (LChange) → den (LChange) → den (.int .i64) → den (.int .i64) → Option (denR (.one (.bool)))) (s1t0 : den (LChange)) (s2t1 : den (LChange)) (t12 : den (.int .i64)) (t13 : den (.int .i64)) : Option (denR (.one (.bool))) := (bif (decide (t13 < t12)) then (bif decide (0 ≤ t13) && decide (t13 < (s1t0.length : Int)) then (bif decide (0 ≤ t13) && decide (t13 < (s2t1.length : Int)) then (bif (!eqT (TChange) (s1t0.getD (Int.toNat t13) (dflt (TChange))) (s2t1.getD (Int.toNat t13) (dflt (TChange)))) then some false else LS4 s1t0 s2t1 t12 (IntKind.wrap .i64 (t13 + (1 : Int)))) else none) else none) else some true)
noncomputable def slices_Equal_Change_l4  (n : Nat)  : Nat → den (LChange) → den (LChange) → den (.int .i64) → den (.int .i64) → Option (denR (.one (.bool)))
  | 0, _, _, _, _ => none
  | m + 1, s1t0, s2t1, t12, t13 => slices_Equal_Change_s4    (fun (s1t0 : den (LChange)) (s2t1 : den (LChange)) (t12 : den (.int .i64)) (t13 : den (.int .i64)) => slices_Equal_Change_l4  n  m s1t0 s2t1 t12 t13) s1t0 s2t1 t12 t13
noncomputable def slices_Equal_Change_g4    : List (den (TChange)) → den (LChange) → den (.int .i64) → Option (denR (.one (.bool)))
  | [], s2t1, t13 => some true
  | x :: r, s2t1, t13 => (bif decide (0 ≤ t13) && decide (t13 < (s2t1.length : Int)) then (bif (!eqT (TChange) x (s2t1.getD (Int.toNat t13) (dflt (TChange)))) then some false else slices_Equal_Change_g4    r s2t1 (t13 + (1 : Int))) else none)
theorem slices_Equal_Change_l4_list  (n : Nat)  : ∀ (m i : Nat) (s1t0 : den (LChange)) (s2t1 : den (LChange)), s1t0.length - i < m → i ≤ s1t0.length → s1t0.length < 4611686018427387904 → slices_Equal_Change_l4  n  m s1t0 s2t1 (s1t0.length : Int) (i : Int) = slices_Equal_Change_g4    (s1t0.drop i) s2t1 (i : Int) := by
  intro m
  induction m with
  | zero => intro i s1t0 s2t1 h1; omega
  | succ m ih =>
    intro i s1t0 s2t1 h1 h2 h3
    show slices_Equal_Change_s4    (fun (s1t0 : den (LChange)) (s2t1 : den (LChange)) (t12 : den (.int .i64)) (t13 : den (.int .i64)) => slices_Equal_Change_l4  n  m s1t0 s2t1 t12 t13) s1t0 s2t1 (s1t0.length : Int) (i : Int) = _
    unfold slices_Equal_Change_s4
    have b0 : decide ((0 : Int) ≤ (i : Int)) = true := decide_eq_true (by omega)
    rcases Nat.lt_or_ge i s1t0.length with hi | hi
    · have b1 : decide ((i : Int) < (s1t0.length : Int)) = true := decide_eq_true (by omega)
      have bw : IntKind.i64.wrap ((i : Int) + (1 : Int)) = ((i + 1 : Nat) : Int) := w64s (by omega)
      have ih' : ∀ (s2t1 : den (LChange)), slices_Equal_Change_l4  n  m s1t0 s2t1 (s1t0.length : Int) ((i + 1 : Nat) : Int) = slices_Equal_Change_g4    (s1t0.drop (i + 1)) s2t1 ((i + 1 : Nat) : Int) := fun s2t1 => ih (i + 1) s1t0 s2t1 (by omega) (by omega) h3
      simp only [b0, b1, bw, Bool.and_true, Bool.true_and, cond_true, Int.toNat_natCast, ih']
      rw [drop_getD hi (dflt (TChange))]
      rfl
    · have b1 : decide ((i : Int) < (s1t0.length : Int)) = false := decide_eq_false (by omega)
      simp only [b1, cond_false]
      rw [List.drop_eq_nil_of_le hi]
      rfl
noncomputable def slices_Equal_Change_F4 (call : Call0) (n : Nat)  : (St → Option (denR (.one (.bool)))) → St → Option (denR (.one (.bool))) := fun rec => exec cfg call n 58 (cat B58 [1, 1, 0, 1, 0, 0]) (kLoop rec (lk2 58 4 cfg.keep) (kBlock 0 (kSq (exec cfg call n 58 (cat B58 [1, 1, 1])) (kret cfg Go.Proofs.Tryd.f58 (.one (.bool))))))
theorem slices_Equal_Change_l4_eq (call : Call0) (n : Nat)  : ∀ (m : Nat) (s1t0 : den (LChange)) (s2t1 : den (LChange)) (t12 : den (.int .i64)) (t13 : den (.int .i64)), loopN (slices_Equal_Change_F4 call n ) m (slices_Equal_Change_sh4 s1t0 s2t1 t12 t13) = slices_Equal_Change_l4  n  m s1t0 s2t1 t12 t13 := by
  intro m
  induction m with
  | zero => intros; rfl
  | succ m ih =>
    intro s1t0 s2t1 t12 t13
    have h : loopN (slices_Equal_Change_F4 call n ) (m + 1) (slices_Equal_Change_sh4 s1t0 s2t1 t12 t13) = slices_Equal_Change_s4    (fun (s1t0 : den (LChange)) (s2t1 : den (LChange)) (t12 : den (.int .i64)) (t13 : den (.int .i64)) => loopN (slices_Equal_Change_F4 call n ) m (slices_Equal_Change_sh4 s1t0 s2t1 t12 t13)) s1t0 s2t1 t12 t13 := by kernel_rfl
    have e0 : (fun (s1t0 : den (LChange)) (s2t1 : den (LChange)) (t12 : den (.int .i64)) (t13 : den (.int .i64)) => loopN (slices_Equal_Change_F4 call n ) m (slices_Equal_Change_sh4 s1t0 s2t1 t12 t13)) = (fun (s1t0 : den (LChange)) (s2t1 : den (LChange)) (t12 : den (.int .i64)) (t13 : den (.int .i64)) => slices_Equal_Change_l4  n  m s1t0 s2t1 t12 t13) := by funext s1t0 s2t1 t12 t13; exact ih s1t0 s2t1 t12 t13
    rw [h, e0]; rfl
noncomputable def slices_Equal_Change_top  (LL4 : den (LChange) → den (LChange) → den (.int .i64) → den (.int .i64) → Option (denR (.one (.bool)))) (a0 : den (LChange)) (a1 : den (LChange)) : Option (denR (.one (.bool))) := (bif ((!decide ((a0.length : Int) = (a1.length : Int)))) then some false else LL4 a0 a1 (a0.length : Int) (0 : Int))
noncomputable def slices_Equal_Change : Nat → den (LChange) → den (LChange) → Option (denR (.one (.bool)))
  | 0, _, _ => none
  | n + 1, a0, a1 => slices_Equal_Change_top  (slices_Equal_Change_l4  n n) a0 a1
theorem slices_Equal_Change_eq (n : Nat) (a0 : den (LChange)) (a1 : den (LChange)) : (acalls cfg intr intrI n).p 58 [.s (.val (LChange) a0), .s (.val (LChange) a1)] (.one (.bool)) = slices_Equal_Change n a0 a1 := by
  cases n with
  | zero => rfl
  | succ n =>
    have h : (acalls cfg intr intrI (n + 1)).p 58 [.s (.val (LChange) a0), .s (.val (LChange) a1)] (.one (.bool)) = slices_Equal_Change_top  (fun (s1t0 : den (LChange)) (s2t1 : den (LChange)) (t12 : den (.int .i64)) (t13 : den (.int .i64)) => loopN (slices_Equal_Change_F4 (acalls cfg intr intrI n) n) n (slices_Equal_Change_sh4 s1t0 s2t1 t12 t13)) a0 a1 := by kernel_rfl
    have e4 : (fun (s1t0 : den (LChange)) (s2t1 : den (LChange)) (t12 : den (.int .i64)) (t13 : den (.int .i64)) => loopN (slices_Equal_Change_F4 (acalls cfg intr intrI n) n) n (slices_Equal_Change_sh4 s1t0 s2t1 t12 t13)) = slices_Equal_Change_l4  n n := by funext s1t0 s2t1 t12 t13; exact slices_Equal_Change_l4_eq (acalls cfg intr intrI n) n n s1t0 s2t1 t12 t13
    rw [h, e4]; rfl

noncomputable def patch_Same_top (C_slices_Equal_Change : den (LChange) → den (LChange) → Option (denR (.one (.bool))))  (a0 : den (LChange)) (a1 : den (LChange)) : Option (denR (.one (.bool))) := ((C_slices_Equal_Change a0 a1).bind fun r1 => some r1)
noncomputable def patch_Same : Nat → den (LChange) → den (LChange) → Option (denR (.one (.bool)))
  | 0, _, _ => none
  | n + 1, a0, a1 => patch_Same_top (slices_Equal_Change n)  a0 a1
theorem patch_Same_eq (n : Nat) (a0 : den (LChange)) (a1 : den (LChange)) : (acalls cfg intr intrI n).p 21 [.s (.val (LChange) a0), .s (.val (LChange) a1)] (.one (.bool)) = patch_Same n a0 a1 := by
  cases n with
  | zero => rfl
  | succ n =>
    have h : (acalls cfg intr intrI (n + 1)).p 21 [.s (.val (LChange) a0), .s (.val (LChange) a1)] (.one (.bool)) = patch_Same_top (fun (a0 : den (LChange)) (a1 : den (LChange)) => (acalls cfg intr intrI n).p 58 [.s (.val (LChange) a0), .s (.val (LChange) a1)] (.one (.bool)))  a0 a1 := by kernel_rfl
    have c_slices_Equal_Change : (fun (a0 : den (LChange)) (a1 : den (LChange)) => (acalls cfg intr intrI n).p 58 [.s (.val (LChange) a0), .s (.val (LChange) a1)] (.one (.bool))) = slices_Equal_Change n := by funext a0 a1; exact slices_Equal_Change_eq n a0 a1
    rw [h, c_slices_Equal_Change]; rfl

noncomputable def B15 : Code := (Go.Proofs.Tryd.f15.body).getD .skip
noncomputable def patch_Apply_sh6 (t0 : den (LAttr)) (t6 : den (.int .i64)) (t9 : den (LChange)) (t10 : den (.int .i64)) (t11 : den (.int .i64)) (o5 : den (LAttr)) (o8 : den (TChange)) : St := ⟨[.s (.val (LAttr) t0), U, U, U, U, .s (.arr 5), .s (.val (.int .i64) t6), U, .s (.ref 8 []), .s (.val (LChange) t9), .s (.val (.int .i64) t10), .s (.val (.int .i64) t11), U, U, U, U, U, U, U, U, U, U, U, U, U, U, U, U, U, U, U, U, U, U, U, U, U, U, U, U, U, U, U, U, U, U, U, U, U, U, U, U, U, U, U, U, U, U, U, U, U, U, U, U, U, U, U, U, U, U, U, U, U, U, U, U], [(5, .arr 44 (TAttr) o5), (8, .box (TChange) o8)]⟩
noncomputable def patch_Apply_sh4 (t0 : den (LAttr)) (t6 : den (.int .i64)) (t9 : den (LChange)) (t10 : den (.int .i64)) (t11 : den (.int .i64)) (o5 : den (LAttr)) : St := ⟨[.s (.val (LAttr) t0), U, U, U, U, .s (.arr 5), .s (.val (.int .i64) t6), U, U, .s (.val (LChange) t9), .s (.val (.int .i64) t10), .s (.val (.int .i64) t11), U, U, U, U, U, U, U, U, U, U, U, U, U, U, U, U, U, U, U, U, U, U, U, U, U, U, U, U, U, U, U, U, U, U, U, U, U, U, U, U, U, U, U, U, U, U, U, U, U, U, U, U, U, U, U, U, U, U, U, U, U, U, U, U], [(5, .arr 44 (TAttr) o5)]⟩
noncomputable def patch_Apply_s6   (LS4 : den (LAttr) → den (.int .i64) → den (LChange) → den (.int .i64) → den (.int .i64) → den (LAttr) → Option (denR (.one (LAttr)))) (LS6 : den (LAttr) → den (.int .i64) → den (LChange) → den (.int .i64) → den (.int .i64) → den (LAttr) → den (TChange) → Option (denR (.one (LAttr)))) (t0 : den (LAttr)) (t6 : den (.int .i64)) (t9 : den (LChange)) (t10 : den (.int .i64)) (t11 : den (.int .i64)) (o5 : den (LAttr)) (o8 : den (TChange)) : Option (denR (.one (LAttr))) := (bif (decide (t6 < (t0.length : Int))) then (bif decide (0 ≤ t6) && decide (t6 < (t0.length : Int)) then (bif (decide ((t0.getD (Int.toNat t6) (dflt (TAttr))).1 < o8.1)) then (bif decide (0 ≤ t6) && decide (t6 < (t0.length : Int)) then (bif decide ((o5.length + ([(t0.getD (Int.toNat t6) (dflt (TAttr)))] : List (den (TAttr))).length) * 48 ≤ 140737488355328) then LS6 t0 (IntKind.wrap .i64 (t6 + (1 : Int))) t9 t10 t11 (o5 ++ ([(t0.getD (Int.toNat t6) (dflt (TAttr)))] : List (den (TAttr)))) o8 else none) else none) else (bif decide (0 ≤ t6) && decide (t6 < (t0.length : Int)) then (bif (decide ((t0.getD (Int.toNat t6) (dflt (TAttr))).1 = o8.1)) then (bif (!o8.2.1) then (bif decide ((o5.length + ([(o8.1, (o8.2.2.1, ()))] : List (den (TAttr))).length) * 48 ≤ 140737488355328) then LS4 t0 (IntKind.wrap .i64 (t6 + (1 : Int))) t9 t10 (IntKind.wrap .i64 (t11 + (1 : Int))) (o5 ++ ([(o8.1, (o8.2.2.1, ()))] : List (den (TAttr)))) else none) else LS4 t0 (IntKind.wrap .i64 (t6 + (1 : Int))) t9 t10 (IntKind.wrap .i64 (t11 + (1 : Int))) o5) else (bif (!o8.2.1) then (bif decide ((o5.length + ([(o8.1, (o8.2.2.1, ()))] : List (den (TAttr))).length) * 48 ≤ 140737488355328) then LS4 t0 t6 t9 t10 (IntKind.wrap .i64 (t11 + (1 : Int))) (o5 ++ ([(o8.1, (o8.2.2.1, ()))] : List (den (TAttr)))) else none) else LS4 t0 t6 t9 t10 (IntKind.wrap .i64 (t11 + (1 : Int))) o5)) else none)) else none) else (bif (!o8.2.1) then (bif decide ((o5.length + ([(o8.1, (o8.2.2.1, ()))] : List (den (TAttr))).length) * 48 ≤ 140737488355328) then LS4 t0 t6 t9 t10 (IntKind.wrap .i64 (t11 + (1 : Int))) (o5 ++ ([(o8.1, (o8.2.2.1, ()))] : List (den (TAttr)))) else none) else LS4 t0 t6 t9 t10 (IntKind.wrap .i64 (t11 + (1 : Int))) o5))
noncomputable def patch_Apply_l6  (n : Nat) (LS4 : den (LAttr) → den (.int .i64) → den (LChange) → den (.int .i64) → den (.int .i64) → den (LAttr) → Option (denR (.one (LAttr)))) : Nat → den (LAttr) → den (.int .i64) → den (LChange) → den (.int .i64) → den (.int .i64) → den (LAttr) → den (TChange) → Option (denR (.one (LAttr)))
  | 0, _, _, _, _, _, _, _ => none
  | m + 1, t0, t6, t9, t10, t11, o5, o8 => patch_Apply_s6   LS4 (fun (t0 : den (LAttr)) (t6 : den (.int .i64)) (t9 : den (LChange)) (t10 : den (.int .i64)) (t11 : den (.int .i64)) (o5 : den (LAttr)) (o8 : den (TChange)) => patch_Apply_l6  n LS4 m t0 t6 t9 t10 t11 o5 o8) t0 t6 t9 t10 t11 o5 o8
noncomputable def patch_Apply_g6   (LS4 : den (LAttr) → den (.int .i64) → den (LChange) → den (.int .i64) → den (.int .i64) → den (LAttr) → Option (denR (.one (LAttr)))) : List (den (TAttr)) → den (LAttr) → den (.int .i64) → den (LChange) → den (.int .i64) → den (.int .i64) → den (LAttr) → den (TChange) → Option (denR (.one (LAttr)))
  | [], t0, t6, t9, t10, t11, o5, o8 => (bif (!o8.2.1) then (bif decide ((o5.length + ([(o8.1, (o8.2.2.1, ()))] : List (den (TAttr))).length) * 48 ≤ 140737488355328) then LS4 t0 t6 t9 t10 (IntKind.wrap .i64 (t11 + (1 : Int))) (o5 ++ ([(o8.1, (o8.2.2.1, ()))] : List (den (TAttr)))) else none) else LS4 t0 t6 t9 t10 (IntKind.wrap .i64 (t11 + (1 : Int))) o5)
  | x :: r, t0, t6, t9, t10, t11, o5, o8 => (bif (decide (x.1 < o8.1)) then (bif decide ((o5.length + ([x] : List (den (TAttr))).length) * 48 ≤ 140737488355328) then patch_Apply_g6   LS4 r t0 (t6 + (1 : Int)) t9 t10 t11 (o5 ++ ([x] : List (den (TAttr)))) o8 else none) else (bif (decide (x.1 = o8.1)) then (bif (!o8.2.1) then (bif decide ((o5.length + ([(o8.1, (o8.2.2.1, ()))] : List (den (TAttr))).length) * 48 ≤ 140737488355328) then LS4 t0 (t6 + (1 : Int)) t9 t10 (IntKind.wrap .i64 (t11 + (1 : Int))) (o5 ++ ([(o8.1, (o8.2.2.1, ()))] : List (den (TAttr)))) else none) else LS4 t0 (t6 + (1 : Int)) t9 t10 (IntKind.wrap .i64 (t11 + (1 : Int))) o5) else (bif (!o8.2.1) then (bif decide ((o5.length + ([(o8.1, (o8.2.2.1, ()))] : List (den (TAttr))).length) * 48 ≤ 140737488355328) then LS4 t0 t6 t9 t10 (IntKind.wrap .i64 (t11 + (1 : Int))) (o5 ++ ([(o8.1, (o8.2.2.1, ()))] : List (den (TAttr)))) else none) else LS4 t0 t6 t9 t10 (IntKind.wrap .i64 (t11 + (1 : Int))) o5)))
theorem patch_Apply_l6_list  (n : Nat) (LS4 : den (LAttr) → den (.int .i64) → den (LChange) → den (.int .i64) → den (.int .i64) → den (LAttr) → Option (denR (.one (LAttr)))) : ∀ (m i : Nat) (t0 : den (LAttr)) (t9 : den (LChange)) (t10 : den (.int .i64)) (t11 : den (.int .i64)) (o5 : den (LAttr)) (o8 : den (TChange)), t0.length - i < m → i ≤ t0.length → t0.length < 4611686018427387904 → patch_Apply_l6  n LS4 m t0 (i : Int) t9 t10 t11 o5 o8 = patch_Apply_g6   LS4 (t0.drop i) t0 (i : Int) t9 t10 t11 o5 o8 := by
  intro m
  induction m with
  | zero => intro i t0 t9 t10 t11 o5 o8 h1; omega
  | succ m ih =>
    intro i t0 t9 t10 t11 o5 o8 h1 h2 h3
    show patch_Apply_s6   LS4 (fun (t0 : den (LAttr)) (t6 : den (.int .i64)) (t9 : den (LChange)) (t10 : den (.int .i64)) (t11 : den (.int .i64)) (o5 : den (LAttr)) (o8 : den (TChange)) => patch_Apply_l6  n LS4 m t0 t6 t9 t10 t11 o5 o8) t0 (i : Int) t9 t10 t11 o5 o8 = _
    unfold patch_Apply_s6
    have b0 : decide ((0 : Int) ≤ (i : Int)) = true := decide_eq_true (by omega)
    rcases Nat.lt_or_ge i t0.length with hi | hi
    · have b1 : decide ((i : Int) < (t0.length : Int)) = true := decide_eq_true (by omega)
      have bw : IntKind.i64.wrap ((i : Int) + (1 : Int)) = ((i + 1 : Nat) : Int) := w64s (by omega)
      have ih' : ∀ (t9 : den (LChange)) (t10 : den (.int .i64)) (t11 : den (.int .i64)) (o5 : den (LAttr)) (o8 : den (TChange)), patch_Apply_l6  n LS4 m t0 ((i + 1 : Nat) : Int) t9 t10 t11 o5 o8 = patch_Apply_g6   LS4 (t0.drop (i + 1)) t0 ((i + 1 : Nat) : Int) t9 t10 t11 o5 o8 := fun t9 t10 t11 o5 o8 => ih (i + 1) t0 t9 t10 t11 o5 o8 (by omega) (by omega) h3
      simp only [b0, b1, bw, Bool.and_true, Bool.true_and, cond_true, Int.toNat_natCast, ih']
      rw [drop_getD hi (dflt (TAttr))]
      rfl
    · have b1 : decide ((i : Int) < (t0.length : Int)) = false := decide_eq_false (by omega)
      simp only [b1, cond_false]
      rw [List.drop_eq_nil_of_le hi]
      rfl
noncomputable def patch_Apply_F6 (call : Call0) (n : Nat) (r4 : St → Option (denR (.one (LAttr)))) : (St → Option (denR (.one (LAttr)))) → St → Option (denR (.one (LAttr))) := fun rec => exec cfg call n 15 (cat B15 [1, 0, 1, 1, 1, 0, 1, 0, 0, 1, 1, 0, 0, 1, 0, 0, 0]) (kLoop rec (lk2 15 6 cfg.keep) (kBlock 2 (kSq (exec cfg call n 15 (cat B15 [1, 0, 1, 1, 1, 0, 1, 0, 0, 1, 1, 0, 0, 1, 1])) (kBlock 1 (kSq (exec cfg call n 15 (cat B15 [1, 0, 1, 1, 1, 0, 1, 0, 0, 1, 1, 1])) (kLoop r4 (lk2 15 4 cfg.keep) (kBlock 0 (kSq (exec cfg call n 15 (cat B15 [1, 0, 1, 1, 1, 1])) (kret cfg Go.Proofs.Tryd.f15 (.one (LAttr)))))))))))
theorem patch_Apply_l6_eq (call : Call0) (n : Nat) (r4 : St → Option (denR (.one (LAttr)))) : ∀ (m : Nat) (t0 : den (LAttr)) (t6 : den (.int .i64)) (t9 : den (LChange)) (t10 : den (.int .i64)) (t11 : den (.int .i64)) (o5 : den (LAttr)) (o8 : den (TChange)), loopN (patch_Apply_F6 call n r4) m (patch_Apply_sh6 t0 t6 t9 t10 t11 o5 o8) = patch_Apply_l6  n (fun (t0 : den (LAttr)) (t6 : den (.int .i64)) (t9 : den (LChange)) (t10 : den (.int .i64)) (t11 : den (.int .i64)) (o5 : den (LAttr)) => r4 (patch_Apply_sh4 t0 t6 t9 t10 t11 o5)) m t0 t6 t9 t10 t11 o5 o8 := by
  intro m
  induction m with
  | zero => intros; rfl
  | succ m ih =>
    intro t0 t6 t9 t10 t11 o5 o8
    have h : loopN (patch_Apply_F6 call n r4) (m + 1) (patch_Apply_sh6 t0 t6 t9 t10 t11 o5 o8) = patch_Apply_s6   (fun (t0 : den (LAttr)) (t6 : den (.int .i64)) (t9 : den (LChange)) (t10 : den (.int .i64)) (t11 : den (.int .i64)) (o5 : den (LAttr)) => r4 (patch_Apply_sh4 t0 t6 t9 t10 t11 o5)) (fun (t0 : den (LAttr)) (t6 : den (.int .i64)) (t9 : den (LChange)) (t10 : den (.int .i64)) (t11 : den (.int .i64)) (o5 : den (LAttr)) (o8 : den (TChange)) => loopN (patch_Apply_F6 call n r4) m (patch_Apply_sh6 t0 t6 t9 t10 t11 o5 o8)) t0 t6 t9 t10 t11 o5 o8 := by kernel_rfl
    have e0 : (fun (t0 : den (LAttr)) (t6 : den (.int .i64)) (t9 : den (LChange)) (t10 : den (.int .i64)) (t11 : den (.int .i64)) (o5 : den (LAttr)) (o8 : den (TChange)) => loopN (patch_Apply_F6 call n r4) m (patch_Apply_sh6 t0 t6 t9 t10 t11 o5 o8)) = (fun (t0 : den (LAttr)) (t6 : den (.int .i64)) (t9 : den (LChange)) (t10 : den (.int .i64)) (t11 : den (.int .i64)) (o5 : den (LAttr)) (o8 : den (TChange)) => patch_Apply_l6  n (fun (t0 : den (LAttr)) (t6 : den (.int .i64)) (t9 : den (LChange)) (t10 : den (.int .i64)) (t11 : den (.int .i64)) (o5 : den (LAttr)) => r4 (patch_Apply_sh4 t0 t6 t9 t10 t11 o5)) m t0 t6 t9 t10 t11 o5 o8) := by funext t0 t6 t9 t10 t11 o5 o8; exact ih t0 t6 t9 t10 t11 o5 o8
    rw [h, e0]; rfl
noncomputable def patch_Apply_s4  (LL6 : den (LAttr) → den (.int .i64) → den (LChange) → den (.int .i64) → den (.int .i64) → den (LAttr) → den (TChange) → Option (denR (.one (LAttr))))  (LS4 : den (LAttr) → den (.int .i64) → den (LChange) → den (.int .i64) → den (.int .i64) → den (LAttr) → Option (denR (.one (LAttr)))) (t0 : den (LAttr)) (t6 : den (.int .i64)) (t9 : den (LChange)) (t10 : den (.int .i64)) (t11 : den (.int .i64)) (o5 : den (LAttr)) : Option (denR (.one (LAttr))) := (bif (decide (t11 < t10)) then (bif decide (0 ≤ t11) && decide (t11 < (t9.length : Int)) then LL6 t0 t6 t9 t10 t11 o5 (t9.getD (Int.toNat t11) (dflt (TChange))) else none) else (bif decide (0 ≤ t6) && decide (t6 ≤ (t0.length : Int)) && decide ((t0.length : Int) ≤ (t0.length : Int)) then (bif decide ((o5.length + (t0.drop (Int.toNat t6)).length) * 48 ≤ 140737488355328) then some (o5 ++ (t0.drop (Int.toNat t6))) else none) else none))
noncomputable def patch_Apply_l4  (n : Nat)  : Nat → den (LAttr) → den (.int .i64) → den (LChange) → den (.int .i64) → den (.int .i64) → den (LAttr) → Option (denR (.one (LAttr)))
  | 0, _, _, _, _, _, _ => none
  | m + 1, t0, t6, t9, t10, t11, o5 => patch_Apply_s4  (patch_Apply_l6  n (fun (t0 : den (LAttr)) (t6 : den (.int .i64)) (t9 : den (LChange)) (t10 : den (.int .i64)) (t11 : den (.int .i64)) (o5 : den (LAttr)) => patch_Apply_l4  n  m t0 t6 t9 t10 t11 o5) n)  (fun (t0 : den (LAttr)) (t6 : den (.int .i64)) (t9 : den (LChange)) (t10 : den (.int .i64)) (t11 : den (.int .i64)) (o5 : den (LAttr)) => patch_Apply_l4  n  m t0 t6 t9 t10 t11 o5) t0 t6 t9 t10 t11 o5
noncomputable def patch_Apply_F4 (call : Call0) (n : Nat)  : (St → Option (denR (.one (LAttr)))) → St → Option (denR (.one (LAttr))) := fun rec => exec cfg call n 15 (cat B15 [1, 0, 1, 1, 1, 0, 1, 0, 0]) (kLoop rec (lk2 15 4 cfg.keep) (kBlock 0 (kSq (exec cfg call n 15 (cat B15 [1, 0, 1, 1, 1, 1])) (kret cfg Go.Proofs.Tryd.f15 (.one (LAttr))))))
theorem patch_Apply_l4_eq (call : Call0) (n : Nat)  : ∀ (m : Nat) (t0 : den (LAttr)) (t6 : den (.int .i64)) (t9 : den (LChange)) (t10 : den (.int .i64)) (t11 : den (.int .i64)) (o5 : den (LAttr)), loopN (patch_Apply_F4 call n ) m (patch_Apply_sh4 t0 t6 t9 t10 t11 o5) = patch_Apply_l4  n  m t0 t6 t9 t10 t11 o5 := by
  intro m
  induction m with
  | zero => intros; rfl
  | succ m ih =>
    intro t0 t6 t9 t10 t11 o5
    have h : loopN (patch_Apply_F4 call n ) (m + 1) (patch_Apply_sh4 t0 t6 t9 t10 t11 o5) = patch_Apply_s4  (fun (t0 : den (LAttr)) (t6 : den (.int .i64)) (t9 : den (LChange)) (t10 : den (.int .i64)) (t11 : den (.int .i64)) (o5 : den (LAttr)) (o8 : den (TChange)) => loopN (patch_Apply_F6 call n (loopN (patch_Apply_F4 call n ) m)) n (patch_Apply_sh6 t0 t6 t9 t10 t11 o5 o8))  (fun (t0 : den (LAttr)) (t6 : den (.int .i64)) (t9 : den (LChange)) (t10 : den (.int .i64)) (t11 : den (.int .i64)) (o5 : den (LAttr)) => loopN (patch_Apply_F4 call n ) m (patch_Apply_sh4 t0 t6 t9 t10 t11 o5)) t0 t6 t9 t10 t11 o5 := by kernel_rfl
    have e6 : (fun (t0 : den (LAttr)) (t6 : den (.int .i64)) (t9 : den (LChange)) (t10 : den (.int .i64)) (t11 : den (.int .i64)) (o5 : den (LAttr)) (o8 : den (TChange)) => loopN (patch_Apply_F6 call n (loopN (patch_Apply_F4 call n ) m)) n (patch_Apply_sh6 t0 t6 t9 t10 t11 o5 o8)) = patch_Apply_l6  n (fun (t0 : den (LAttr)) (t6 : den (.int .i64)) (t9 : den (LChange)) (t10 : den (.int .i64)) (t11 : den (.int .i64)) (o5 : den (LAttr)) => (loopN (patch_Apply_F4 call n ) m) (patch_Apply_sh4 t0 t6 t9 t10 t11 o5)) n := by funext t0 t6 t9 t10 t11 o5 o8; exact patch_Apply_l6_eq call n (loopN (patch_Apply_F4 call n ) m) n t0 t6 t9 t10 t11 o5 o8
    have e0 : (fun (t0 : den (LAttr)) (t6 : den (.int .i64)) (t9 : den (LChange)) (t10 : den (.int .i64)) (t11 : den (.int .i64)) (o5 : den (LAttr)) => loopN (patch_Apply_F4 call n ) m (patch_Apply_sh4 t0 t6 t9 t10 t11 o5)) = (fun (t0 : den (LAttr)) (t6 : den (.int .i64)) (t9 : den (LChange)) (t10 : den (.int .i64)) (t11 : den (.int .i64)) (o5 : den (LAttr)) => patch_Apply_l4  n  m t0 t6 t9 t10 t11 o5) := by funext t0 t6 t9 t10 t11 o5; exact ih t0 t6 t9 t10 t11 o5
    rw [h, e6, e0]; rfl
noncomputable def patch_Apply_top  (LL4 : den (LAttr) → den (.int .i64) → den (LChange) → den (.int .i64) → den (.int .i64) → den (LAttr) → Option (denR (.one (LAttr)))) (a0 : den (LAttr)) (a1 : den (LChange)) : Option (denR (.one (LAttr))) := LL4 a0 (0 : Int) a1 (a1.length : Int) (0 : Int) []
noncomputable def patch_Apply : Nat → den (LAttr) → den (LChange) → Option (denR (.one (LAttr)))
  | 0, _, _ => none
  | n + 1, a0, a1 => patch_Apply_top  (patch_Apply_l4  n n) a0 a1
theorem patch_Apply_eq (n : Nat) (a0 : den (LAttr)) (a1 : den (LChange)) : (acalls cfg intr intrI n).p 15 [.s (.val (LAttr) a0), .s (.val (LChange) a1)] (.one (LAttr)) = patch_Apply n a0 a1 := by
  cases n with
  | zero => rfl
  | succ n =>
    have h : (acalls cfg intr intrI (n + 1)).p 15 [.s (.val (LAttr) a0), .s (.val (LChange) a1)] (.one (LAttr)) = patch_Apply_top  (fun (t0 : den (LAttr)) (t6 : den (.int .i64)) (t9 : den (LChange)) (t10 : den (.int .i64)) (t11 : den (.int .i64)) (o5 : den (LAttr)) => loopN (patch_Apply_F4 (acalls cfg intr intrI n) n) n (patch_Apply_sh4 t0 t6 t9 t10 t11 o5)) a0 a1 := by kernel_rfl
    have e4 : (fun (t0 : den (LAttr)) (t6 : den (.int .i64)) (t9 : den (LChange)) (t10 : den (.int .i64)) (t11 : den (.int .i64)) (o5 : den (LAttr)) => loopN (patch_Apply_F4 (acalls cfg intr intrI n) n) n (patch_Apply_sh4 t0 t6 t9 t10 t11 o5)) = patch_Apply_l4  n n := by funext t0 t6 t9 t10 t11 o5; exact patch_Apply_l4_eq (acalls cfg intr intrI n) n n t0 t6 t9 t10 t11 o5
    rw [h, e4]; rfl

noncomputable def B16 : Code := (Go.Proofs.Tryd.f16.body).getD .skip
noncomputable def ref05_Same_sh4 (at0 : den (LAttr)) (bt1 : den (LAttr)) (it5 : den (.int .i64)) : St := ⟨[.s (.val (LAttr) at0), .s (.val (LAttr) bt1), U, U, U, .s (.val (.int .i64) it5), U, U, U, U, U, U, U, U, U, U, U, U, U, U, U, U, U, U, U, U], []⟩
noncomputable def ref05_Same_s4    (LS4 : den (LAttr) → den (LAttr) → den (.int .i64) → Option (denR (.one (.bool)))) (at0 : den (LAttr)) (bt1 : den (LAttr)) (it5 : den (.int .i64)) : Option (denR (.one (.bool))) := (bif (decide (it5 < (at0.length : Int))) then (bif decide (0 ≤ it5) && decide (it5 < (at0.length : Int)) then (bif decide (0 ≤ it5) && decide (it5 < (bt1.length : Int)) then (bif (!eqT (TAttr) (at0.getD (Int.toNat it5) (dflt (TAttr))) (bt1.getD (Int.toNat it5) (dflt (TAttr)))) then some false else LS4 at0 bt1 (IntKind.wrap .i64 (it5 + (1 : Int)))) else none) else none) else some true)
noncomputable def ref05_Same_l4  (n : Nat)  : Nat → den (LAttr) → den (LAttr) → den (.int .i64) → Option (denR (.one (.bool)))
  | 0, _, _, _ => none
  | m + 1, at0, bt1, it5 => ref05_Same_s4    (fun (at0 : den (LAttr)) (bt1 : den (LAttr)) (it5 : den (.int .i64)) => ref05_Same_l4  n  m at0 bt1 it5) at0 bt1 it5
noncomputable def ref05_Same_g4    : List (den (TAttr)) → den (LAttr) → den (.int .i64) → Option (denR (.one (.bool)))
  | [], bt1, it5 => some true
  | x :: r, bt1, it5 => (bif decide (0 ≤ it5) && decide (it5 < (bt1.length : Int)) then (bif (!eqT (TAttr) x (bt1.getD (Int.toNat it5) (dflt (TAttr)))) then some false else ref05_Same_g4    r bt1 (it5 + (1 : Int))) else none)
theorem ref05_Same_l4_list  (n : Nat)  : ∀ (m i : Nat) (at0 : den (LAttr)) (bt1 : den (LAttr)), at0.length - i < m → i ≤ at0.length → at0.length < 4611686018427387904 → ref05_Same_l4  n  m at0 bt1 (i : Int) = ref05_Same_g4    (at0.drop i) bt1 (i : Int) := by
  intro m
  induction m with
  | zero => intro i at0 bt1 h1; omega
  | succ m ih =>
    intro i at0 bt1 h1 h2 h3
    show ref05_Same_s4    (fun (at0 : den (LAttr)) (bt1 : den (LAttr)) (it5 : den (.int .i64)) => ref05_Same_l4  n  m at0 bt1 it5) at0 bt1 (i : Int) = _
    unfold ref05_Same_s4
    have b0 : decide ((0 : Int) ≤ (i : Int)) = true := decide_eq_true (by omega)
    rcases Nat.lt_or_ge i at0.length with hi | hi
    · have b1 : decide ((i : Int) < (at0.length : Int)) = true := decide_eq_true (by omega)
      have bw : IntKind.i64.wrap ((i : Int) + (1 : Int)) = ((i + 1 : Nat) : Int) := w64s (by omega)
      have ih' : ∀ (bt1 : den (LAttr)), ref05_Same_l4  n  m at0 bt1 ((i + 1 : Nat) : Int) = ref05_Same_g4    (at0.drop (i + 1)) bt1 ((i + 1 : Nat) : Int) := fun bt1 => ih (i + 1) at0 bt1 (by omega) (by omega) h3
      simp only [b0, b1, bw, Bool.and_true, Bool.true_and, cond_true, Int.toNat_natCast, ih']
      rw [drop_getD hi (dflt (TAttr))]
      rfl
    · have b1 : decide ((i : Int) < (at0.length : Int)) = false := decide_eq_false (by omega)
      simp only [b1, cond_false]
      rw [List.drop_eq_nil_of_le hi]
      rfl
noncomputable def ref05_Same_F4 (call : Call0) (n : Nat)  : (St → Option (denR (.one (.bool)))) → St → Option (denR (.one (.bool))) := fun rec => exec cfg call n 16 (cat B16 [1, 1, 0, 1, 0, 0]) (kLoop rec (lk2 16 4 cfg.keep) (kBlock 0 (kSq (exec cfg call n 16 (cat B16 [1, 1, 1])) (kret cfg Go.Proofs.Tryd.f16 (.one (.bool))))))
theorem ref05_Same_l4_eq (call : Call0) (n : Nat)  : ∀ (m : Nat) (at0 : den (LAttr)) (bt1 : den (LAttr)) (it5 : den (.int .i64)), loopN (ref05_Same_F4 call n ) m (ref05_Same_sh4 at0 bt1 it5) = ref05_Same_l4  n  m at0 bt1 it5 := by
  intro m
  induction m with
  | zero => intros; rfl
  | succ m ih =>
    intro at0 bt1 it5
    have h : loopN (ref05_Same_F4 call n ) (m + 1) (ref05_Same_sh4 at0 bt1 it5) = ref05_Same_s4    (fun (at0 : den (LAttr)) (bt1 : den (LAttr)) (it5 : den (.int .i64)) => loopN (ref05_Same_F4 call n ) m (ref05_Same_sh4 at0 bt1 it5)) at0 bt1 it5 := by kernel_rfl
    have e0 : (fun (at0 : den (LAttr)) (bt1 : den (LAttr)) (it5 : den (.int .i64)) => loopN (ref05_Same_F4 call n ) m (ref05_Same_sh4 at0 bt1 it5)) = (fun (at0 : den (LAttr)) (bt1 : den (LAttr)) (it5 : den (.int .i64)) => ref05_Same_l4  n  m at0 bt1 it5) := by funext at0 bt1 it5; exact ih at0 bt1 it5
    rw [h, e0]; rfl
noncomputable def ref05_Same_top  (LL4 : den (LAttr) → den (LAttr) → den (.int .i64) → Option (denR (.one (.bool)))) (a0 : den (LAttr)) (a1 : den (LAttr)) : Option (denR (.one (.bool))) := (bif ((!decide ((a0.length : Int) = (a1.length : Int)))) then some false else LL4 a0 a1 (0 : Int))
noncomputable def ref05_Same : Nat → den (LAttr) → den (LAttr) → Option (denR (.one (.bool)))
  | 0, _, _ => none
  | n + 1, a0, a1 => ref05_Same_top  (ref05_Same_l4  n n) a0 a1
theorem ref05_Same_eq (n : Nat) (a0 : den (LAttr)) (a1 : den (LAttr)) : (acalls cfg intr intrI n).p 16 [.s (.val (LAttr) a0), .s (.val (LAttr) a1)] (.one (.bool)) = ref05_Same n a0 a1 := by
  cases n with
  | zero => rfl
  | succ n =>
    have h : (acalls cfg intr intrI (n + 1)).p 16 [.s (.val (LAttr) a0), .s (.val (LAttr) a1)] (.one (.bool)) = ref05_Same_top  (fun (at0 : den (LAttr)) (bt1 : den (LAttr)) (it5 : den (.int .i64)) => loopN (ref05_Same_F4 (acalls cfg intr intrI n) n) n (ref05_Same_sh4 at0 bt1 it5)) a0 a1 := by kernel_rfl
    have e4 : (fun (at0 : den (LAttr)) (bt1 : den (LAttr)) (it5 : den (.int .i64)) => loopN (ref05_Same_F4 (acalls cfg intr intrI n) n) n (ref05_Same_sh4 at0 bt1 it5)) = ref05_Same_l4  n n := by funext at0 bt1 it5; exact ref05_Same_l4_eq (acalls cfg intr intrI n) n n at0 bt1 it5
    rw [h, e4]; rfl

noncomputable def cmp_isNaN_int_top   (a0 : den (.int .i64)) : Option (denR (.one (.bool))) := some ((!decide (a0 = a0)))
noncomputable def cmp_isNaN_int : Nat → den (.int .i64) → Option (denR (.one (.bool)))
  | 0, _ => none
  | n + 1, a0 => cmp_isNaN_int_top   a0
theorem cmp_isNaN_int_eq (n : Nat) (a0 : den (.int .i64)) : (acalls cfg intr intrI n).p 72 [.s (.val (.int .i64) a0)] (.one (.bool)) = cmp_isNaN_int n a0 := by
  cases n with
  | zero => rfl
  | succ n =>
    have h : (acalls cfg intr intrI (n + 1)).p 72 [.s (.val (.int .i64) a0)] (.one (.bool)) = cmp_isNaN_int_top   a0 := by kernel_rfl
    rw [h]; rfl

noncomputable def cmp_Compare_int_top (C_cmp_isNaN_int : den (.int .i64) → Option (denR (.one (.bool))))  (a0 : den (.int .i64)) (a1 : den (.int .i64)) : Option (denR (.one (.int .i64))) := ((C_cmp_isNaN_int a0).bind fun r1 => ((C_cmp_isNaN_int a1).bind fun r2 => (bif r1 then (bif r2 then some (0 : Int) else some (-1 : Int)) else (bif r2 then some (1 : Int) else (bif (decide (a0 < a1)) then some (-1 : Int) else (bif (decide (a1 < a0)) then some (1 : Int) else some (0 : Int)))))))
noncomputable def cmp_Compare_int : Nat → den (.int .i64) → den (.int .i64) → Option (denR (.one (.int .i64)))
  | 0, _, _ => none
  | n + 1, a0, a1 => cmp_Compare_int_top (cmp_isNaN_int n)  a0 a1
theorem cmp_Compare_int_eq (n : Nat) (a0 : den (.int .i64)) (a1 : den (.int .i64)) : (acalls cfg intr intrI n).p 49 [.s (.val (.int .i64) a0), .s (.val (.int .i64) a1)] (.one (.int .i64)) = cmp_Compare_int n a0 a1 := by
  cases n with
  | zero => rfl
  | succ n =>
    have h : (acalls cfg intr intrI (n + 1)).p 49 [.s (.val (.int .i64) a0), .s (.val (.int .i64) a1)] (.one (.int .i64)) = cmp_Compare_int_top (fun (a0 : den (.int .i64)) => (acalls cfg intr intrI n).p 72 [.s (.val (.int .i64) a0)] (.one (.bool)))  a0 a1 := by kernel_rfl
    have c_cmp_isNaN_int : (fun (a0 : den (.int .i64)) => (acalls cfg intr intrI n).p 72 [.s (.val (.int .i64) a0)] (.one (.bool))) = cmp_isNaN_int n := by funext a0; exact cmp_isNaN_int_eq n a0
    rw [h, c_cmp_isNaN_int]; rfl

noncomputable def attrs_find_1_top (C_cmp_Compare_int : den (.int .i64) → den (.int .i64) → Option (denR (.one (.int .i64))))  (a0 : den (TAttr)) (a1 : den (.int .i64)) : Option (denR (.one (.int .i64))) := ((C_cmp_Compare_int a0.1 a1).bind fun r1 => some r1)
noncomputable def attrs_find_1 : Nat → den (TAttr) → den (.int .i64) → Option (denR (.one (.int .i64)))
  | 0, _, _ => none
  | n + 1, a0, a1 => attrs_find_1_top (cmp_Compare_int n)  a0 a1
theorem attrs_find_1_eq (n : Nat) (a0 : den (TAttr)) (a1 : den (.int .i64)) : (acalls cfg intr intrI n).p 82 [.s (.val (TAttr) a0), .s (.val (.int .i64) a1)] (.one (.int .i64)) = attrs_find_1 n a0 a1 := by
  cases n with
  | zero => rfl
  | succ n =>
    have h : (acalls cfg intr intrI (n + 1)).p 82 [.s (.val (TAttr) a0), .s (.val (.int .i64) a1)] (.one (.int .i64)) = attrs_find_1_top (fun (a0 : den (.int .i64)) (a1 : den (.int .i64)) => (acalls cfg intr intrI n).p 49 [.s (.val (.int .i64) a0), .s (.val (.int .i64) a1)] (.one (.int .i64)))  a0 a1 := by kernel_rfl
    have c_cmp_Compare_int : (fun (a0 : den (.int .i64)) (a1 : den (.int .i64)) => (acalls cfg intr intrI n).p 49 [.s (.val (.int .i64) a0), .s (.val (.int .i64) a1)] (.one (.int .i64))) = cmp_Compare_int n := by funext a0 a1; exact cmp_Compare_int_eq n a0 a1
    rw [h, c_cmp_Compare_int]; rfl

noncomputable def B81 : Code := (Go.Proofs.Tryd.f81.body).getD .skip
noncomputable def slices_BinarySearchFunc_Attr_int__attrs_find_1_sh3 (xt0 : den (LAttr)) (targett1 : den (.int .i64)) (nt8 : den (.int .i64)) (it9 : den (.int .i64)) (jt10 : den (.int .i64)) : St := ⟨[.s (.val (LAttr) xt0), .s (.val (.int .i64) targett1), .fn 82 [], U, U, U, U, U, .s (.val (.int .i64) nt8), .s (.val (.int .i64) it9), .s (.val (.int .i64) jt10), U, U, U, U, U, U, U, U, U, U, U, U, U, U, U, U, U, U, U, U, U, U, U, U, U, U, U, U, U, U, U, U, U, U, U, U, U, U], []⟩
noncomputable def slices_BinarySearchFunc_Attr_int__attrs_find_1_s3 (C_attrs_find_1 : den (TAttr) → den (.int .i64) → Option (denR (.one (.int .i64))))   (LS3 : den (LAttr) → den (.int .i64) → den (.int .i64) → den (.int .i64) → den (.int .i64) → Option (denR (.two (.int .i64) (.bool)))) (xt0 : den (LAttr)) (targett1 : den (.int .i64)) (nt8 : den (.int .i64)) (it9 : den (.int .i64)) (jt10 : den (.int .i64)) : Option (denR (.two (.int .i64) (.bool))) := (bif (decide (it9 < jt10)) then (bif decide (0 ≤ (IntKind.wrap .i64 (Int.fdiv (IntKind.wrap .u64 (IntKind.wrap .i64 (it9 + jt10))) (2 ^ (min (Int.toNat (1 : Int)) (IntKind.bits .u64)))))) && decide ((IntKind.wrap .i64 (Int.fdiv (IntKind.wrap .u64 (IntKind.wrap .i64 (it9 + jt10))) (2 ^ (min (Int.toNat (1 : Int)) (IntKind.bits .u64))))) < (xt0.length : Int)) then ((C_attrs_find_1 (xt0.getD (Int.toNat (IntKind.wrap .i64 (Int.fdiv (IntKind.wrap .u64 (IntKind.wrap .i64 (it9 + jt10))) (2 ^ (min (Int.toNat (1 : Int)) (IntKind.bits .u64)))))) (dflt (TAttr))) targett1).bind fun r1 => (bif (decide (r1 < (0 : Int))) then LS3 xt0 targett1 nt8 (IntKind.wrap .i64 ((IntKind.wrap .i64 (Int.fdiv (IntKind.wrap .u64 (IntKind.wrap .i64 (it9 + jt10))) (2 ^ (min (Int.toNat (1 : Int)) (IntKind.bits .u64))))) + (1 : Int))) jt10 else LS3 xt0 targett1 nt8 it9 (IntKind.wrap .i64 (Int.fdiv (IntKind.wrap .u64 (IntKind.wrap .i64 (it9 + jt10))) (2 ^ (min (Int.toNat (1 : Int)) (IntKind.bits .u64))))))) else none) else (bif (decide (it9 < nt8)) then (bif decide (0 ≤ it9) && decide (it9 < (xt0.length : Int)) then ((C_attrs_find_1 (xt0.getD (Int.toNat it9) (dflt (TAttr))) targett1).bind fun r2 => some (it9, (decide (r2 = (0 : Int))))) else none) else some (it9, false)))
noncomputable def slices_BinarySearchFunc_Attr_int__attrs_find_1_l3 (C_attrs_find_1 : den (TAttr) → den (.int .i64) → Option (denR (.one (.int .i64)))) (n : Nat)  : Nat → den (LAttr) → den (.int .i64) → den (.int .i64) → den (.int .i64) → den (.int .i64) → Option (denR (.two (.int .i64) (.bool)))
  | 0, _, _, _, _, _ => none
  | m + 1, xt0, targett1, nt8, it9, jt10 => slices_BinarySearchFunc_Attr_int__attrs_find_1_s3 C_attrs_find_1   (fun (xt0 : den (LAttr)) (targett1 : den (.int .i64)) (nt8 : den (.int .i64)) (it9 : den (.int .i64)) (jt10 : den (.int .i64)) => slices_BinarySearchFunc_Attr_int__attrs_find_1_l3 C_attrs_find_1 n  m xt0 targett1 nt8 it9 jt10) xt0 targett1 nt8 it9 jt10
noncomputable def slices_BinarySearchFunc_Attr_int__attrs_find_1_F3 (call : Call0) (n : Nat)  : (St → Option (denR (.two (.int .i64) (.bool)))) → St → Option (denR (.two (.int .i64) (.bool))) := fun rec => exec cfg call n 81 (cat B81 [1, 1, 1, 0, 0, 0]) (kLoop rec (lk2 81 3 cfg.keep) (kBlock 0 (kSq (exec cfg call n 81 (cat B81 [1, 1, 1, 1])) (kret cfg Go.Proofs.Tryd.f81 (.two (.int .i64) (.bool))))))
theorem slices_BinarySearchFunc_Attr_int__attrs_find_1_l3_eq (call : Call0) (n : Nat)  : ∀ (m : Nat) (xt0 : den (LAttr)) (targett1 : den (.int .i64)) (nt8 : den (.int .i64)) (it9 : den (.int .i64)) (jt10 : den (.int .i64)), loopN (slices_BinarySearchFunc_Attr_int__attrs_find_1_F3 call n ) m (slices_BinarySearchFunc_Attr_int__attrs_find_1_sh3 xt0 targett1 nt8 it9 jt10) = slices_BinarySearchFunc_Attr_int__attrs_find_1_l3 (fun (a0 : den (TAttr)) (a1 : den (.int .i64)) => call.p 82 [.s (.val (TAttr) a0), .s (.val (.int .i64) a1)] (.one (.int .i64))) n  m xt0 targett1 nt8 it9 jt10 := by
  intro m
  induction m with
  | zero => intros; rfl
  | succ m ih =>
    intro xt0 targett1 nt8 it9 jt10
    have h : loopN (slices_BinarySearchFunc_Attr_int__attrs_find_1_F3 call n ) (m + 1) (slices_BinarySearchFunc_Attr_int__attrs_find_1_sh3 xt0 targett1 nt8 it9 jt10) = slices_BinarySearchFunc_Attr_int__attrs_find_1_s3 (fun (a0 : den (TAttr)) (a1 : den (.int .i64)) => call.p 82 [.s (.val (TAttr) a0), .s (.val (.int .i64) a1)] (.one (.int .i64)))   (fun (xt0 : den (LAttr)) (targett1 : den (.int .i64)) (nt8 : den (.int .i64)) (it9 : den (.int .i64)) (jt10 : den (.int .i64)) => loopN (slices_BinarySearchFunc_Attr_int__attrs_find_1_F3 call n ) m (slices_BinarySearchFunc_Attr_int__attrs_find_1_sh3 xt0 targett1 nt8 it9 jt10)) xt0 targett1 nt8 it9 jt10 := by kernel_rfl
    have e0 : (fun (xt0 : den (LAttr)) (targett1 : den (.int .i64)) (nt8 : den (.int .i64)) (it9 : den (.int .i64)) (jt10 : den (.int .i64)) => loopN (slices_BinarySearchFunc_Attr_int__attrs_find_1_F3 call n ) m (slices_BinarySearchFunc_Attr_int__attrs_find_1_sh3 xt0 targett1 nt8 it9 jt10)) = (fun (xt0 : den (LAttr)) (targett1 : den (.int .i64)) (nt8 : den (.int .i64)) (it9 : den (.int .i64)) (jt10 : den (.int .i64)) => slices_BinarySearchFunc_Attr_int__attrs_find_1_l3 (fun (a0 : den (TAttr)) (a1 : den (.int .i64)) => call.p 82 [.s (.val (TAttr) a0), .s (.val (.int .i64) a1)] (.one (.int .i64))) n  m xt0 targett1 nt8 it9 jt10) := by funext xt0 targett1 nt8 it9 jt10; exact ih xt0 targett1 nt8 it9 jt10
    rw [h, e0]; rfl
noncomputable def slices_BinarySearchFunc_Attr_int__attrs_find_1_top (C_attrs_find_1 : den (TAttr) → den (.int .i64) → Option (denR (.one (.int .i64)))) (LL3 : den (LAttr) → den (.int .i64) → den (.int .i64) → den (.int .i64) → den (.int .i64) → Option (denR (.two (.int .i64) (.bool)))) (a0 : den (LAttr)) (a1 : den (.int .i64)) : Option (denR (.two (.int .i64) (.bool))) := LL3 a0 a1 (a0.length : Int) (0 : Int) (a0.length : Int)
noncomputable def slices_BinarySearchFunc_Attr_int__attrs_find_1 : Nat → den (LAttr) → den (.int .i64) → Option (denR (.two (.int .i64) (.bool)))
  | 0, _, _ => none
  | n + 1, a0, a1 => slices_BinarySearchFunc_Attr_int__attrs_find_1_top (attrs_find_1 n) (slices_BinarySearchFunc_Attr_int__attrs_find_1_l3 (attrs_find_1 n) n n) a0 a1
theorem slices_BinarySearchFunc_Attr_int__attrs_find_1_eq (n : Nat) (a0 : den (LAttr)) (a1 : den (.int .i64)) : (acalls cfg intr intrI n).p 81 [.s (.val (LAttr) a0), .s (.val (.int .i64) a1), .fn 82 []] (.two (.int .i64) (.bool)) = slices_BinarySearchFunc_Attr_int__attrs_find_1 n a0 a1 := by
  cases n with
  | zero => rfl
  | succ n =>
    have h : (acalls cfg intr intrI (n + 1)).p 81 [.s (.val (LAttr) a0), .s (.val (.int .i64) a1), .fn 82 []] (.two (.int .i64) (.bool)) = slices_BinarySearchFunc_Attr_int__attrs_find_1_top (fun (a0 : den (TAttr)) (a1 : den (.int .i64)) => (acalls cfg intr intrI n).p 82 [.s (.val (TAttr) a0), .s (.val (.int .i64) a1)] (.one (.int .i64))) (fun (xt0 : den (LAttr)) (targett1 : den (.int .i64)) (nt8 : den (.int .i64)) (it9 : den (.int .i64)) (jt10 : den (.int .i64)) => loopN (slices_BinarySearchFunc_Attr_int__attrs_find_1_F3 (acalls cfg intr intrI n) n) n (slices_BinarySearchFunc_Attr_int__attrs_find_1_sh3 xt0 targett1 nt8 it9 jt10)) a0 a1 := by kernel_rfl
    have e3 : (fun (xt0 : den (LAttr)) (targett1 : den (.int .i64)) (nt8 : den (.int .i64)) (it9 : den (.int .i64)) (jt10 : den (.int .i64)) => loopN (slices_BinarySearchFunc_Attr_int__attrs_find_1_F3 (acalls cfg intr intrI n) n) n (slices_BinarySearchFunc_Attr_int__attrs_find_1_sh3 xt0 targett1 nt8 it9 jt10)) = slices_BinarySearchFunc_Attr_int__attrs_find_1_l3 (fun (a0 : den (TAttr)) (a1 : den (.int .i64)) => (acalls cfg intr intrI n).p 82 [.s (.val (TAttr) a0), .s (.val (.int .i64) a1)] (.one (.int .i64))) n n := by funext xt0 targett1 nt8 it9 jt10; exact slices_BinarySearchFunc_Attr_int__attrs_find_1_l3_eq (acalls cfg intr intrI n) n n xt0 targett1 nt8 it9 jt10
    have c_attrs_find_1 : (fun (a0 : den (TAttr)) (a1 : den (.int .i64)) => (acalls cfg intr intrI n).p 82 [.s (.val (TAttr) a0), .s (.val (.int .i64) a1)] (.one (.int .i64))) = attrs_find_1 n := by funext a0 a1; exact attrs_find_1_eq n a0 a1
    rw [h, e3, c_attrs_find_1]; rfl

noncomputable def attrs_find_top (C_slices_BinarySearchFunc_Attr_int__attrs_find_1 : den (LAttr) → den (.int .i64) → Option (denR (.two (.int .i64) (.bool))))  (a0 : den (LAttr)) (a1 : den (.int .i64)) : Option (denR (.two (.int .i64) (.bool))) := ((C_slices_BinarySearchFunc_Attr_int__attrs_find_1 a0 a1).bind fun r1 => some (r1.1, r1.2))
noncomputable def attrs_find : Nat → den (LAttr) → den (.int .i64) → Option (denR (.two (.int .i64) (.bool)))
  | 0, _, _ => none
  | n + 1, a0, a1 => attrs_find_top (slices_BinarySearchFunc_Attr_int__attrs_find_1 n)  a0 a1
theorem attrs_find_eq (n : Nat) (a0 : den (LAttr)) (a1 : den (.int .i64)) : (acalls cfg intr intrI n).p 63 [.s (.val (LAttr) a0), .s (.val (.int .i64) a1)] (.two (.int .i64) (.bool)) = attrs_find n a0 a1 := by
  cases n with
  | zero => rfl
  | succ n =>
    have h : (acalls cfg intr intrI (n + 1)).p 63 [.s (.val (LAttr) a0), .s (.val (.int .i64) a1)] (.two (.int .i64) (.bool)) = attrs_find_top (fun (a0 : den (LAttr)) (a1 : den (.int .i64)) => (acalls cfg intr intrI n).p 81 [.s (.val (LAttr) a0), .s (.val (.int .i64) a1), .fn 82 []] (.two (.int .i64) (.bool)))  a0 a1 := by kernel_rfl
    have c_slices_BinarySearchFunc_Attr_int__attrs_find_1 : (fun (a0 : den (LAttr)) (a1 : den (.int .i64)) => (acalls cfg intr intrI n).p 81 [.s (.val (LAttr) a0), .s (.val (.int .i64) a1), .fn 82 []] (.two (.int .i64) (.bool))) = slices_BinarySearchFunc_Attr_int__attrs_find_1 n := by funext a0 a1; exact slices_BinarySearchFunc_Attr_int__attrs_find_1_eq n a0 a1
    rw [h, c_slices_BinarySearchFunc_Attr_int__attrs_find_1]; rfl

noncomputable def attrs_Get_top (C_attrs_find : den (LAttr) → den (.int .i64) → Option (denR (.two (.int .i64) (.bool))))  (a0 : den (LAttr)) (a1 : den (.int .i64)) : Option (denR (.two (TValue) (.bool))) := ((C_attrs_find a0 a1).bind fun r1 => (bif (!r1.2) then some (((0 : Int), ((0 : Int), ((0 : Int), ((⟨#[]⟩ : ByteArray), ())))), false) else (bif decide (0 ≤ r1.1) && decide (r1.1 < (a0.length : Int)) then some (((a0.getD (Int.toNat r1.1) (dflt (TAttr))).2).1, true) else none)))
noncomputable def attrs_Get : Nat → den (LAttr) → den (.int .i64) → Option (denR (.two (TValue) (.bool)))
  | 0, _, _ => none
  | n + 1, a0, a1 => attrs_Get_top (attrs_find n)  a0 a1
theorem attrs_Get_eq (n : Nat) (a0 : den (LAttr)) (a1 : den (.int .i64)) : (acalls cfg intr intrI n).p 40 [.s (.val (LAttr) a0), .s (.val (.int .i64) a1)] (.two (TValue) (.bool)) = attrs_Get n a0 a1 := by
  cases n with
  | zero => rfl
  | succ n =>
    have h : (acalls cfg intr intrI (n + 1)).p 40 [.s (.val (LAttr) a0), .s (.val (.int .i64) a1)] (.two (TValue) (.bool)) = attrs_Get_top (fun (a0 : den (LAttr)) (a1 : den (.int .i64)) => (acalls cfg intr intrI n).p 63 [.s (.val (LAttr) a0), .s (.val (.int .i64) a1)] (.two (.int .i64) (.bool)))  a0 a1 := by kernel_rfl
    have c_attrs_find : (fun (a0 : den (LAttr)) (a1 : den (.int .i64)) => (acalls cfg intr intrI n).p 63 [.s (.val (LAttr) a0), .s (.val (.int .i64) a1)] (.two (.int .i64) (.bool))) = attrs_find n := by funext a0 a1; exact attrs_find_eq n a0 a1
    rw [h, c_attrs_find]; rfl

noncomputable def B29 : Code := (Go.Proofs.Tryd.f29.body).getD .skip
noncomputable def patch_Invert_sh3 (sett0 : den (LAttr)) (t10 : den (LChange)) (t11 : den (.int .i64)) (t12 : den (.int .i64)) (outo5 : den (LChange)) : St := ⟨[.s (.val (LAttr) sett0), U, U, U, U, .s (.arr 5), U, U, U, U, .s (.val (LChange) t10), .s (.val (.int .i64) t11), .s (.val (.int .i64) t12), U, U, U, U, U, U, U, U, U, U, U, U, U, U, U, U, U, U, U, U, U, U, U, U, U, U, U, U, U, U, U, U, U, U, U, U, U, U, U, U, U, U, U, U, U], [(5, .arr 40 (TChange) outo5)]⟩
noncomputable def patch_Invert_s3 (C_attrs_Get : den (LAttr) → den (.int .i64) → Option (denR (.two (TValue) (.bool))))   (LS3 : den (LAttr) → den (LChange) → den (.int .i64) → den (.int .i64) → den (LChange) → Option (denR (.one (LChange)))) (sett0 : den (LAttr)) (t10 : den (LChange)) (t11 : den (.int .i64)) (t12 : den (.int .i64)) (outo5 : den (LChange)) : Option (denR (.one (LChange))) := (bif (decide (t12 < t11)) then (bif decide (0 ≤ t12) && decide (t12 < (t10.length : Int)) then ((C_attrs_Get sett0 ((t10.getD (Int.toNat t12) (dflt (TChange))).1)).bind fun r1 => (bif r1.2 then (bif ((t10.getD (Int.toNat t12) (dflt (TChange))).2).1 then (bif decide ((outo5.length + ([((t10.getD (Int.toNat t12) (dflt (TChange))).1, (false, (r1.1, ())))] : List (den (TChange))).length) * 56 ≤ 140737488355328) then LS3 sett0 t10 t11 (IntKind.wrap .i64 (t12 + (1 : Int))) (outo5 ++ ([((t10.getD (Int.toNat t12) (dflt (TChange))).1, (false, (r1.1, ())))] : List (den (TChange)))) else none) else (bif (!eqT (TValue) r1.1 ((((t10.getD (Int.toNat t12) (dflt (TChange))).2).2).1)) then (bif decide ((outo5.length + ([((t10.getD (Int.toNat t12) (dflt (TChange))).1, (false, (r1.1, ())))] : List (den (TChange))).length) * 56 ≤ 140737488355328) then LS3 sett0 t10 t11 (IntKind.wrap .i64 (t12 + (1 : Int))) (outo5 ++ ([((t10.getD (Int.toNat t12) (dflt (TChange))).1, (false, (r1.1, ())))] : List (den (TChange)))) else none) else (bif (!r1.2) then (bif (!((t10.getD (Int.toNat t12) (dflt (TChange))).2).1) then (bif decide ((outo5.length + ([((t10.getD (Int.toNat t12) (dflt (TChange))).1, (true, (((0 : Int), ((0 : Int), ((0 : Int), ((⟨#[]⟩ : ByteArray), ())))), ())))] : List (den (TChange))).length) * 56 ≤ 140737488355328) then LS3 sett0 t10 t11 (IntKind.wrap .i64 (t12 + (1 : Int))) (outo5 ++ ([((t10.getD (Int.toNat t12) (dflt (TChange))).1, (true, (((0 : Int), ((0 : Int), ((0 : Int), ((⟨#[]⟩ : ByteArray), ())))), ())))] : List (den (TChange)))) else none) else LS3 sett0 t10 t11 (IntKind.wrap .i64 (t12 + (1 : Int))) outo5) else LS3 sett0 t10 t11 (IntKind.wrap .i64 (t12 + (1 : Int))) outo5))) else (bif (!r1.2) then (bif (!((t10.getD (Int.toNat t12) (dflt (TChange))).2).1) then (bif decide ((outo5.length + ([((t10.getD (Int.toNat t12) (dflt (TChange))).1, (true, (((0 : Int), ((0 : Int), ((0 : Int), ((⟨#[]⟩ : ByteArray), ())))), ())))] : List (den (TChange))).length) * 56 ≤ 140737488355328) then LS3 sett0 t10 t11 (IntKind.wrap .i64 (t12 + (1 : Int))) (outo5 ++ ([((t10.getD (Int.toNat t12) (dflt (TChange))).1, (true, (((0 : Int), ((0 : Int), ((0 : Int), ((⟨#[]⟩ : ByteArray), ())))), ())))] : List (den (TChange)))) else none) else LS3 sett0 t10 t11 (IntKind.wrap .i64 (t12 + (1 : Int))) outo5) else LS3 sett0 t10 t11 (IntKind.wrap .i64 (t12 + (1 : Int))) outo5))) else none) else some outo5)
noncomputable def patch_Invert_l3 (C_attrs_Get : den (LAttr) → den (.int .i64) → Option (denR (.two (TValue) (.bool)))) (n : Nat)  : Nat → den (LAttr) → den (LChange) → den (.int .i64) → den (.int .i64) → den (LChange) → Option (denR (.one (LChange)))
  | 0, _, _, _, _, _ => none
  | m + 1, sett0, t10, t11, t12, outo5 => patch_Invert_s3 C_attrs_Get   (fun (sett0 : den (LAttr)) (t10 : den (LChange)) (t11 : den (.int .i64)) (t12 : den (.int .i64)) (outo5 : den (LChange)) => patch_Invert_l3 C_attrs_Get n  m sett0 t10 t11 t12 outo5) sett0 t10 t11 t12 outo5
noncomputable def patch_Invert_g3 (C_attrs_Get : den (LAttr) → den (.int .i64) → Option (denR (.two (TValue) (.bool))))   : List (den (TChange)) → den (LAttr) → den (LChange) → Option (denR (.one (LChange)))
  | [], sett0, outo5 => some outo5
  | x :: r, sett0, outo5 => ((C_attrs_Get sett0 x.1).bind fun r2 => (bif r2.2 then (bif x.2.1 then (bif decide ((outo5.length + ([(x.1, (false, (r2.1, ())))] : List (den (TChange))).length) * 56 ≤ 140737488355328) then patch_Invert_g3 C_attrs_Get   r sett0 (outo5 ++ ([(x.1, (false, (r2.1, ())))] : List (den (TChange)))) else none) else (bif (!eqT (TValue) r2.1 x.2.2.1) then (bif decide ((outo5.length + ([(x.1, (false, (r2.1, ())))] : List (den (TChange))).length) * 56 ≤ 140737488355328) then patch_Invert_g3 C_attrs_Get   r sett0 (outo5 ++ ([(x.1, (false, (r2.1, ())))] : List (den (TChange)))) else none) else (bif (!r2.2) then (bif (!x.2.1) then (bif decide ((outo5.length + ([(x.1, (true, (((0 : Int), ((0 : Int), ((0 : Int), ((⟨#[]⟩ : ByteArray), ())))), ())))] : List (den (TChange))).length) * 56 ≤ 140737488355328) then patch_Invert_g3 C_attrs_Get   r sett0 (outo5 ++ ([(x.1, (true, (((0 : Int), ((0 : Int), ((0 : Int), ((⟨#[]⟩ : ByteArray), ())))), ())))] : List (den (TChange)))) else none) else patch_Invert_g3 C_attrs_Get   r sett0 outo5) else patch_Invert_g3 C_attrs_Get   r sett0 outo5))) else (bif (!r2.2) then (bif (!x.2.1) then (bif decide ((outo5.length + ([(x.1, (true, (((0 : Int), ((0 : Int), ((0 : Int), ((⟨#[]⟩ : ByteArray), ())))), ())))] : List (den (TChange))).length) * 56 ≤ 140737488355328) then patch_Invert_g3 C_attrs_Get   r sett0 (outo5 ++ ([(x.1, (true, (((0 : Int), ((0 : Int), ((0 : Int), ((⟨#[]⟩ : ByteArray), ())))), ())))] : List (den (TChange)))) else none) else patch_Invert_g3 C_attrs_Get   r sett0 outo5) else patch_Invert_g3 C_attrs_Get   r sett0 outo5)))
theorem patch_Invert_l3_list (C_attrs_Get : den (LAttr) → den (.int .i64) → Option (denR (.two (TValue) (.bool)))) (n : Nat)  : ∀ (m i : Nat) (sett0 : den (LAttr)) (t10 : den (LChange)) (outo5 : den (LChange)), t10.length - i < m → i ≤ t10.length → t10.length < 4611686018427387904 → patch_Invert_l3 C_attrs_Get n  m sett0 t10 (t10.length : Int) (i : Int) outo5 = patch_Invert_g3 C_attrs_Get   (t10.drop i) sett0 outo5 := by
  intro m
  induction m with
  | zero => intro i sett0 t10 outo5 h1; omega
  | succ m ih =>
    intro i sett0 t10 outo5 h1 h2 h3
    show patch_Invert_s3 C_attrs_Get   (fun (sett0 : den (LAttr)) (t10 : den (LChange)) (t11 : den (.int .i64)) (t12 : den (.int .i64)) (outo5 : den (LChange)) => patch_Invert_l3 C_attrs_Get n  m sett0 t10 t11 t12 outo5) sett0 t10 (t10.length : Int) (i : Int) outo5 = _
    unfold patch_Invert_s3
    have b0 : decide ((0 : Int) ≤ (i : Int)) = true := decide_eq_true (by omega)
    rcases Nat.lt_or_ge i t10.length with hi | hi
    · have b1 : decide ((i : Int) < (t10.length : Int)) = true := decide_eq_true (by omega)
      have bw : IntKind.i64.wrap ((i : Int) + (1 : Int)) = ((i + 1 : Nat) : Int) := w64s (by omega)
      have ih' : ∀ (sett0 : den (LAttr)) (outo5 : den (LChange)), patch_Invert_l3 C_attrs_Get n  m sett0 t10 (t10.length : Int) ((i + 1 : Nat) : Int) outo5 = patch_Invert_g3 C_attrs_Get   (t10.drop (i + 1)) sett0 outo5 := fun sett0 outo5 => ih (i + 1) sett0 t10 outo5 (by omega) (by omega) h3
      simp only [b0, b1, bw, Bool.and_true, Bool.true_and, cond_true, Int.toNat_natCast, ih']
      rw [drop_getD hi (dflt (TChange))]
      rfl
    · have b1 : decide ((i : Int) < (t10.length : Int)) = false := decide_eq_false (by omega)
      simp only [b1, cond_false]
      rw [List.drop_eq_nil_of_le hi]
      rfl
noncomputable def patch_Invert_F3 (call : Call0) (n : Nat)  : (St → Option (denR (.one (LChange)))) → St → Option (denR (.one (LChange))) := fun rec => exec cfg call n 29 (cat B29 [1, 1, 0, 1, 0, 0]) (kLoop rec (lk2 29 3 cfg.keep) (kBlock 0 (kSq (exec cfg call n 29 (cat B29 [1, 1, 1])) (kret cfg Go.Proofs.Tryd.f29 (.one (LChange))))))
theorem patch_Invert_l3_eq (call : Call0) (n : Nat)  : ∀ (m : Nat) (sett0 : den (LAttr)) (t10 : den (LChange)) (t11 : den (.int .i64)) (t12 : den (.int .i64)) (outo5 : den (LChange)), loopN (patch_Invert_F3 call n ) m (patch_Invert_sh3 sett0 t10 t11 t12 outo5) = patch_Invert_l3 (fun (a0 : den (LAttr)) (a1 : den (.int .i64)) => call.p 40 [.s (.val (LAttr) a0), .s (.val (.int .i64) a1)] (.two (TValue) (.bool))) n  m sett0 t10 t11 t12 outo5 := by
  intro m
  induction m with
  | zero => intros; rfl
  | succ m ih =>
    intro sett0 t10 t11 t12 outo5
    have h : loopN (patch_Invert_F3 call n ) (m + 1) (patch_Invert_sh3 sett0 t10 t11 t12 outo5) = patch_Invert_s3 (fun (a0 : den (LAttr)) (a1 : den (.int .i64)) => call.p 40 [.s (.val (LAttr) a0), .s (.val (.int .i64) a1)] (.two (TValue) (.bool)))   (fun (sett0 : den (LAttr)) (t10 : den (LChange)) (t11 : den (.int .i64)) (t12 : den (.int .i64)) (outo5 : den (LChange)) => loopN (patch_Invert_F3 call n ) m (patch_Invert_sh3 sett0 t10 t11 t12 outo5)) sett0 t10 t11 t12 outo5 := by kernel_rfl
    have e0 : (fun (sett0 : den (LAttr)) (t10 : den (LChange)) (t11 : den (.int .i64)) (t12 : den (.int .i64)) (outo5 : den (LChange)) => loopN (patch_Invert_F3 call n ) m (patch_Invert_sh3 sett0 t10 t11 t12 outo5)) = (fun (sett0 : den (LAttr)) (t10 : den (LChange)) (t11 : den (.int .i64)) (t12 : den (.int .i64)) (outo5 : den (LChange)) => patch_Invert_l3 (fun (a0 : den (LAttr)) (a1 : den (.int .i64)) => call.p 40 [.s (.val (LAttr) a0), .s (.val (.int .i64) a1)] (.two (TValue) (.bool))) n  m sett0 t10 t11 t12 outo5) := by funext sett0 t10 t11 t12 outo5; exact ih sett0 t10 t11 t12 outo5
    rw [h, e0]; rfl
noncomputable def patch_Invert_top (C_attrs_Get : den (LAttr) → den (.int .i64) → Option (denR (.two (TValue) (.bool)))) (LL3 : den (LAttr) → den (LChange) → den (.int .i64) → den (.int .i64) → den (LChange) → Option (denR (.one (LChange)))) (a0 : den (LAttr)) (a1 : den (LChange)) : Option (denR (.one (LChange))) := LL3 a0 a1 (a1.length : Int) (0 : Int) []
noncomputable def patch_Invert : Nat → den (LAttr) → den (LChange) → Option (denR (.one (LChange)))
  | 0, _, _ => none
  | n + 1, a0, a1 => patch_Invert_top (attrs_Get n) (patch_Invert_l3 (attrs_Get n) n n) a0 a1
theorem patch_Invert_eq (n : Nat) (a0 : den (LAttr)) (a1 : den (LChange)) : (acalls cfg intr intrI n).p 29 [.s (.val (LAttr) a0), .s (.val (LChange) a1)] (.one (LChange)) = patch_Invert n a0 a1 := by
  cases n with
  | zero => rfl
  | succ n =>
    have h : (acalls cfg intr intrI (n + 1)).p 29 [.s (.val (LAttr) a0), .s (.val (LChange) a1)] (.one (LChange)) = patch_Invert_top (fun (a0 : den (LAttr)) (a1 : den (.int .i64)) => (acalls cfg intr intrI n).p 40 [.s (.val (LAttr) a0), .s (.val (.int .i64) a1)] (.two (TValue) (.bool))) (fun (sett0 : den (LAttr)) (t10 : den (LChange)) (t11 : den (.int .i64)) (t12 : den (.int .i64)) (outo5 : den (LChange)) => loopN (patch_Invert_F3 (acalls cfg intr intrI n) n) n (patch_Invert_sh3 sett0 t10 t11 t12 outo5)) a0 a1 := by kernel_rfl
    have e3 : (fun (sett0 : den (LAttr)) (t10 : den (LChange)) (t11 : den (.int .i64)) (t12 : den (.int .i64)) (outo5 : den (LChange)) => loopN (patch_Invert_F3 (acalls cfg intr intrI n) n) n (patch_Invert_sh3 sett0 t10 t11 t12 outo5)) = patch_Invert_l3 (fun (a0 : den (LAttr)) (a1 : den (.int .i64)) => (acalls cfg intr intrI n).p 40 [.s (.val (LAttr) a0), .s (.val (.int .i64) a1)] (.two (TValue) (.bool))) n n := by funext sett0 t10 t11 t12 outo5; exact patch_Invert_l3_eq (acalls cfg intr intrI n) n n sett0 t10 t11 t12 outo5
    have c_attrs_Get : (fun (a0 : den (LAttr)) (a1 : den (.int .i64)) => (acalls cfg intr intrI n).p 40 [.s (.val (LAttr) a0), .s (.val (.int .i64) a1)] (.two (TValue) (.bool))) = attrs_Get n := by funext a0 a1; exact attrs_Get_eq n a0 a1
    rw [h, e3, c_attrs_Get]; rfl

noncomputable def law06_known_top (C_law06_known_1 : den (.int .i64) → Option (denR (.one (TValue)))) (C_patch_Diff : den (LAttr) → den (LAttr) → Option (denR (.one (LChange)))) (C_patch_Same : den (LChange) → den (LChange) → Option (denR (.one (.bool)))) (C_patch_Apply : den (LAttr) → den (LChange) → Option (denR (.one (LAttr)))) (C_ref05_Same : den (LAttr) → den (LAttr) → Option (denR (.one (.bool)))) (C_patch_Invert : den (LAttr) → den (LChange) → Option (denR (.one (LChange))))   : Option (denR (.one (.bool))) := ((C_law06_known_1 (2 : Int)).bind fun r1 => ((C_law06_known_1 (4 : Int)).bind fun r2 => ((C_law06_known_1 (5 : Int)).bind fun r3 => ((C_patch_Diff ([((1 : Int), (r1, ())), ((3 : Int), (r2, ()))] : den (LAttr)) ([((3 : Int), (r3, ()))] : den (LAttr))).bind fun r4 => ((C_law06_known_1 (5 : Int)).bind fun r5 => ((C_patch_Same r4 ([((1 : Int), (true, (((0 : Int), ((0 : Int), ((0 : Int), ((⟨#[]⟩ : ByteArray), ())))), ()))), ((3 : Int), (false, (r5, ())))] : den (LChange))).bind fun r6 => (bif r6 then ((C_patch_Apply ([((1 : Int), (r1, ())), ((3 : Int), (r2, ()))] : den (LAttr)) r4).bind fun r7 => ((C_ref05_Same r7 ([((3 : Int), (r3, ()))] : den (LAttr))).bind fun r8 => (bif r8 then ((C_patch_Invert ([((1 : Int), (r1, ())), ((3 : Int), (r2, ()))] : den (LAttr)) r4).bind fun r9 => ((C_patch_Apply ([((3 : Int), (r3, ()))] : den (LAttr)) r9).bind fun r10 => ((C_ref05_Same r10 ([((1 : Int), (r1, ())), ((3 : Int), (r2, ()))] : den (LAttr))).bind fun r11 => some r11))) else some false))) else some false)))))))
noncomputable def law06_known : Nat → Option (denR (.one (.bool)))
  | 0 => none
  | n + 1 => law06_known_top (law06_known_1 n) (patch_Diff n) (patch_Same n) (patch_Apply n) (ref05_Same n) (patch_Invert n)  
theorem law06_known_eq (n : Nat)  : (acalls cfg intr intrI n).p 11 [] (.one (.bool)) = law06_known n  := by
  cases n with
  | zero => rfl
  | succ n =>
    have h : (acalls cfg intr intrI (n + 1)).p 11 [] (.one (.bool)) = law06_known_top (fun (a0 : den (.int .i64)) => (acalls cfg intr intrI n).p 44 [.s (.val (.int .i64) a0)] (.one (TValue))) (fun (a0 : den (LAttr)) (a1 : den (LAttr)) => (acalls cfg intr intrI n).p 27 [.s (.val (LAttr) a0), .s (.val (LAttr) a1)] (.one (LChange))) (fun (a0 : den (LChange)) (a1 : den (LChange)) => (acalls cfg intr intrI n).p 21 [.s (.val (LChange) a0), .s (.val (LChange) a1)] (.one (.bool))) (fun (a0 : den (LAttr)) (a1 : den (LChange)) => (acalls cfg intr intrI n).p 15 [.s (.val (LAttr) a0), .s (.val (LChange) a1)] (.one (LAttr))) (fun (a0 : den (LAttr)) (a1 : den (LAttr)) => (acalls cfg intr intrI n).p 16 [.s (.val (LAttr) a0), .s (.val (LAttr) a1)] (.one (.bool))) (fun (a0 : den (LAttr)) (a1 : den (LChange)) => (acalls cfg intr intrI n).p 29 [.s (.val (LAttr) a0), .s (.val (LChange) a1)] (.one (LChange)))   := by kernel_rfl
    have c_law06_known_1 : (fun (a0 : den (.int .i64)) => (acalls cfg intr intrI n).p 44 [.s (.val (.int .i64) a0)] (.one (TValue))) = law06_known_1 n := by funext a0; exact law06_known_1_eq n a0
    have c_patch_Diff : (fun (a0 : den (LAttr)) (a1 : den (LAttr)) => (acalls cfg intr intrI n).p 27 [.s (.val (LAttr) a0), .s (.val (LAttr) a1)] (.one (LChange))) = patch_Diff n := by funext a0 a1; exact patch_Diff_eq n a0 a1
    have c_patch_Same : (fun (a0 : den (LChange)) (a1 : den (LChange)) => (acalls cfg intr intrI n).p 21 [.s (.val (LChange) a0), .s (.val (LChange) a1)] (.one (.bool))) = patch_Same n := by funext a0 a1; exact patch_Same_eq n a0 a1
    have c_patch_Apply : (fun (a0 : den (LAttr)) (a1 : den (LChange)) => (acalls cfg intr intrI n).p 15 [.s (.val (LAttr) a0), .s (.val (LChange) a1)] (.one (LAttr))) = patch_Apply n := by funext a0 a1; exact patch_Apply_eq n a0 a1
    have c_ref05_Same : (fun (a0 : den (LAttr)) (a1 : den (LAttr)) => (acalls cfg intr intrI n).p 16 [.s (.val (LAttr) a0), .s (.val (LAttr) a1)] (.one (.bool))) = ref05_Same n := by funext a0 a1; exact ref05_Same_eq n a0 a1
    have c_patch_Invert : (fun (a0 : den (LAttr)) (a1 : den (LChange)) => (acalls cfg intr intrI n).p 29 [.s (.val (LAttr) a0), .s (.val (LChange) a1)] (.one (LChange))) = patch_Invert n := by funext a0 a1; exact patch_Invert_eq n a0 a1
    rw [h, c_law06_known_1, c_patch_Diff, c_patch_Same, c_patch_Apply, c_ref05_Same, c_patch_Invert]; rfl

noncomputable def B9 : Code := (Go.Proofs.Tryd.f9.body).getD .skip
noncomputable def law06_great_sh12 (setst1 : den (LLAttr)) (nt5 : den (.int .i64)) (it7 : den (.int .i64)) (t27 : den (.int .i64)) (t28 : den (.int .i64)) (t42 : den (.int .i64)) (t43 : den (.int .i64)) : St := ⟨[U, .s (.val (LLAttr) setst1), U, U, U, .s (.val (.int .i64) nt5), U, .s (.val (.int .i64) it7), U, U, U, U, U, U, U, U, U, U, U, U, U, U, U, U, U, U, U, .s (.val (.int .i64) t27), .s (.val (.int .i64) t28), U, U, U, U, U, U, U, U, U, U, U, U, U, .s (.val (.int .i64) t42), .s (.val (.int .i64) t43), U, U, U, U, U, U, U, U, U, U, U, U, U, U, U, U, U, U], []⟩
noncomputable def law06_great_sh8 (setst1 : den (LLAttr)) (nt5 : den (.int .i64)) (t27 : den (.int .i64)) (t28 : den (.int .i64)) : St := ⟨[U, .s (.val (LLAttr) setst1), U, U, U, .s (.val (.int .i64) nt5), U, U, U, U, U, U, U, U, U, U, U, U, U, U, U, U, U, U, U, U, U, .s (.val (.int .i64) t27), .s (.val (.int .i64) t28), U, U, U, U, U, U, U, U, U, U, U, U, U, U, U, U, U, U, U, U, U, U, U, U, U, U, U, U, U, U, U, U, U], []⟩
noncomputable def law06_great_sh3 (pt0 : den (LChange)) (setst1 : den (LLAttr)) (nt5 : den (.int .i64)) (t12 : den (.int .i64)) (t13 : den (.int .i64)) : St := ⟨[.s (.val (LChange) pt0), .s (.val (LLAttr) setst1), U, U, U, .s (.val (.int .i64) nt5), U, U, U, U, U, U, .s (.val (.int .i64) t12), .s (.val (.int .i64) t13), U, U, U, U, U, U, U, U, U, U, U, U, U, U, U, U, U, U, U, U, U, U, U, U, U, U, U, U, U, U, U, U, U, U, U, U, U, U, U, U, U, U, U, U, U, U, U, U], []⟩
noncomputable def law06_great_s12   (LS8 : den (LLAttr) → den (.int .i64) → den (.int .i64) → den (.int .i64) → Option (denR (.one (.bool)))) (LS12 : den (LLAttr) → den (.int .i64) → den (.int .i64) → den (.int .i64) → den (.int .i64) → den (.int .i64) → den (.int .i64) → Option (denR (.one (.bool)))) (setst1 : den (LLAttr)) (nt5 : den (.int .i64)) (it7 : den (.int .i64)) (t27 : den (.int .i64)) (t28 : den (.int .i64)) (t42 : den (.int .i64)) (t43 : den (.int .i64)) : Option (denR (.one (.bool))) := (bif (decide (t43 < t42)) then (bif decide (0 ≤ it7) && decide (it7 < (setst1.length : Int)) then (bif decide (0 ≤ t43) && decide (t43 < ((setst1.getD (Int.toNat it7) (dflt (LAttr))).length : Int)) then LS12 setst1 (IntKind.wrap .i64 (nt5 + (ByteArray.size ((((((((setst1.getD (Int.toNat it7) (dflt (LAttr))).getD (Int.toNat t43) (dflt (TAttr))).2).1).2).2).2).1) : Int))) it7 t27 t28 t42 (IntKind.wrap .i64 (t43 + (1 : Int))) else none) else none) else LS8 setst1 nt5 t27 (IntKind.wrap .i64 (t28 + (1 : Int))))
noncomputable def law06_great_l12  (n : Nat) (LS8 : den (LLAttr) → den (.int .i64) → den (.int .i64) → den (.int .i64) → Option (denR (.one (.bool)))) : Nat → den (LLAttr) → den (.int .i64) → den (.int .i64) → den (.int .i64) → den (.int .i64) → den (.int .i64) → den (.int .i64) → Option (denR (.one (.bool)))
  | 0, _, _, _, _, _, _, _ => none
  | m + 1, setst1, nt5, it7, t27, t28, t42, t43 => law06_great_s12   LS8 (fun (setst1 : den (LLAttr)) (nt5 : den (.int .i64)) (it7 : den (.int .i64)) (t27 : den (.int .i64)) (t28 : den (.int .i64)) (t42 : den (.int .i64)) (t43 : den (.int .i64)) => law06_great_l12  n LS8 m setst1 nt5 it7 t27 t28 t42 t43) setst1 nt5 it7 t27 t28 t42 t43
noncomputable def law06_great_F12 (call : Call0) (n : Nat) (r8 : St → Option (denR (.one (.bool)))) : (St → Option (denR (.one (.bool)))) → St → Option (denR (.one (.bool))) := fun rec => exec cfg call n 9 (cat B9 [1, 1, 1, 0, 1, 0, 0, 1, 1, 0, 0, 1, 1, 1, 0, 0]) (kLoop rec (lk2 9 12 cfg.keep) (kBlock 4 (kBlock 3 (kSq (exec cfg call n 9 (cat B9 [1, 1, 1, 0, 1, 0, 0, 1, 1, 1])) (kLoop r8 (lk2 9 8 cfg.keep) (kBlock 2 (kSq (exec cfg call n 9 (cat B9 [1, 1, 1, 1])) (kret cfg Go.Proofs.Tryd.f9 (.one (.bool))))))))))
theorem law06_great_l12_eq (call : Call0) (n : Nat) (r8 : St → Option (denR (.one (.bool)))) : ∀ (m : Nat) (setst1 : den (LLAttr)) (nt5 : den (.int .i64)) (it7 : den (.int .i64)) (t27 : den (.int .i64)) (t28 : den (.int .i64)) (t42 : den (.int .i64)) (t43 : den (.int .i64)), loopN (law06_great_F12 call n r8) m (law06_great_sh12 setst1 nt5 it7 t27 t28 t42 t43) = law06_great_l12  n (fun (setst1 : den (LLAttr)) (nt5 : den (.int .i64)) (t27 : den (.int .i64)) (t28 : den (.int .i64)) => r8 (law06_great_sh8 setst1 nt5 t27 t28)) m setst1 nt5 it7 t27 t28 t42 t43 := by
  intro m
  induction m with
  | zero => intros; rfl
  | succ m ih =>
    intro setst1 nt5 it7 t27 t28 t42 t43
    have h : loopN (law06_great_F12 call n r8) (m + 1) (law06_great_sh12 setst1 nt5 it7 t27 t28 t42 t43) = law06_great_s12   (fun (setst1 : den (LLAttr)) (nt5 : den (.int .i64)) (t27 : den (.int .i64)) (t28 : den (.int .i64)) => r8 (law06_great_sh8 setst1 nt5 t27 t28)) (fun (setst1 : den (LLAttr)) (nt5 : den (.int .i64)) (it7 : den (.int .i64)) (t27 : den (.int .i64)) (t28 : den (.int .i64)) (t42 : den (.int .i64)) (t43 : den (.int .i64)) => loopN (law06_great_F12 call n r8) m (law06_great_sh12 setst1 nt5 it7 t27 t28 t42 t43)) setst1 nt5 it7 t27 t28 t42 t43 := by kernel_rfl
    have e0 : (fun (setst1 : den (LLAttr)) (nt5 : den (.int .i64)) (it7 : den (.int .i64)) (t27 : den (.int .i64)) (t28 : den (.int .i64)) (t42 : den (.int .i64)) (t43 : den (.int .i64)) => loopN (law06_great_F12 call n r8) m (law06_great_sh12 setst1 nt5 it7 t27 t28 t42 t43)) = (fun (setst1 : den (LLAttr)) (nt5 : den (.int .i64)) (it7 : den (.int .i64)) (t27 : den (.int .i64)) (t28 : den (.int .i64)) (t42 : den (.int .i64)) (t43 : den (.int .i64)) => law06_great_l12  n (fun (setst1 : den (LLAttr)) (nt5 : den (.int .i64)) (t27 : den (.int .i64)) (t28 : den (.int .i64)) => r8 (law06_great_sh8 setst1 nt5 t27 t28)) m setst1 nt5 it7 t27 t28 t42 t43) := by funext setst1 nt5 it7 t27 t28 t42 t43; exact ih setst1 nt5 it7 t27 t28 t42 t43
    rw [h, e0]; rfl
noncomputable def law06_great_s8  (LL12 : den (LLAttr) → den (.int .i64) → den (.int .i64) → den (.int .i64) → den (.int .i64) → den (.int .i64) → den (.int .i64) → Option (denR (.one (.bool))))  (LS8 : den (LLAttr) → den (.int .i64) → den (.int .i64) → den (.int .i64) → Option (denR (.one (.bool)))) (setst1 : den (LLAttr)) (nt5 : den (.int .i64)) (t27 : den (.int .i64)) (t28 : den (.int .i64)) : Option (denR (.one (.bool))) := (bif (decide (t28 < t27)) then (bif decide (0 ≤ t28) && decide (t28 < (setst1.length : Int)) then (bif decide (0 ≤ t28) && decide (t28 < (setst1.length : Int)) then LL12 setst1 (IntKind.wrap .i64 (nt5 + ((setst1.getD (Int.toNat t28) (dflt (LAttr))).length : Int))) t28 t27 t28 ((setst1.getD (Int.toNat t28) (dflt (LAttr))).length : Int) (0 : Int) else none) else none) else some (decide ((4000 : Int) < nt5)))
noncomputable def law06_great_l8  (n : Nat)  : Nat → den (LLAttr) → den (.int .i64) → den (.int .i64) → den (.int .i64) → Option (denR (.one (.bool)))
  | 0, _, _, _, _ => none
  | m + 1, setst1, nt5, t27, t28 => law06_great_s8  (law06_great_l12  n (fun (setst1 : den (LLAttr)) (nt5 : den (.int .i64)) (t27 : den (.int .i64)) (t28 : den (.int .i64)) => law06_great_l8  n  m setst1 nt5 t27 t28) n)  (fun (setst1 : den (LLAttr)) (nt5 : den (.int .i64)) (t27 : den (.int .i64)) (t28 : den (.int .i64)) => law06_great_l8  n  m setst1 nt5 t27 t28) setst1 nt5 t27 t28
noncomputable def law06_great_F8 (call : Call0) (n : Nat)  : (St → Option (denR (.one (.bool)))) → St → Option (denR (.one (.bool))) := fun rec => exec cfg call n 9 (cat B9 [1, 1, 1, 0, 1, 0, 0]) (kLoop rec (lk2 9 8 cfg.keep) (kBlock 2 (kSq (exec cfg call n 9 (cat B9 [1, 1, 1, 1])) (kret cfg Go.Proofs.Tryd.f9 (.one (.bool))))))
theorem law06_great_l8_eq (call : Call0) (n : Nat)  : ∀ (m : Nat) (setst1 : den (LLAttr)) (nt5 : den (.int .i64)) (t27 : den (.int .i64)) (t28 : den (.int .i64)), loopN (law06_great_F8 call n ) m (law06_great_sh8 setst1 nt5 t27 t28) = law06_great_l8  n  m setst1 nt5 t27 t28 := by
  intro m
  induction m with
  | zero => intros; rfl
  | succ m ih =>
    intro setst1 nt5 t27 t28
    have h : loopN (law06_great_F8 call n ) (m + 1) (law06_great_sh8 setst1 nt5 t27 t28) = law06_great_s8  (fun (setst1 : den (LLAttr)) (nt5 : den (.int .i64)) (it7 : den (.int .i64)) (t27 : den (.int .i64)) (t28 : den (.int .i64)) (t42 : den (.int .i64)) (t43 : den (.int .i64)) => loopN (law06_great_F12 call n (loopN (law06_great_F8 call n ) m)) n (law06_great_sh12 setst1 nt5 it7 t27 t28 t42 t43))  (fun (setst1 : den (LLAttr)) (nt5 : den (.int .i64)) (t27 : den (.int .i64)) (t28 : den (.int .i64)) => loopN (law06_great_F8 call n ) m (law06_great_sh8 setst1 nt5 t27 t28)) setst1 nt5 t27 t28 := by kernel_rfl
    have e12 : (fun (setst1 : den (LLAttr)) (nt5 : den (.int .i64)) (it7 : den (.int .i64)) (t27 : den (.int .i64)) (t28 : den (.int .i64)) (t42 : den (.int .i64)) (t43 : den (.int .i64)) => loopN (law06_great_F12 call n (loopN (law06_great_F8 call n ) m)) n (law06_great_sh12 setst1 nt5 it7 t27 t28 t42 t43)) = law06_great_l12  n (fun (setst1 : den (LLAttr)) (nt5 : den (.int .i64)) (t27 : den (.int .i64)) (t28 : den (.int .i64)) => (loopN (law06_great_F8 call n ) m) (law06_great_sh8 setst1 nt5 t27 t28)) n := by funext setst1 nt5 it7 t27 t28 t42 t43; exact law06_great_l12_eq call n (loopN (law06_great_F8 call n ) m) n setst1 nt5 it7 t27 t28 t42 t43
    have e0 : (fun (setst1 : den (LLAttr)) (nt5 : den (.int .i64)) (t27 : den (.int .i64)) (t28 : den (.int .i64)) => loopN (law06_great_F8 call n ) m (law06_great_sh8 setst1 nt5 t27 t28)) = (fun (setst1 : den (LLAttr)) (nt5 : den (.int .i64)) (t27 : den (.int .i64)) (t28 : den (.int .i64)) => law06_great_l8  n  m setst1 nt5 t27 t28) := by funext setst1 nt5 t27 t28; exact ih setst1 nt5 t27 t28
    rw [h, e12, e0]; rfl
noncomputable def law06_great_s3  (LL8 : den (LLAttr) → den (.int .i64) → den (.int .i64) → den (.int .i64) → Option (denR (.one (.bool))))  (LS3 : den (LChange) → den (LLAttr) → den (.int .i64) → den (.int .i64) → den (.int .i64) → Option (denR (.one (.bool)))) (pt0 : den (LChange)) (setst1 : den (LLAttr)) (nt5 : den (.int .i64)) (t12 : den (.int .i64)) (t13 : den (.int .i64)) : Option (denR (.one (.bool))) := (bif (decide (t13 < t12)) then (bif decide (0 ≤ t13) && decide (t13 < (pt0.length : Int)) then LS3 pt0 setst1 (IntKind.wrap .i64 (nt5 + (ByteArray.size ((((((((pt0.getD (Int.toNat t13) (dflt (TChange))).2).2).1).2).2).2).1) : Int))) t12 (IntKind.wrap .i64 (t13 + (1 : Int))) else none) else LL8 setst1 nt5 (setst1.length : Int) (0 : Int))
noncomputable def law06_great_l3  (n : Nat)  : Nat → den (LChange) → den (LLAttr) → den (.int .i64) → den (.int .i64) → den (.int .i64) → Option (denR (.one (.bool)))
  | 0, _, _, _, _, _ => none
  | m + 1, pt0, setst1, nt5, t12, t13 => law06_great_s3  (law06_great_l8  n  n)  (fun (pt0 : den (LChange)) (setst1 : den (LLAttr)) (nt5 : den (.int .i64)) (t12 : den (.int .i64)) (t13 : den (.int .i64)) => law06_great_l3  n  m pt0 setst1 nt5 t12 t13) pt0 setst1 nt5 t12 t13
noncomputable def law06_great_g3  (LL8 : den (LLAttr) → den (.int .i64) → den (.int .i64) → den (.int .i64) → Option (denR (.one (.bool))))  : List (den (TChange)) → den (LLAttr) → den (.int .i64) → Option (denR (.one (.bool)))
  | [], setst1, nt5 => LL8 setst1 nt5 (setst1.length : Int) (0 : Int)
  | x :: r, setst1, nt5 => law06_great_g3  LL8  r setst1 (IntKind.wrap .i64 (nt5 + (ByteArray.size x.2.2.1.2.2.2.1 : Int)))
theorem law06_great_l3_list  (n : Nat)  : ∀ (m i : Nat) (pt0 : den (LChange)) (setst1 : den (LLAttr)) (nt5 : den (.int .i64)), pt0.length - i < m → i ≤ pt0.length → pt0.length < 4611686018427387904 → law06_great_l3  n  m pt0 setst1 nt5 (pt0.length : Int) (i : Int) = law06_great_g3  (law06_great_l8  n  n)  (pt0.drop i) setst1 nt5 := by
  intro m
  induction m with
  | zero => intro i pt0 setst1 nt5 h1; omega
  | succ m ih =>
    intro i pt0 setst1 nt5 h1 h2 h3
    show law06_great_s3  (law06_great_l8  n  n)  (fun (pt0 : den (LChange)) (setst1 : den (LLAttr)) (nt5 : den (.int .i64)) (t12 : den (.int .i64)) (t13 : den (.int .i64)) => law06_great_l3  n  m pt0 setst1 nt5 t12 t13) pt0 setst1 nt5 (pt0.length : Int) (i : Int) = _
    unfold law06_great_s3
    have b0 : decide ((0 : Int) ≤ (i : Int)) = true := decide_eq_true (by omega)
    rcases Nat.lt_or_ge i pt0.length with hi | hi
    · have b1 : decide ((i : Int) < (pt0.length : Int)) = true := decide_eq_true (by omega)
      have bw : IntKind.i64.wrap ((i : Int) + (1 : Int)) = ((i + 1 : Nat) : Int) := w64s (by omega)
      have ih' : ∀ (setst1 : den (LLAttr)) (nt5 : den (.int .i64)), law06_great_l3  n  m pt0 setst1 nt5 (pt0.length : Int) ((i + 1 : Nat) : Int) = law06_great_g3  (law06_great_l8  n  n)  (pt0.drop (i + 1)) setst1 nt5 := fun setst1 nt5 => ih (i + 1) pt0 setst1 nt5 (by omega) (by omega) h3
      simp only [b0, b1, bw, Bool.and_true, Bool.true_and, cond_true, Int.toNat_natCast, ih']
      rw [drop_getD hi (dflt (TChange))]
      rfl
    · have b1 : decide ((i : Int) < (pt0.length : Int)) = false := decide_eq_false (by omega)
      simp only [b1, cond_false]
      rw [List.drop_eq_nil_of_le hi]
      rfl
noncomputable def law06_great_F3 (call : Call0) (n : Nat)  : (St → Option (denR (.one (.bool)))) → St → Option (denR (.one (.bool))) := fun rec => exec cfg call n 9 (cat B9 [1, 1, 0, 1, 0, 0]) (kLoop rec (lk2 9 3 cfg.keep) (kBlock 0 (kSq (exec cfg call n 9 (cat B9 [1, 1, 1])) (kret cfg Go.Proofs.Tryd.f9 (.one (.bool))))))
theorem law06_great_l3_eq (call : Call0) (n : Nat)  : ∀ (m : Nat) (pt0 : den (LChange)) (setst1 : den (LLAttr)) (nt5 : den (.int .i64)) (t12 : den (.int .i64)) (t13 : den (.int .i64)), loopN (law06_great_F3 call n ) m (law06_great_sh3 pt0 setst1 nt5 t12 t13) = law06_great_l3  n  m pt0 setst1 nt5 t12 t13 := by
  intro m
  induction m with
  | zero => intros; rfl
  | succ m ih =>
    intro pt0 setst1 nt5 t12 t13
    have h : loopN (law06_great_F3 call n ) (m + 1) (law06_great_sh3 pt0 setst1 nt5 t12 t13) = law06_great_s3  (fun (setst1 : den (LLAttr)) (nt5 : den (.int .i64)) (t27 : den (.int .i64)) (t28 : den (.int .i64)) => loopN (law06_great_F8 call n ) n (law06_great_sh8 setst1 nt5 t27 t28))  (fun (pt0 : den (LChange)) (setst1 : den (LLAttr)) (nt5 : den (.int .i64)) (t12 : den (.int .i64)) (t13 : den (.int .i64)) => loopN (law06_great_F3 call n ) m (law06_great_sh3 pt0 setst1 nt5 t12 t13)) pt0 setst1 nt5 t12 t13 := by kernel_rfl
    have e8 : (fun (setst1 : den (LLAttr)) (nt5 : den (.int .i64)) (t27 : den (.int .i64)) (t28 : den (.int .i64)) => loopN (law06_great_F8 call n ) n (law06_great_sh8 setst1 nt5 t27 t28)) = law06_great_l8  n  n := by funext setst1 nt5 t27 t28; exact law06_great_l8_eq call n  n setst1 nt5 t27 t28
    have e0 : (fun (pt0 : den (LChange)) (setst1 : den (LLAttr)) (nt5 : den (.int .i64)) (t12 : den (.int .i64)) (t13 : den (.int .i64)) => loopN (law06_great_F3 call n ) m (law06_great_sh3 pt0 setst1 nt5 t12 t13)) = (fun (pt0 : den (LChange)) (setst1 : den (LLAttr)) (nt5 : den (.int .i64)) (t12 : den (.int .i64)) (t13 : den (.int .i64)) => law06_great_l3  n  m pt0 setst1 nt5 t12 t13) := by funext pt0 setst1 nt5 t12 t13; exact ih pt0 setst1 nt5 t12 t13
    rw [h, e8, e0]; rfl
noncomputable def law06_great_top  (LL3 : den (LChange) → den (LLAttr) → den (.int .i64) → den (.int .i64) → den (.int .i64) → Option (denR (.one (.bool)))) (a0 : den (LChange)) (a1 : den (LLAttr)) : Option (denR (.one (.bool))) := LL3 a0 a1 (a0.length : Int) (a0.length : Int) (0 : Int)
noncomputable def law06_great : Nat → den (LChange) → den (LLAttr) → Option (denR (.one (.bool)))
  | 0, _, _ => none
  | n + 1, a0, a1 => law06_great_top  (law06_great_l3  n n) a0 a1
theorem law06_great_eq (n : Nat) (a0 : den (LChange)) (a1 : den (LLAttr)) : (acalls cfg intr intrI n).p 9 [.s (.val (LChange) a0), .s (.val (LLAttr) a1)] (.one (.bool)) = law06_great n a0 a1 := by
  cases n with
  | zero => rfl
  | succ n =>
    have h : (acalls cfg intr intrI (n + 1)).p 9 [.s (.val (LChange) a0), .s (.val (LLAttr) a1)] (.one (.bool)) = law06_great_top  (fun (pt0 : den (LChange)) (setst1 : den (LLAttr)) (nt5 : den (.int .i64)) (t12 : den (.int .i64)) (t13 : den (.int .i64)) => loopN (law06_great_F3 (acalls cfg intr intrI n) n) n (law06_great_sh3 pt0 setst1 nt5 t12 t13)) a0 a1 := by kernel_rfl
    have e3 : (fun (pt0 : den (LChange)) (setst1 : den (LLAttr)) (nt5 : den (.int .i64)) (t12 : den (.int .i64)) (t13 : den (.int .i64)) => loopN (law06_great_F3 (acalls cfg intr intrI n) n) n (law06_great_sh3 pt0 setst1 nt5 t12 t13)) = law06_great_l3  n n := by funext pt0 setst1 nt5 t12 t13; exact law06_great_l3_eq (acalls cfg intr intrI n) n n pt0 setst1 nt5 t12 t13
    rw [h, e3]; rfl

noncomputable def B10 : Code := (Go.Proofs.Tryd.f10.body).getD .skip
noncomputable def ref05_Rising_sh2 (sett0 : den (LAttr)) (it3 : den (.int .i64)) : St := ⟨[.s (.val (LAttr) sett0), U, U, .s (.val (.int .i64) it3), U, U, U, U, U, U, U, U, U, U, U, U, U, U, U, U, U, U], []⟩
noncomputable def ref05_Rising_s2    (LS2 : den (LAttr) → den (.int .i64) → Option (denR (.one (.bool)))) (sett0 : den (LAttr)) (it3 : den (.int .i64)) : Option (denR (.one (.bool))) := (bif (decide (it3 < (sett0.length : Int))) then (bif decide (0 ≤ (IntKind.wrap .i64 (it3 - (1 : Int)))) && decide ((IntKind.wrap .i64 (it3 - (1 : Int))) < (sett0.length : Int)) then (bif decide (0 ≤ it3) && decide (it3 < (sett0.length : Int)) then (bif (decide ((sett0.getD (Int.toNat it3) (dflt (TAttr))).1 ≤ (sett0.getD (Int.toNat (IntKind.wrap .i64 (it3 - (1 : Int)))) (dflt (TAttr))).1)) then some false else LS2 sett0 (IntKind.wrap .i64 (it3 + (1 : Int)))) else none) else none) else some true)
noncomputable def ref05_Rising_l2  (n : Nat)  : Nat → den (LAttr) → den (.int .i64) → Option (denR (.one (.bool)))
  | 0, _, _ => none
  | m + 1, sett0, it3 => ref05_Rising_s2    (fun (sett0 : den (LAttr)) (it3 : den (.int .i64)) => ref05_Rising_l2  n  m sett0 it3) sett0 it3
noncomputable def ref05_Rising_g2    : List (den (TAttr)) → den (LAttr) → den (.int .i64) → Option (denR (.one (.bool)))
  | [], sett0, it3 => some true
  | x :: r, sett0, it3 => (bif decide (0 ≤ (IntKind.wrap .i64 (it3 - (1 : Int)))) && decide ((IntKind.wrap .i64 (it3 - (1 : Int))) < (sett0.length : Int)) then (bif (decide (x.1 ≤ (sett0.getD (Int.toNat (IntKind.wrap .i64 (it3 - (1 : Int)))) (dflt (TAttr))).1)) then some false else ref05_Rising_g2    r sett0 (it3 + (1 : Int))) else none)
theorem ref05_Rising_l2_list  (n : Nat)  : ∀ (m i : Nat) (sett0 : den (LAttr)), sett0.length - i < m → i ≤ sett0.length → sett0.length < 4611686018427387904 → ref05_Rising_l2  n  m sett0 (i : Int) = ref05_Rising_g2    (sett0.drop i) sett0 (i : Int) := by
  intro m
  induction m with
  | zero => intro i sett0 h1; omega
  | succ m ih =>
    intro i sett0 h1 h2 h3
    show ref05_Rising_s2    (fun (sett0 : den (LAttr)) (it3 : den (.int .i64)) => ref05_Rising_l2  n  m sett0 it3) sett0 (i : Int) = _
    unfold ref05_Rising_s2
    have b0 : decide ((0 : Int) ≤ (i : Int)) = true := decide_eq_true (by omega)
    rcases Nat.lt_or_ge i sett0.length with hi | hi
    · have b1 : decide ((i : Int) < (sett0.length : Int)) = true := decide_eq_true (by omega)
      have bw : IntKind.i64.wrap ((i : Int) + (1 : Int)) = ((i + 1 : Nat) : Int) := w64s (by omega)
      have ih' : ∀ (_u : Unit), ref05_Rising_l2  n  m sett0 ((i + 1 : Nat) : Int) = ref05_Rising_g2    (sett0.drop (i + 1)) sett0 ((i + 1 : Nat) : Int) := fun _u => ih (i + 1) sett0 (by omega) (by omega) h3
      simp only [b0, b1, bw, Bool.and_true, Bool.true_and, cond_true, Int.toNat_natCast, ih' ()]
      rw [drop_getD hi (dflt (TAttr))]
      rfl
    · have b1 : decide ((i : Int) < (sett0.length : Int)) = false := decide_eq_false (by omega)
      simp only [b1, cond_false]
      rw [List.drop_eq_nil_of_le hi]
      rfl
noncomputable def ref05_Rising_F2 (call : Call0) (n : Nat)  : (St → Option (denR (.one (.bool)))) → St → Option (denR (.one (.bool))) := fun rec => exec cfg call n 10 (cat B10 [1, 0, 1, 0, 0]) (kLoop rec (lk2 10 2 cfg.keep) (kBlock 0 (kSq (exec cfg call n 10 (cat B10 [1, 1])) (kret cfg Go.Proofs.Tryd.f10 (.one (.bool))))))
theorem ref05_Rising_l2_eq (call : Call0) (n : Nat)  : ∀ (m : Nat) (sett0 : den (LAttr)) (it3 : den (.int .i64)), loopN (ref05_Rising_F2 call n ) m (ref05_Rising_sh2 sett0 it3) = ref05_Rising_l2  n  m sett0 it3 := by
  intro m
  induction m with
  | zero => intros; rfl
  | succ m ih =>
    intro sett0 it3
    have h : loopN (ref05_Rising_F2 call n ) (m + 1) (ref05_Rising_sh2 sett0 it3) = ref05_Rising_s2    (fun (sett0 : den (LAttr)) (it3 : den (.int .i64)) => loopN (ref05_Rising_F2 call n ) m (ref05_Rising_sh2 sett0 it3)) sett0 it3 := by kernel_rfl
    have e0 : (fun (sett0 : den (LAttr)) (it3 : den (.int .i64)) => loopN (ref05_Rising_F2 call n ) m (ref05_Rising_sh2 sett0 it3)) = (fun (sett0 : den (LAttr)) (it3 : den (.int .i64)) => ref05_Rising_l2  n  m sett0 it3) := by funext sett0 it3; exact ih sett0 it3
    rw [h, e0]; rfl
noncomputable def ref05_Rising_top  (LL2 : den (LAttr) → den (.int .i64) → Option (denR (.one (.bool)))) (a0 : den (LAttr)) : Option (denR (.one (.bool))) := LL2 a0 (1 : Int)
noncomputable def ref05_Rising : Nat → den (LAttr) → Option (denR (.one (.bool)))
  | 0, _ => none
  | n + 1, a0 => ref05_Rising_top  (ref05_Rising_l2  n n) a0
theorem ref05_Rising_eq (n : Nat) (a0 : den (LAttr)) : (acalls cfg intr intrI n).p 10 [.s (.val (LAttr) a0)] (.one (.bool)) = ref05_Rising n a0 := by
  cases n with
  | zero => rfl
  | succ n =>
    have h : (acalls cfg intr intrI (n + 1)).p 10 [.s (.val (LAttr) a0)] (.one (.bool)) = ref05_Rising_top  (fun (sett0 : den (LAttr)) (it3 : den (.int .i64)) => loopN (ref05_Rising_F2 (acalls cfg intr intrI n) n) n (ref05_Rising_sh2 sett0 it3)) a0 := by kernel_rfl
    have e2 : (fun (sett0 : den (LAttr)) (it3 : den (.int .i64)) => loopN (ref05_Rising_F2 (acalls cfg intr intrI n) n) n (ref05_Rising_sh2 sett0 it3)) = ref05_Rising_l2  n n := by funext sett0 it3; exact ref05_Rising_l2_eq (acalls cfg intr intrI n) n n sett0 it3
    rw [h, e2]; rfl

noncomputable def schema_New : Nat → den (LKey) → Option (denR (.two (PSchema) (.int .i64)))
  | 0, _ => none
  | n + 1, a0 => some (newS a0)
theorem schema_New_eq (n : Nat) (a0 : den (LKey)) : (acalls cfg intr intrI n).p 12 [.s (.val (LKey) a0)] (.two (PSchema) (.int .i64)) = schema_New n a0 := by
  cases n with
  | zero => rfl
  | succ n => kernel_rfl

noncomputable def Schema_Find_top   (a0 : den (PSchema)) (a1 : den (.int .i64)) : Option (denR (.two (TKey) (.bool))) := (bif a0.isNone then some (((0 : Int), (false, ((0 : Int), (false, (false, ((0 : Int), ())))))), false) else ((a0).bind fun p1 => some ((findM (TKey) a1 p1.2.1).1, (findM (TKey) a1 p1.2.1).2)))
noncomputable def Schema_Find : Nat → den (PSchema) → den (.int .i64) → Option (denR (.two (TKey) (.bool)))
  | 0, _, _ => none
  | n + 1, a0, a1 => Schema_Find_top   a0 a1
theorem Schema_Find_eq (n : Nat) (a0 : den (PSchema)) (a1 : den (.int .i64)) : (acalls cfg intr intrI n).p 50 [.s (.val (PSchema) a0), .s (.val (.int .i64) a1)] (.two (TKey) (.bool)) = Schema_Find n a0 a1 := by
  cases n with
  | zero => rfl
  | succ n =>
    have h : (acalls cfg intr intrI (n + 1)).p 50 [.s (.val (PSchema) a0), .s (.val (.int .i64) a1)] (.two (TKey) (.bool)) = Schema_Find_top   a0 a1 := by kernel_rfl
    rw [h]; rfl

noncomputable def value_Flag_top   (a0 : den (.bool)) : Option (denR (.one (TValue))) := (bif a0 then some ((1 : Int), ((1 : Int), ((0 : Int), ((⟨#[]⟩ : ByteArray), ())))) else some ((1 : Int), ((0 : Int), ((0 : Int), ((⟨#[]⟩ : ByteArray), ())))))
noncomputable def value_Flag : Nat → den (.bool) → Option (denR (.one (TValue)))
  | 0, _ => none
  | n + 1, a0 => value_Flag_top   a0
theorem value_Flag_eq (n : Nat) (a0 : den (.bool)) : (acalls cfg intr intrI n).p 73 [.s (.val (.bool) a0)] (.one (TValue)) = value_Flag n a0 := by
  cases n with
  | zero => rfl
  | succ n =>
    have h : (acalls cfg intr intrI (n + 1)).p 73 [.s (.val (.bool) a0)] (.one (TValue)) = value_Flag_top   a0 := by kernel_rfl
    rw [h]; rfl

noncomputable def value_Int_top   (a0 : den (.int .i64)) : Option (denR (.one (TValue))) := some ((2 : Int), (a0, ((0 : Int), ((⟨#[]⟩ : ByteArray), ()))))
noncomputable def value_Int : Nat → den (.int .i64) → Option (denR (.one (TValue)))
  | 0, _ => none
  | n + 1, a0 => value_Int_top   a0
theorem value_Int_eq (n : Nat) (a0 : den (.int .i64)) : (acalls cfg intr intrI n).p 74 [.s (.val (.int .i64) a0)] (.one (TValue)) = value_Int n a0 := by
  cases n with
  | zero => rfl
  | succ n =>
    have h : (acalls cfg intr intrI (n + 1)).p 74 [.s (.val (.int .i64) a0)] (.one (TValue)) = value_Int_top   a0 := by kernel_rfl
    rw [h]; rfl

noncomputable def math_IsNaN_top   (a0 : den (.f64)) : Option (denR (.one (.bool))) := some (FloatKind.f64.format.order a0 a0 != some .eq)
noncomputable def math_IsNaN : Nat → den (.f64) → Option (denR (.one (.bool)))
  | 0, _ => none
  | n + 1, a0 => math_IsNaN_top   a0
theorem math_IsNaN_eq (n : Nat) (a0 : den (.f64)) : (acalls cfg intr intrI n).p 96 [.s (.val (.f64) a0)] (.one (.bool)) = math_IsNaN n a0 := by
  cases n with
  | zero => rfl
  | succ n =>
    have h : (acalls cfg intr intrI (n + 1)).p 96 [.s (.val (.f64) a0)] (.one (.bool)) = math_IsNaN_top   a0 := by kernel_rfl
    rw [h]; rfl

noncomputable def value_Float_top (C_math_IsNaN : den (.f64) → Option (denR (.one (.bool))))  (a0 : den (.f64)) : Option (denR (.one (TValue))) := ((C_math_IsNaN a0).bind fun r1 => (bif r1 then some ((3 : Int), ((0 : Int), ((9221120237041090560 : Int), ((⟨#[]⟩ : ByteArray), ())))) else some ((3 : Int), ((0 : Int), (((a0 : Nat) : Int), ((⟨#[]⟩ : ByteArray), ()))))))
noncomputable def value_Float : Nat → den (.f64) → Option (denR (.one (TValue)))
  | 0, _ => none
  | n + 1, a0 => value_Float_top (math_IsNaN n)  a0
theorem value_Float_eq (n : Nat) (a0 : den (.f64)) : (acalls cfg intr intrI n).p 75 [.s (.val (.f64) a0)] (.one (TValue)) = value_Float n a0 := by
  cases n with
  | zero => rfl
  | succ n =>
    have h : (acalls cfg intr intrI (n + 1)).p 75 [.s (.val (.f64) a0)] (.one (TValue)) = value_Float_top (fun (a0 : den (.f64)) => (acalls cfg intr intrI n).p 96 [.s (.val (.f64) a0)] (.one (.bool)))  a0 := by kernel_rfl
    have c_math_IsNaN : (fun (a0 : den (.f64)) => (acalls cfg intr intrI n).p 96 [.s (.val (.f64) a0)] (.one (.bool))) = math_IsNaN n := by funext a0; exact math_IsNaN_eq n a0
    rw [h, c_math_IsNaN]; rfl

noncomputable def utf8_word__top   (a0 : den (Lu8)) : Option (denR (.one (.int .u64))) := (bif decide (0 ≤ (0 : Int)) && decide ((0 : Int) < (a0.length : Int)) then (bif decide (0 ≤ (1 : Int)) && decide ((1 : Int) < (a0.length : Int)) then (bif decide (0 ≤ (2 : Int)) && decide ((2 : Int) < (a0.length : Int)) then (bif decide (0 ≤ (3 : Int)) && decide ((3 : Int) < (a0.length : Int)) then (bif decide (0 ≤ (4 : Int)) && decide ((4 : Int) < (a0.length : Int)) then (bif decide (0 ≤ (5 : Int)) && decide ((5 : Int) < (a0.length : Int)) then (bif decide (0 ≤ (6 : Int)) && decide ((6 : Int) < (a0.length : Int)) then (bif decide (0 ≤ (7 : Int)) && decide ((7 : Int) < (a0.length : Int)) then some (orI .u64 (orI .u64 (orI .u64 (orI .u64 (orI .u64 (orI .u64 (orI .u64 (IntKind.wrap .u64 (a0.getD (Int.toNat (0 : Int)) (dflt (.int .u8)))) (IntKind.wrap .u64 ((IntKind.wrap .u64 (a0.getD (Int.toNat (1 : Int)) (dflt (.int .u8)))) * 2 ^ (min (Int.toNat (8 : Int)) (IntKind.bits .u64))))) (IntKind.wrap .u64 ((IntKind.wrap .u64 (a0.getD (Int.toNat (2 : Int)) (dflt (.int .u8)))) * 2 ^ (min (Int.toNat (16 : Int)) (IntKind.bits .u64))))) (IntKind.wrap .u64 ((IntKind.wrap .u64 (a0.getD (Int.toNat (3 : Int)) (dflt (.int .u8)))) * 2 ^ (min (Int.toNat (24 : Int)) (IntKind.bits .u64))))) (IntKind.wrap .u64 ((IntKind.wrap .u64 (a0.getD (Int.toNat (4 : Int)) (dflt (.int .u8)))) * 2 ^ (min (Int.toNat (32 : Int)) (IntKind.bits .u64))))) (IntKind.wrap .u64 ((IntKind.wrap .u64 (a0.getD (Int.toNat (5 : Int)) (dflt (.int .u8)))) * 2 ^ (min (Int.toNat (40 : Int)) (IntKind.bits .u64))))) (IntKind.wrap .u64 ((IntKind.wrap .u64 (a0.getD (Int.toNat (6 : Int)) (dflt (.int .u8)))) * 2 ^ (min (Int.toNat (48 : Int)) (IntKind.bits .u64))))) (IntKind.wrap .u64 ((IntKind.wrap .u64 (a0.getD (Int.toNat (7 : Int)) (dflt (.int .u8)))) * 2 ^ (min (Int.toNat (56 : Int)) (IntKind.bits .u64))))) else none) else none) else none) else none) else none) else none) else none) else none)
noncomputable def utf8_word_ : Nat → den (Lu8) → Option (denR (.one (.int .u64)))
  | 0, _ => none
  | n + 1, a0 => utf8_word__top   a0
theorem utf8_word__eq (n : Nat) (a0 : den (Lu8)) : (acalls cfg intr intrI n).p 111 [.s (.val (Lu8) a0)] (.one (.int .u64)) = utf8_word_ n a0 := by
  cases n with
  | zero => rfl
  | succ n =>
    have h : (acalls cfg intr intrI (n + 1)).p 111 [.s (.val (Lu8) a0)] (.one (.int .u64)) = utf8_word__top   a0 := by kernel_rfl
    rw [h]; rfl

noncomputable def B106 : Code := (Go.Proofs.Tryd.f106.body).getD .skip
noncomputable def utf8_Valid_sh10 (t0 : den (Lu8)) : St := ⟨[.s (.val (Lu8) t0), U, U, U, U, U, U, U, U, U, U, U, U, U, U, U, U, U, U, U, U, U, U, U, U, U, U, U, U, U, U, U, U, U, U, U, U, U, U, U, U, U, U, U, U, U, U, U, U, U, U, U, U, U, U, U, U, U, U, U, U, U, U, U, U, U, U, U, U, U, U, U, U, U, U, U, U, U, U, U, U, U, U, U, U, U, U, U, U, U, U, U, U, U, U, U, U, U, U, U, U, U, U, U, U, U, U, U, U, U, U, U, U, U, U, U, U, U, U, U, U, U, U, U, U, U, U, U, U, U, U, U, U, U, U, U, U, U, U, U, U, U, U, U, U, U, U, U, U, U, U, U, U, U, U, U, U, U, U, U, U, U, U, U, U, U, U, U, U, U, U, U, U, U, U, U, U, U, U, U, U, U, U, U, U, U, U, U], []⟩
noncomputable def utf8_Valid_sh2 (t0 : den (Lu8)) : St := ⟨[.s (.val (Lu8) t0), U, U, U, U, U, U, U, U, U, U, U, U, U, U, U, U, U, U, U, U, U, U, U, U, U, U, U, U, U, U, U, U, U, U, U, U, U, U, U, U, U, U, U, U, U, U, U, U, U, U, U, U, U, U, U, U, U, U, U, U, U, U, U, U, U, U, U, U, U, U, U, U, U, U, U, U, U, U, U, U, U, U, U, U, U, U, U, U, U, U, U, U, U, U, U, U, U, U, U, U, U, U, U, U, U, U, U, U, U, U, U, U, U, U, U, U, U, U, U, U, U, U, U, U, U, U, U, U, U, U, U, U, U, U, U, U, U, U, U, U, U, U, U, U, U, U, U, U, U, U, U, U, U, U, U, U, U, U, U, U, U, U, U, U, U, U, U, U, U, U, U, U, U, U, U, U, U, U, U, U, U, U, U, U, U, U, U], []⟩
noncomputable def utf8_Valid_s10 (C_utf8_word_ : den (Lu8) → Option (denR (.one (.int .u64))))  (LS2 : den (Lu8) → Option (denR (.one (.bool)))) (LS10 : den (Lu8) → Option (denR (.one (.bool)))) (t0 : den (Lu8)) : Option (denR (.one (.bool))) := (bif (decide ((32 : Int) < (t0.length : Int))) then ((C_utf8_word_ t0).bind fun r4 => (bif decide (0 ≤ (8 : Int)) && decide ((8 : Int) ≤ (t0.length : Int)) && decide ((t0.length : Int) ≤ (t0.length : Int)) then ((C_utf8_word_ (t0.drop (Int.toNat (8 : Int)))).bind fun r5 => (bif decide (0 ≤ (16 : Int)) && decide ((16 : Int) ≤ (t0.length : Int)) && decide ((t0.length : Int) ≤ (t0.length : Int)) then ((C_utf8_word_ (t0.drop (Int.toNat (16 : Int)))).bind fun r6 => (bif decide (0 ≤ (24 : Int)) && decide ((24 : Int) ≤ (t0.length : Int)) && decide ((t0.length : Int) ≤ (t0.length : Int)) then ((C_utf8_word_ (t0.drop (Int.toNat (24 : Int)))).bind fun r7 => (bif (decide ((andI .u64 (orI .u64 (orI .u64 r4 r5) (orI .u64 r6 r7)) (9259542123273814144 : Int)) = (0 : Int))) then (bif decide (0 ≤ (32 : Int)) && decide ((32 : Int) ≤ (t0.length : Int)) && decide ((t0.length : Int) ≤ (t0.length : Int)) then LS10 (t0.drop (Int.toNat (32 : Int))) else none) else LS2 t0)) else none)) else none)) else none)) else LS2 t0)
noncomputable def utf8_Valid_l10 (C_utf8_word_ : den (Lu8) → Option (denR (.one (.int .u64)))) (n : Nat) (LS2 : den (Lu8) → Option (denR (.one (.bool)))) : Nat → den (Lu8) → Option (denR (.one (.bool)))
  | 0, _ => none
  | m + 1, t0 => utf8_Valid_s10 C_utf8_word_  LS2 (fun (t0 : den (Lu8)) => utf8_Valid_l10 C_utf8_word_ n LS2 m t0) t0
noncomputable def utf8_Valid_F10 (call : Call0) (n : Nat) (r2 : St → Option (denR (.one (.bool)))) : (St → Option (denR (.one (.bool)))) → St → Option (denR (.one (.bool))) := fun rec => exec cfg call n 106 (cat B106 [1, 1, 0, 0, 0, 1, 0, 1, 0, 1, 0, 1, 0, 1, 0, 1, 1, 0, 1, 0, 0]) (kLoop rec (lk2 106 10 cfg.keep) (kBlock 2 (kSq (exec cfg call n 106 (cat B106 [1, 1, 0, 0, 0, 1, 0, 1, 0, 1, 0, 1, 1])) (kSq (exec cfg call n 106 (cat B106 [1, 1, 0, 0, 0, 1, 0, 1, 1])) (kBlock 1 (kLoop r2 (lk2 106 2 cfg.keep) (kBlock 0 (kSq (exec cfg call n 106 (cat B106 [1, 1, 1])) (kret cfg Go.Proofs.Tryd.f106 (.one (.bool)))))))))))
theorem utf8_Valid_l10_eq (call : Call0) (n : Nat) (r2 : St → Option (denR (.one (.bool)))) : ∀ (m : Nat) (t0 : den (Lu8)), loopN (utf8_Valid_F10 call n r2) m (utf8_Valid_sh10 t0) = utf8_Valid_l10 (fun (a0 : den (Lu8)) => call.p 111 [.s (.val (Lu8) a0)] (.one (.int .u64))) n (fun (t0 : den (Lu8)) => r2 (utf8_Valid_sh2 t0)) m t0 := by
  intro m
  induction m with
  | zero => intros; rfl
  | succ m ih =>
    intro t0
    have h : loopN (utf8_Valid_F10 call n r2) (m + 1) (utf8_Valid_sh10 t0) = utf8_Valid_s10 (fun (a0 : den (Lu8)) => call.p 111 [.s (.val (Lu8) a0)] (.one (.int .u64)))  (fun (t0 : den (Lu8)) => r2 (utf8_Valid_sh2 t0)) (fun (t0 : den (Lu8)) => loopN (utf8_Valid_F10 call n r2) m (utf8_Valid_sh10 t0)) t0 := by kernel_rfl
    have e0 : (fun (t0 : den (Lu8)) => loopN (utf8_Valid_F10 call n r2) m (utf8_Valid_sh10 t0)) = (fun (t0 : den (Lu8)) => utf8_Valid_l10 (fun (a0 : den (Lu8)) => call.p 111 [.s (.val (Lu8) a0)] (.one (.int .u64))) n (fun (t0 : den (Lu8)) => r2 (utf8_Valid_sh2 t0)) m t0) := by funext t0; exact ih t0
    rw [h, e0]; rfl
noncomputable def utf8_Valid_s2 (C_utf8_word_ : den (Lu8) → Option (denR (.one (.int .u64)))) (LL10 : den (Lu8) → Option (denR (.one (.bool))))  (LS2 : den (Lu8) → Option (denR (.one (.bool)))) (t0 : den (Lu8)) : Option (denR (.one (.bool))) := (bif (decide ((0 : Int) < (t0.length : Int))) then (bif decide (0 ≤ (0 : Int)) && decide ((0 : Int) < (t0.length : Int)) then (bif (decide ((t0.getD (Int.toNat (0 : Int)) (dflt (.int .u8))) < (128 : Int))) then (bif decide (0 ≤ (1 : Int)) && decide ((1 : Int) ≤ (t0.length : Int)) && decide ((t0.length : Int) ≤ (t0.length : Int)) then (bif (decide ((8 : Int) < ((t0.drop (Int.toNat (1 : Int))).length : Int))) then ((C_utf8_word_ (t0.drop (Int.toNat (1 : Int)))).bind fun r1 => (bif (decide ((andI .u64 r1 (9259542123273814144 : Int)) = (0 : Int))) then (bif decide (0 ≤ (8 : Int)) && decide ((8 : Int) ≤ ((t0.drop (Int.toNat (1 : Int))).length : Int)) && decide (((t0.drop (Int.toNat (1 : Int))).length : Int) ≤ ((t0.drop (Int.toNat (1 : Int))).length : Int)) then (bif (decide ((16 : Int) < (((t0.drop (Int.toNat (1 : Int))).drop (Int.toNat (8 : Int))).length : Int))) then ((C_utf8_word_ ((t0.drop (Int.toNat (1 : Int))).drop (Int.toNat (8 : Int)))).bind fun r2 => (bif decide (0 ≤ (8 : Int)) && decide ((8 : Int) ≤ (((t0.drop (Int.toNat (1 : Int))).drop (Int.toNat (8 : Int))).length : Int)) && decide ((((t0.drop (Int.toNat (1 : Int))).drop (Int.toNat (8 : Int))).length : Int) ≤ (((t0.drop (Int.toNat (1 : Int))).drop (Int.toNat (8 : Int))).length : Int)) then ((C_utf8_word_ (((t0.drop (Int.toNat (1 : Int))).drop (Int.toNat (8 : Int))).drop (Int.toNat (8 : Int)))).bind fun r3 => (bif (decide ((andI .u64 (orI .u64 r2 r3) (9259542123273814144 : Int)) = (0 : Int))) then (bif decide (0 ≤ (16 : Int)) && decide ((16 : Int) ≤ (((t0.drop (Int.toNat (1 : Int))).drop (Int.toNat (8 : Int))).length : Int)) && decide ((((t0.drop (Int.toNat (1 : Int))).drop (Int.toNat (8 : Int))).length : Int) ≤ (((t0.drop (Int.toNat (1 : Int))).drop (Int.toNat (8 : Int))).length : Int)) then LL10 (((t0.drop (Int.toNat (1 : Int))).drop (Int.toNat (8 : Int))).drop (Int.toNat (16 : Int))) else none) else LS2 ((t0.drop (Int.toNat (1 : Int))).drop (Int.toNat (8 : Int))))) else none)) else LS2 ((t0.drop (Int.toNat (1 : Int))).drop (Int.toNat (8 : Int)))) else none) else LS2 (t0.drop (Int.toNat (1 : Int))))) else LS2 (t0.drop (Int.toNat (1 : Int)))) else none) else (bif decide (0 ≤ (t0.getD (Int.toNat (0 : Int)) (dflt (.int .u8)))) && decide ((t0.getD (Int.toNat (0 : Int)) (dflt (.int .u8))) < (firstL.length : Int)) then (bif decide (0 ≤ (Int.fdiv (firstL.getD (Int.toNat (t0.getD (Int.toNat (0 : Int)) (dflt (.int .u8)))) (dflt (.int .u8))) (2 ^ (min (Int.toNat (4 : Int)) (IntKind.bits .u8))))) && decide ((Int.fdiv (firstL.getD (Int.toNat (t0.getD (Int.toNat (0 : Int)) (dflt (.int .u8)))) (dflt (.int .u8))) (2 ^ (min (Int.toNat (4 : Int)) (IntKind.bits .u8)))) < (accL.length : Int)) then (bif (decide ((IntKind.wrap .i64 (andI .u8 (firstL.getD (Int.toNat (t0.getD (Int.toNat (0 : Int)) (dflt (.int .u8)))) (dflt (.int .u8))) (7 : Int))) = (2 : Int))) then (bif (decide ((t0.length : Int) < (2 : Int))) then some false else (bif decide (0 ≤ (1 : Int)) && decide ((1 : Int) < (t0.length : Int)) then (bif (decide ((t0.getD (Int.toNat (1 : Int)) (dflt (.int .u8))) < (accL.getD (Int.toNat (Int.fdiv (firstL.getD (Int.toNat (t0.getD (Int.toNat (0 : Int)) (dflt (.int .u8)))) (dflt (.int .u8))) (2 ^ (min (Int.toNat (4 : Int)) (IntKind.bits .u8))))) (dflt (TacceptRange))).1)) then some false else (bif decide (0 ≤ (1 : Int)) && decide ((1 : Int) < (t0.length : Int)) then (bif (decide (((accL.getD (Int.toNat (Int.fdiv (firstL.getD (Int.toNat (t0.getD (Int.toNat (0 : Int)) (dflt (.int .u8)))) (dflt (.int .u8))) (2 ^ (min (Int.toNat (4 : Int)) (IntKind.bits .u8))))) (dflt (TacceptRange))).2).1 < (t0.getD (Int.toNat (1 : Int)) (dflt (.int .u8))))) then some false else (bif decide (0 ≤ (2 : Int)) && decide ((2 : Int) ≤ (t0.length : Int)) && decide ((t0.length : Int) ≤ (t0.length : Int)) then LS2 (t0.drop (Int.toNat (2 : Int))) else none)) else none)) else none)) else (bif (decide ((IntKind.wrap .i64 (andI .u8 (firstL.getD (Int.toNat (t0.getD (Int.toNat (0 : Int)) (dflt (.int .u8)))) (dflt (.int .u8))) (7 : Int))) = (3 : Int))) then (bif (decide ((t0.length : Int) < (3 : Int))) then some false else (bif decide (0 ≤ (1 : Int)) && decide ((1 : Int) < (t0.length : Int)) then (bif (decide ((t0.getD (Int.toNat (1 : Int)) (dflt (.int .u8))) < (accL.getD (Int.toNat (Int.fdiv (firstL.getD (Int.toNat (t0.getD (Int.toNat (0 : Int)) (dflt (.int .u8)))) (dflt (.int .u8))) (2 ^ (min (Int.toNat (4 : Int)) (IntKind.bits .u8))))) (dflt (TacceptRange))).1)) then some false else (bif decide (0 ≤ (1 : Int)) && decide ((1 : Int) < (t0.length : Int)) then (bif (decide (((accL.getD (Int.toNat (Int.fdiv (firstL.getD (Int.toNat (t0.getD (Int.toNat (0 : Int)) (dflt (.int .u8)))) (dflt (.int .u8))) (2 ^ (min (Int.toNat (4 : Int)) (IntKind.bits .u8))))) (dflt (TacceptRange))).2).1 < (t0.getD (Int.toNat (1 : Int)) (dflt (.int .u8))))) then some false else (bif decide (0 ≤ (2 : Int)) && decide ((2 : Int) < (t0.length : Int)) then (bif (decide ((t0.getD (Int.toNat (2 : Int)) (dflt (.int .u8))) < (128 : Int))) then some false else (bif decide (0 ≤ (2 : Int)) && decide ((2 : Int) < (t0.length : Int)) then (bif (decide ((191 : Int) < (t0.getD (Int.toNat (2 : Int)) (dflt (.int .u8))))) then some false else (bif decide (0 ≤ (3 : Int)) && decide ((3 : Int) ≤ (t0.length : Int)) && decide ((t0.length : Int) ≤ (t0.length : Int)) then LS2 (t0.drop (Int.toNat (3 : Int))) else none)) else none)) else none)) else none)) else none)) else (bif (decide ((IntKind.wrap .i64 (andI .u8 (firstL.getD (Int.toNat (t0.getD (Int.toNat (0 : Int)) (dflt (.int .u8)))) (dflt (.int .u8))) (7 : Int))) = (4 : Int))) then (bif (decide ((t0.length : Int) < (4 : Int))) then some false else (bif decide (0 ≤ (1 : Int)) && decide ((1 : Int) < (t0.length : Int)) then (bif (decide ((t0.getD (Int.toNat (1 : Int)) (dflt (.int .u8))) < (accL.getD (Int.toNat (Int.fdiv (firstL.getD (Int.toNat (t0.getD (Int.toNat (0 : Int)) (dflt (.int .u8)))) (dflt (.int .u8))) (2 ^ (min (Int.toNat (4 : Int)) (IntKind.bits .u8))))) (dflt (TacceptRange))).1)) then some false else (bif decide (0 ≤ (1 : Int)) && decide ((1 : Int) < (t0.length : Int)) then (bif (decide (((accL.getD (Int.toNat (Int.fdiv (firstL.getD (Int.toNat (t0.getD (Int.toNat (0 : Int)) (dflt (.int .u8)))) (dflt (.int .u8))) (2 ^ (min (Int.toNat (4 : Int)) (IntKind.bits .u8))))) (dflt (TacceptRange))).2).1 < (t0.getD (Int.toNat (1 : Int)) (dflt (.int .u8))))) then some false else (bif decide (0 ≤ (2 : Int)) && decide ((2 : Int) < (t0.length : Int)) then (bif (decide ((t0.getD (Int.toNat (2 : Int)) (dflt (.int .u8))) < (128 : Int))) then some false else (bif decide (0 ≤ (2 : Int)) && decide ((2 : Int) < (t0.length : Int)) then (bif (decide ((191 : Int) < (t0.getD (Int.toNat (2 : Int)) (dflt (.int .u8))))) then some false else (bif decide (0 ≤ (3 : Int)) && decide ((3 : Int) < (t0.length : Int)) then (bif (decide ((t0.getD (Int.toNat (3 : Int)) (dflt (.int .u8))) < (128 : Int))) then some false else (bif decide (0 ≤ (3 : Int)) && decide ((3 : Int) < (t0.length : Int)) then (bif (decide ((191 : Int) < (t0.getD (Int.toNat (3 : Int)) (dflt (.int .u8))))) then some false else (bif decide (0 ≤ (4 : Int)) && decide ((4 : Int) ≤ (t0.length : Int)) && decide ((t0.length : Int) ≤ (t0.length : Int)) then LS2 (t0.drop (Int.toNat (4 : Int))) else none)) else none)) else none)) else none)) else none)) else none)) else none)) else some false))) else none) else none)) else none) else some true)
noncomputable def utf8_Valid_l2 (C_utf8_word_ : den (Lu8) → Option (denR (.one (.int .u64)))) (n : Nat)  : Nat → den (Lu8) → Option (denR (.one (.bool)))
  | 0, _ => none
  | m + 1, t0 => utf8_Valid_s2 C_utf8_word_ (utf8_Valid_l10 C_utf8_word_ n (fun (t0 : den (Lu8)) => utf8_Valid_l2 C_utf8_word_ n  m t0) n)  (fun (t0 : den (Lu8)) => utf8_Valid_l2 C_utf8_word_ n  m t0) t0
noncomputable def utf8_Valid_F2 (call : Call0) (n : Nat)  : (St → Option (denR (.one (.bool)))) → St → Option (denR (.one (.bool))) := fun rec => exec cfg call n 106 (cat B106 [1, 1, 0, 0, 0]) (kLoop rec (lk2 106 2 cfg.keep) (kBlock 0 (kSq (exec cfg call n 106 (cat B106 [1, 1, 1])) (kret cfg Go.Proofs.Tryd.f106 (.one (.bool))))))
theorem utf8_Valid_l2_eq (call : Call0) (n : Nat)  : ∀ (m : Nat) (t0 : den (Lu8)), loopN (utf8_Valid_F2 call n ) m (utf8_Valid_sh2 t0) = utf8_Valid_l2 (fun (a0 : den (Lu8)) => call.p 111 [.s (.val (Lu8) a0)] (.one (.int .u64))) n  m t0 := by
  intro m
  induction m with
  | zero => intros; rfl
  | succ m ih =>
    intro t0
    have h : loopN (utf8_Valid_F2 call n ) (m + 1) (utf8_Valid_sh2 t0) = utf8_Valid_s2 (fun (a0 : den (Lu8)) => call.p 111 [.s (.val (Lu8) a0)] (.one (.int .u64))) (fun (t0 : den (Lu8)) => loopN (utf8_Valid_F10 call n (loopN (utf8_Valid_F2 call n ) m)) n (utf8_Valid_sh10 t0))  (fun (t0 : den (Lu8)) => loopN (utf8_Valid_F2 call n ) m (utf8_Valid_sh2 t0)) t0 := by kernel_rfl
    have e10 : (fun (t0 : den (Lu8)) => loopN (utf8_Valid_F10 call n (loopN (utf8_Valid_F2 call n ) m)) n (utf8_Valid_sh10 t0)) = utf8_Valid_l10 (fun (a0 : den (Lu8)) => call.p 111 [.s (.val (Lu8) a0)] (.one (.int .u64))) n (fun (t0 : den (Lu8)) => (loopN (utf8_Valid_F2 call n ) m) (utf8_Valid_sh2 t0)) n := by funext t0; exact utf8_Valid_l10_eq call n (loopN (utf8_Valid_F2 call n ) m) n t0
    have e0 : (fun (t0 : den (Lu8)) => loopN (utf8_Valid_F2 call n ) m (utf8_Valid_sh2 t0)) = (fun (t0 : den (Lu8)) => utf8_Valid_l2 (fun (a0 : den (Lu8)) => call.p 111 [.s (.val (Lu8) a0)] (.one (.int .u64))) n  m t0) := by funext t0; exact ih t0
    rw [h, e10, e0]; rfl
noncomputable def utf8_Valid_top (C_utf8_word_ : den (Lu8) → Option (denR (.one (.int .u64)))) (LL2 : den (Lu8) → Option (denR (.one (.bool)))) (a0 : den (Lu8)) : Option (denR (.one (.bool))) := (bif decide (0 ≤ (0 : Int)) && decide ((0 : Int) ≤ (a0.length : Int)) && decide ((a0.length : Int) ≤ (a0.length : Int)) && decide ((a0.length : Int) ≤ (a0.length : Int)) then LL2 ((a0.take (Int.toNat (a0.length : Int))).drop (Int.toNat (0 : Int))) else none)
noncomputable def utf8_Valid : Nat → den (Lu8) → Option (denR (.one (.bool)))
  | 0, _ => none
  | n + 1, a0 => utf8_Valid_top (utf8_word_ n) (utf8_Valid_l2 (utf8_word_ n) n n) a0
theorem utf8_Valid_eq (n : Nat) (a0 : den (Lu8)) : (acalls cfg intr intrI n).p 106 [.s (.val (Lu8) a0)] (.one (.bool)) = utf8_Valid n a0 := by
  cases n with
  | zero => rfl
  | succ n =>
    have h : (acalls cfg intr intrI (n + 1)).p 106 [.s (.val (Lu8) a0)] (.one (.bool)) = utf8_Valid_top (fun (a0 : den (Lu8)) => (acalls cfg intr intrI n).p 111 [.s (.val (Lu8) a0)] (.one (.int .u64))) (fun (t0 : den (Lu8)) => loopN (utf8_Valid_F2 (acalls cfg intr intrI n) n) n (utf8_Valid_sh2 t0)) a0 := by kernel_rfl
    have e2 : (fun (t0 : den (Lu8)) => loopN (utf8_Valid_F2 (acalls cfg intr intrI n) n) n (utf8_Valid_sh2 t0)) = utf8_Valid_l2 (fun (a0 : den (Lu8)) => (acalls cfg intr intrI n).p 111 [.s (.val (Lu8) a0)] (.one (.int .u64))) n n := by funext t0; exact utf8_Valid_l2_eq (acalls cfg intr intrI n) n n t0
    have c_utf8_word_ : (fun (a0 : den (Lu8)) => (acalls cfg intr intrI n).p 111 [.s (.val (Lu8) a0)] (.one (.int .u64))) = utf8_word_ n := by funext a0; exact utf8_word__eq n a0
    rw [h, e2, c_utf8_word_]; rfl

noncomputable def B98 : Code := (Go.Proofs.Tryd.f98.body).getD .skip
noncomputable def runes_Read_sh5 (lo4 : den (Li32)) (o12 : den (Y14)) : St := ⟨[U, U, U, U, .s (.arr 4), U, U, U, U, U, U, U, .s (.own 12), U, U, U, U, U, U, U, U], [(4, .arr 21 (.int .i32) lo4), (12, .obj 0 (Y14) o12)]⟩
noncomputable def runes_Read_s5 (C_utf8_Valid : den (Lu8) → Option (denR (.one (.bool))))   (LS5 : den (Li32) → den (Y14) → Option (denR (.two (Li32) (.int .i64)))) (lo4 : den (Li32)) (o12 : den (Y14)) : Option (denR (.two (Li32) (.int .i64))) := (bif decide (0 ≤ o12.2) && decide (o12.2 < (ByteArray.size o12.1 : Int)) then (bif decide ((lo4.length + ([((Utf8.decode o12.1 (Int.toNat o12.2)).1 : Int)] : List (den (.int .i32))).length) * 4 ≤ 140737488355328) then LS5 (lo4 ++ ([((Utf8.decode o12.1 (Int.toNat o12.2)).1 : Int)] : List (den (.int .i32)))) (o12.1, (o12.2 + ((Utf8.decode o12.1 (Int.toNat o12.2)).2 : Int))) else none) else (bif decide (0 ≤ o12.2) then some (lo4, (0 : Int)) else none))
noncomputable def runes_Read_l5 (C_utf8_Valid : den (Lu8) → Option (denR (.one (.bool)))) (n : Nat)  : Nat → den (Li32) → den (Y14) → Option (denR (.two (Li32) (.int .i64)))
  | 0, _, _ => none
  | m + 1, lo4, o12 => runes_Read_s5 C_utf8_Valid   (fun (lo4 : den (Li32)) (o12 : den (Y14)) => runes_Read_l5 C_utf8_Valid n  m lo4 o12) lo4 o12
noncomputable def runes_Read_F5 (call : Call0) (n : Nat)  : (St → Option (denR (.two (Li32) (.int .i64)))) → St → Option (denR (.two (Li32) (.int .i64))) := fun rec => exec cfg call n 98 (cat B98 [1, 1, 1, 0, 1, 0, 0]) (kLoop rec (lk2 98 5 cfg.keep) (kBlock 0 (kSq (exec cfg call n 98 (cat B98 [1, 1, 1, 1])) (kret cfg Go.Proofs.Tryd.f98 (.two (Li32) (.int .i64))))))
theorem runes_Read_l5_eq (call : Call0) (n : Nat)  : ∀ (m : Nat) (lo4 : den (Li32)) (o12 : den (Y14)), loopN (runes_Read_F5 call n ) m (runes_Read_sh5 lo4 o12) = runes_Read_l5 (fun (a0 : den (Lu8)) => call.p 106 [.s (.val (Lu8) a0)] (.one (.bool))) n  m lo4 o12 := by
  intro m
  induction m with
  | zero => intros; rfl
  | succ m ih =>
    intro lo4 o12
    have h : loopN (runes_Read_F5 call n ) (m + 1) (runes_Read_sh5 lo4 o12) = runes_Read_s5 (fun (a0 : den (Lu8)) => call.p 106 [.s (.val (Lu8) a0)] (.one (.bool)))   (fun (lo4 : den (Li32)) (o12 : den (Y14)) => loopN (runes_Read_F5 call n ) m (runes_Read_sh5 lo4 o12)) lo4 o12 := by kernel_rfl
    have e0 : (fun (lo4 : den (Li32)) (o12 : den (Y14)) => loopN (runes_Read_F5 call n ) m (runes_Read_sh5 lo4 o12)) = (fun (lo4 : den (Li32)) (o12 : den (Y14)) => runes_Read_l5 (fun (a0 : den (Lu8)) => call.p 106 [.s (.val (Lu8) a0)] (.one (.bool))) n  m lo4 o12) := by funext lo4 o12; exact ih lo4 o12
    rw [h, e0]; rfl
noncomputable def runes_Read_top (C_utf8_Valid : den (Lu8) → Option (denR (.one (.bool)))) (LL5 : den (Li32) → den (Y14) → Option (denR (.two (Li32) (.int .i64)))) (a0 : den (Lu8)) : Option (denR (.two (Li32) (.int .i64))) := ((C_utf8_Valid a0).bind fun r1 => (bif (!r1) then some ([], (3 : Int)) else LL5 [] ((strL a0), (0 : Int))))
noncomputable def runes_Read : Nat → den (Lu8) → Option (denR (.two (Li32) (.int .i64)))
  | 0, _ => none
  | n + 1, a0 => runes_Read_top (utf8_Valid n) (runes_Read_l5 (utf8_Valid n) n n) a0
theorem runes_Read_eq (n : Nat) (a0 : den (Lu8)) : (acalls cfg intr intrI n).p 98 [.s (.val (Lu8) a0)] (.two (Li32) (.int .i64)) = runes_Read n a0 := by
  cases n with
  | zero => rfl
  | succ n =>
    have h : (acalls cfg intr intrI (n + 1)).p 98 [.s (.val (Lu8) a0)] (.two (Li32) (.int .i64)) = runes_Read_top (fun (a0 : den (Lu8)) => (acalls cfg intr intrI n).p 106 [.s (.val (Lu8) a0)] (.one (.bool))) (fun (lo4 : den (Li32)) (o12 : den (Y14)) => loopN (runes_Read_F5 (acalls cfg intr intrI n) n) n (runes_Read_sh5 lo4 o12)) a0 := by kernel_rfl
    have e5 : (fun (lo4 : den (Li32)) (o12 : den (Y14)) => loopN (runes_Read_F5 (acalls cfg intr intrI n) n) n (runes_Read_sh5 lo4 o12)) = runes_Read_l5 (fun (a0 : den (Lu8)) => (acalls cfg intr intrI n).p 106 [.s (.val (Lu8) a0)] (.one (.bool))) n n := by funext lo4 o12; exact runes_Read_l5_eq (acalls cfg intr intrI n) n n lo4 o12
    have c_utf8_Valid : (fun (a0 : den (Lu8)) => (acalls cfg intr intrI n).p 106 [.s (.val (Lu8) a0)] (.one (.bool))) = utf8_Valid n := by funext a0; exact utf8_Valid_eq n a0
    rw [h, e5, c_utf8_Valid]; rfl

noncomputable def value_Text_top (C_runes_Read : den (Lu8) → Option (denR (.two (Li32) (.int .i64))))  (a0 : den (.str)) : Option (denR (.two (TValue) (.int .i64))) := (bif (decide ((64 : Int) < (ByteArray.size a0 : Int))) then some (((0 : Int), ((0 : Int), ((0 : Int), ((⟨#[]⟩ : ByteArray), ())))), (3 : Int)) else ((C_runes_Read (bytesL a0)).bind fun r1 => (bif ((!decide (r1.2 = (0 : Int)))) then some (((0 : Int), ((0 : Int), ((0 : Int), ((⟨#[]⟩ : ByteArray), ())))), r1.2) else some (((4 : Int), ((0 : Int), ((0 : Int), (a0, ())))), (0 : Int)))))
noncomputable def value_Text : Nat → den (.str) → Option (denR (.two (TValue) (.int .i64)))
  | 0, _ => none
  | n + 1, a0 => value_Text_top (runes_Read n)  a0
theorem value_Text_eq (n : Nat) (a0 : den (.str)) : (acalls cfg intr intrI n).p 77 [.s (.val (.str) a0)] (.two (TValue) (.int .i64)) = value_Text n a0 := by
  cases n with
  | zero => rfl
  | succ n =>
    have h : (acalls cfg intr intrI (n + 1)).p 77 [.s (.val (.str) a0)] (.two (TValue) (.int .i64)) = value_Text_top (fun (a0 : den (Lu8)) => (acalls cfg intr intrI n).p 98 [.s (.val (Lu8) a0)] (.two (Li32) (.int .i64)))  a0 := by kernel_rfl
    have c_runes_Read : (fun (a0 : den (Lu8)) => (acalls cfg intr intrI n).p 98 [.s (.val (Lu8) a0)] (.two (Li32) (.int .i64))) = runes_Read n := by funext a0; exact runes_Read_eq n a0
    rw [h, c_runes_Read]; rfl

noncomputable def value_May_top (C_value_Flag : den (.bool) → Option (denR (.one (TValue)))) (C_value_Int : den (.int .i64) → Option (denR (.one (TValue)))) (C_value_Float : den (.f64) → Option (denR (.one (TValue)))) (C_value_Text : den (.str) → Option (denR (.two (TValue) (.int .i64))))  (a0 : den (TValue)) : Option (denR (.one (.bool))) := (bif (decide (a0.1 = (1 : Int))) then ((C_value_Flag (decide (a0.2.1 = (1 : Int)))).bind fun r1 => some (eqT (TValue) a0 r1)) else (bif (decide (a0.1 = (2 : Int))) then ((C_value_Int a0.2.1).bind fun r2 => some (eqT (TValue) a0 r2)) else (bif (decide (a0.1 = (3 : Int))) then ((C_value_Float (Int.toNat a0.2.2.1)).bind fun r3 => some (eqT (TValue) a0 r3)) else (bif (decide (a0.1 = (4 : Int))) then ((C_value_Text a0.2.2.2.1).bind fun r4 => (bif (decide (r4.2 = (0 : Int))) then some (eqT (TValue) a0 r4.1) else some false)) else some false))))
noncomputable def value_May : Nat → den (TValue) → Option (denR (.one (.bool)))
  | 0, _ => none
  | n + 1, a0 => value_May_top (value_Flag n) (value_Int n) (value_Float n) (value_Text n)  a0
theorem value_May_eq (n : Nat) (a0 : den (TValue)) : (acalls cfg intr intrI n).p 51 [.s (.val (TValue) a0)] (.one (.bool)) = value_May n a0 := by
  cases n with
  | zero => rfl
  | succ n =>
    have h : (acalls cfg intr intrI (n + 1)).p 51 [.s (.val (TValue) a0)] (.one (.bool)) = value_May_top (fun (a0 : den (.bool)) => (acalls cfg intr intrI n).p 73 [.s (.val (.bool) a0)] (.one (TValue))) (fun (a0 : den (.int .i64)) => (acalls cfg intr intrI n).p 74 [.s (.val (.int .i64) a0)] (.one (TValue))) (fun (a0 : den (.f64)) => (acalls cfg intr intrI n).p 75 [.s (.val (.f64) a0)] (.one (TValue))) (fun (a0 : den (.str)) => (acalls cfg intr intrI n).p 77 [.s (.val (.str) a0)] (.two (TValue) (.int .i64)))  a0 := by kernel_rfl
    have c_value_Flag : (fun (a0 : den (.bool)) => (acalls cfg intr intrI n).p 73 [.s (.val (.bool) a0)] (.one (TValue))) = value_Flag n := by funext a0; exact value_Flag_eq n a0
    have c_value_Int : (fun (a0 : den (.int .i64)) => (acalls cfg intr intrI n).p 74 [.s (.val (.int .i64) a0)] (.one (TValue))) = value_Int n := by funext a0; exact value_Int_eq n a0
    have c_value_Float : (fun (a0 : den (.f64)) => (acalls cfg intr intrI n).p 75 [.s (.val (.f64) a0)] (.one (TValue))) = value_Float n := by funext a0; exact value_Float_eq n a0
    have c_value_Text : (fun (a0 : den (.str)) => (acalls cfg intr intrI n).p 77 [.s (.val (.str) a0)] (.two (TValue) (.int .i64))) = value_Text n := by funext a0; exact value_Text_eq n a0
    rw [h, c_value_Flag, c_value_Int, c_value_Float, c_value_Text]; rfl

noncomputable def Schema_Fits_top (C_Schema_Find : den (PSchema) → den (.int .i64) → Option (denR (.two (TKey) (.bool)))) (C_value_May : den (TValue) → Option (denR (.one (.bool))))  (a0 : den (PSchema)) (a1 : den (.int .i64)) (a2 : den (TValue)) : Option (denR (.one (.bool))) := ((C_Schema_Find a0 a1).bind fun r1 => (bif r1.2 then (bif (decide (r1.1.2.2.1 = a2.1)) then ((C_value_May a2).bind fun r2 => some r2) else some false) else some false))
noncomputable def Schema_Fits : Nat → den (PSchema) → den (.int .i64) → den (TValue) → Option (denR (.one (.bool)))
  | 0, _, _, _ => none
  | n + 1, a0, a1, a2 => Schema_Fits_top (Schema_Find n) (value_May n)  a0 a1 a2
theorem Schema_Fits_eq (n : Nat) (a0 : den (PSchema)) (a1 : den (.int .i64)) (a2 : den (TValue)) : (acalls cfg intr intrI n).p 34 [.s (.val (PSchema) a0), .s (.val (.int .i64) a1), .s (.val (TValue) a2)] (.one (.bool)) = Schema_Fits n a0 a1 a2 := by
  cases n with
  | zero => rfl
  | succ n =>
    have h : (acalls cfg intr intrI (n + 1)).p 34 [.s (.val (PSchema) a0), .s (.val (.int .i64) a1), .s (.val (TValue) a2)] (.one (.bool)) = Schema_Fits_top (fun (a0 : den (PSchema)) (a1 : den (.int .i64)) => (acalls cfg intr intrI n).p 50 [.s (.val (PSchema) a0), .s (.val (.int .i64) a1)] (.two (TKey) (.bool))) (fun (a0 : den (TValue)) => (acalls cfg intr intrI n).p 51 [.s (.val (TValue) a0)] (.one (.bool)))  a0 a1 a2 := by kernel_rfl
    have c_Schema_Find : (fun (a0 : den (PSchema)) (a1 : den (.int .i64)) => (acalls cfg intr intrI n).p 50 [.s (.val (PSchema) a0), .s (.val (.int .i64) a1)] (.two (TKey) (.bool))) = Schema_Find n := by funext a0 a1; exact Schema_Find_eq n a0 a1
    have c_value_May : (fun (a0 : den (TValue)) => (acalls cfg intr intrI n).p 51 [.s (.val (TValue) a0)] (.one (.bool))) = value_May n := by funext a0; exact value_May_eq n a0
    rw [h, c_Schema_Find, c_value_May]; rfl

noncomputable def B13 : Code := (Go.Proofs.Tryd.f13.body).getD .skip
noncomputable def patch_May_sh5 (t0 : den (PSchema)) (t1 : den (LChange)) (t5 : den (.int .i64)) (t13 : den (LChange)) (t14 : den (.int .i64)) (t15 : den (.int .i64)) : St := ⟨[.s (.val (PSchema) t0), .s (.val (LChange) t1), U, U, U, .s (.val (.int .i64) t5), U, U, U, U, U, U, U, .s (.val (LChange) t13), .s (.val (.int .i64) t14), .s (.val (.int .i64) t15), U, U, U, U, U, U, U, U, U, U, U, U, U, U, U, U, U, U, U, U, U, U, U, U, U, U, U, U, U, U, U, U, U, U, U, U, U, U, U, U, U, U, U, U, U, U, U, U, U, U, U, U, U, U, U, U, U, U, U, U, U], []⟩
noncomputable def patch_May_s5 (C_Schema_Find : den (PSchema) → den (.int .i64) → Option (denR (.two (TKey) (.bool)))) (C_Schema_Fits : den (PSchema) → den (.int .i64) → den (TValue) → Option (denR (.one (.bool)))) (C_value_May : den (TValue) → Option (denR (.one (.bool))))   (LS5 : den (PSchema) → den (LChange) → den (.int .i64) → den (LChange) → den (.int .i64) → den (.int .i64) → Option (denR (.one (.int .i64)))) (t0 : den (PSchema)) (t1 : den (LChange)) (t5 : den (.int .i64)) (t13 : den (LChange)) (t14 : den (.int .i64)) (t15 : den (.int .i64)) : Option (denR (.one (.int .i64))) := (bif (decide (t15 < t14)) then (bif decide (0 ≤ t15) && decide (t15 < (t13.length : Int)) then ((C_Schema_Find t0 ((t13.getD (Int.toNat t15) (dflt (TChange))).1)).bind fun r1 => (bif (decide ((0 : Int) < t15)) then (bif decide (0 ≤ (IntKind.wrap .i64 (t15 - (1 : Int)))) && decide ((IntKind.wrap .i64 (t15 - (1 : Int))) < (t1.length : Int)) then (bif (decide ((t13.getD (Int.toNat t15) (dflt (TChange))).1 ≤ (t1.getD (Int.toNat (IntKind.wrap .i64 (t15 - (1 : Int)))) (dflt (TChange))).1)) then (bif (decide ((t13.getD (Int.toNat t15) (dflt (TChange))).1 ≤ (t1.getD (Int.toNat (IntKind.wrap .i64 (t15 - (1 : Int)))) (dflt (TChange))).1)) then some (3 : Int) else (bif (!r1.2) then LS5 t0 t1 (4 : Int) t13 t14 (IntKind.wrap .i64 (t15 + (1 : Int))) else (bif (!((t13.getD (Int.toNat t15) (dflt (TChange))).2).1) then ((C_Schema_Fits t0 ((t13.getD (Int.toNat t15) (dflt (TChange))).1) ((((t13.getD (Int.toNat t15) (dflt (TChange))).2).2).1)).bind fun r2 => (bif (!r2) then LS5 t0 t1 (4 : Int) t13 t14 (IntKind.wrap .i64 (t15 + (1 : Int))) else LS5 t0 t1 t5 t13 t14 (IntKind.wrap .i64 (t15 + (1 : Int))))) else LS5 t0 t1 t5 t13 t14 (IntKind.wrap .i64 (t15 + (1 : Int)))))) else (bif ((t13.getD (Int.toNat t15) (dflt (TChange))).2).1 then (bif (!eqT (TValue) ((((t13.getD (Int.toNat t15) (dflt (TChange))).2).2).1) ((0 : Int), ((0 : Int), ((0 : Int), ((⟨#[]⟩ : ByteArray), ()))))) then (bif (!eqT (TValue) ((((t13.getD (Int.toNat t15) (dflt (TChange))).2).2).1) ((0 : Int), ((0 : Int), ((0 : Int), ((⟨#[]⟩ : ByteArray), ()))))) then some (3 : Int) else (bif (!r1.2) then LS5 t0 t1 (4 : Int) t13 t14 (IntKind.wrap .i64 (t15 + (1 : Int))) else (bif (!((t13.getD (Int.toNat t15) (dflt (TChange))).2).1) then ((C_Schema_Fits t0 ((t13.getD (Int.toNat t15) (dflt (TChange))).1) ((((t13.getD (Int.toNat t15) (dflt (TChange))).2).2).1)).bind fun r3 => (bif (!r3) then LS5 t0 t1 (4 : Int) t13 t14 (IntKind.wrap .i64 (t15 + (1 : Int))) else LS5 t0 t1 t5 t13 t14 (IntKind.wrap .i64 (t15 + (1 : Int))))) else LS5 t0 t1 t5 t13 t14 (IntKind.wrap .i64 (t15 + (1 : Int)))))) else (bif (!((t13.getD (Int.toNat t15) (dflt (TChange))).2).1) then ((C_value_May ((((t13.getD (Int.toNat t15) (dflt (TChange))).2).2).1)).bind fun r4 => (bif (!r4) then some (3 : Int) else (bif (!r1.2) then LS5 t0 t1 (4 : Int) t13 t14 (IntKind.wrap .i64 (t15 + (1 : Int))) else (bif (!((t13.getD (Int.toNat t15) (dflt (TChange))).2).1) then ((C_Schema_Fits t0 ((t13.getD (Int.toNat t15) (dflt (TChange))).1) ((((t13.getD (Int.toNat t15) (dflt (TChange))).2).2).1)).bind fun r5 => (bif (!r5) then LS5 t0 t1 (4 : Int) t13 t14 (IntKind.wrap .i64 (t15 + (1 : Int))) else LS5 t0 t1 t5 t13 t14 (IntKind.wrap .i64 (t15 + (1 : Int))))) else LS5 t0 t1 t5 t13 t14 (IntKind.wrap .i64 (t15 + (1 : Int))))))) else (bif (!r1.2) then LS5 t0 t1 (4 : Int) t13 t14 (IntKind.wrap .i64 (t15 + (1 : Int))) else (bif (!((t13.getD (Int.toNat t15) (dflt (TChange))).2).1) then ((C_Schema_Fits t0 ((t13.getD (Int.toNat t15) (dflt (TChange))).1) ((((t13.getD (Int.toNat t15) (dflt (TChange))).2).2).1)).bind fun r6 => (bif (!r6) then LS5 t0 t1 (4 : Int) t13 t14 (IntKind.wrap .i64 (t15 + (1 : Int))) else LS5 t0 t1 t5 t13 t14 (IntKind.wrap .i64 (t15 + (1 : Int))))) else LS5 t0 t1 t5 t13 t14 (IntKind.wrap .i64 (t15 + (1 : Int))))))) else (bif (!((t13.getD (Int.toNat t15) (dflt (TChange))).2).1) then ((C_value_May ((((t13.getD (Int.toNat t15) (dflt (TChange))).2).2).1)).bind fun r7 => (bif (!r7) then some (3 : Int) else (bif (!r1.2) then LS5 t0 t1 (4 : Int) t13 t14 (IntKind.wrap .i64 (t15 + (1 : Int))) else (bif (!((t13.getD (Int.toNat t15) (dflt (TChange))).2).1) then ((C_Schema_Fits t0 ((t13.getD (Int.toNat t15) (dflt (TChange))).1) ((((t13.getD (Int.toNat t15) (dflt (TChange))).2).2).1)).bind fun r8 => (bif (!r8) then LS5 t0 t1 (4 : Int) t13 t14 (IntKind.wrap .i64 (t15 + (1 : Int))) else LS5 t0 t1 t5 t13 t14 (IntKind.wrap .i64 (t15 + (1 : Int))))) else LS5 t0 t1 t5 t13 t14 (IntKind.wrap .i64 (t15 + (1 : Int))))))) else (bif (!r1.2) then LS5 t0 t1 (4 : Int) t13 t14 (IntKind.wrap .i64 (t15 + (1 : Int))) else (bif (!((t13.getD (Int.toNat t15) (dflt (TChange))).2).1) then ((C_Schema_Fits t0 ((t13.getD (Int.toNat t15) (dflt (TChange))).1) ((((t13.getD (Int.toNat t15) (dflt (TChange))).2).2).1)).bind fun r9 => (bif (!r9) then LS5 t0 t1 (4 : Int) t13 t14 (IntKind.wrap .i64 (t15 + (1 : Int))) else LS5 t0 t1 t5 t13 t14 (IntKind.wrap .i64 (t15 + (1 : Int))))) else LS5 t0 t1 t5 t13 t14 (IntKind.wrap .i64 (t15 + (1 : Int)))))))) else none) else (bif ((t13.getD (Int.toNat t15) (dflt (TChange))).2).1 then (bif (!eqT (TValue) ((((t13.getD (Int.toNat t15) (dflt (TChange))).2).2).1) ((0 : Int), ((0 : Int), ((0 : Int), ((⟨#[]⟩ : ByteArray), ()))))) then (bif (!eqT (TValue) ((((t13.getD (Int.toNat t15) (dflt (TChange))).2).2).1) ((0 : Int), ((0 : Int), ((0 : Int), ((⟨#[]⟩ : ByteArray), ()))))) then some (3 : Int) else (bif (!r1.2) then LS5 t0 t1 (4 : Int) t13 t14 (IntKind.wrap .i64 (t15 + (1 : Int))) else (bif (!((t13.getD (Int.toNat t15) (dflt (TChange))).2).1) then ((C_Schema_Fits t0 ((t13.getD (Int.toNat t15) (dflt (TChange))).1) ((((t13.getD (Int.toNat t15) (dflt (TChange))).2).2).1)).bind fun r10 => (bif (!r10) then LS5 t0 t1 (4 : Int) t13 t14 (IntKind.wrap .i64 (t15 + (1 : Int))) else LS5 t0 t1 t5 t13 t14 (IntKind.wrap .i64 (t15 + (1 : Int))))) else LS5 t0 t1 t5 t13 t14 (IntKind.wrap .i64 (t15 + (1 : Int)))))) else (bif (!((t13.getD (Int.toNat t15) (dflt (TChange))).2).1) then ((C_value_May ((((t13.getD (Int.toNat t15) (dflt (TChange))).2).2).1)).bind fun r11 => (bif (!r11) then some (3 : Int) else (bif (!r1.2) then LS5 t0 t1 (4 : Int) t13 t14 (IntKind.wrap .i64 (t15 + (1 : Int))) else (bif (!((t13.getD (Int.toNat t15) (dflt (TChange))).2).1) then ((C_Schema_Fits t0 ((t13.getD (Int.toNat t15) (dflt (TChange))).1) ((((t13.getD (Int.toNat t15) (dflt (TChange))).2).2).1)).bind fun r12 => (bif (!r12) then LS5 t0 t1 (4 : Int) t13 t14 (IntKind.wrap .i64 (t15 + (1 : Int))) else LS5 t0 t1 t5 t13 t14 (IntKind.wrap .i64 (t15 + (1 : Int))))) else LS5 t0 t1 t5 t13 t14 (IntKind.wrap .i64 (t15 + (1 : Int))))))) else (bif (!r1.2) then LS5 t0 t1 (4 : Int) t13 t14 (IntKind.wrap .i64 (t15 + (1 : Int))) else (bif (!((t13.getD (Int.toNat t15) (dflt (TChange))).2).1) then ((C_Schema_Fits t0 ((t13.getD (Int.toNat t15) (dflt (TChange))).1) ((((t13.getD (Int.toNat t15) (dflt (TChange))).2).2).1)).bind fun r13 => (bif (!r13) then LS5 t0 t1 (4 : Int) t13 t14 (IntKind.wrap .i64 (t15 + (1 : Int))) else LS5 t0 t1 t5 t13 t14 (IntKind.wrap .i64 (t15 + (1 : Int))))) else LS5 t0 t1 t5 t13 t14 (IntKind.wrap .i64 (t15 + (1 : Int))))))) else (bif (!((t13.getD (Int.toNat t15) (dflt (TChange))).2).1) then ((C_value_May ((((t13.getD (Int.toNat t15) (dflt (TChange))).2).2).1)).bind fun r14 => (bif (!r14) then some (3 : Int) else (bif (!r1.2) then LS5 t0 t1 (4 : Int) t13 t14 (IntKind.wrap .i64 (t15 + (1 : Int))) else (bif (!((t13.getD (Int.toNat t15) (dflt (TChange))).2).1) then ((C_Schema_Fits t0 ((t13.getD (Int.toNat t15) (dflt (TChange))).1) ((((t13.getD (Int.toNat t15) (dflt (TChange))).2).2).1)).bind fun r15 => (bif (!r15) then LS5 t0 t1 (4 : Int) t13 t14 (IntKind.wrap .i64 (t15 + (1 : Int))) else LS5 t0 t1 t5 t13 t14 (IntKind.wrap .i64 (t15 + (1 : Int))))) else LS5 t0 t1 t5 t13 t14 (IntKind.wrap .i64 (t15 + (1 : Int))))))) else (bif (!r1.2) then LS5 t0 t1 (4 : Int) t13 t14 (IntKind.wrap .i64 (t15 + (1 : Int))) else (bif (!((t13.getD (Int.toNat t15) (dflt (TChange))).2).1) then ((C_Schema_Fits t0 ((t13.getD (Int.toNat t15) (dflt (TChange))).1) ((((t13.getD (Int.toNat t15) (dflt (TChange))).2).2).1)).bind fun r16 => (bif (!r16) then LS5 t0 t1 (4 : Int) t13 t14 (IntKind.wrap .i64 (t15 + (1 : Int))) else LS5 t0 t1 t5 t13 t14 (IntKind.wrap .i64 (t15 + (1 : Int))))) else LS5 t0 t1 t5 t13 t14 (IntKind.wrap .i64 (t15 + (1 : Int))))))))) else none) else some t5)
noncomputable def patch_May_l5 (C_Schema_Find : den (PSchema) → den (.int .i64) → Option (denR (.two (TKey) (.bool)))) (C_Schema_Fits : den (PSchema) → den (.int .i64) → den (TValue) → Option (denR (.one (.bool)))) (C_value_May : den (TValue) → Option (denR (.one (.bool)))) (n : Nat)  : Nat → den (PSchema) → den (LChange) → den (.int .i64) → den (LChange) → den (.int .i64) → den (.int .i64) → Option (denR (.one (.int .i64)))
  | 0, _, _, _, _, _, _ => none
  | m + 1, t0, t1, t5, t13, t14, t15 => patch_May_s5 C_Schema_Find C_Schema_Fits C_value_May   (fun (t0 : den (PSchema)) (t1 : den (LChange)) (t5 : den (.int .i64)) (t13 : den (LChange)) (t14 : den (.int .i64)) (t15 : den (.int .i64)) => patch_May_l5 C_Schema_Find C_Schema_Fits C_value_May n  m t0 t1 t5 t13 t14 t15) t0 t1 t5 t13 t14 t15
noncomputable def patch_May_g5 (C_Schema_Find : den (PSchema) → den (.int .i64) → Option (denR (.two (TKey) (.bool)))) (C_Schema_Fits : den (PSchema) → den (.int .i64) → den (TValue) → Option (denR (.one (.bool)))) (C_value_May : den (TValue) → Option (denR (.one (.bool))))   : List (den (TChange)) → den (PSchema) → den (LChange) → den (.int .i64) → den (.int .i64) → Option (denR (.one (.int .i64)))
  | [], t0, t1, t5, t15 => some t5
  | x :: r, t0, t1, t5, t15 => ((C_Schema_Find t0 x.1).bind fun r17 => (bif (decide ((0 : Int) < t15)) then (bif decide (0 ≤ (IntKind.wrap .i64 (t15 - (1 : Int)))) && decide ((IntKind.wrap .i64 (t15 - (1 : Int))) < (t1.length : Int)) then (bif (decide (x.1 ≤ (t1.getD (Int.toNat (IntKind.wrap .i64 (t15 - (1 : Int)))) (dflt (TChange))).1)) then (bif (decide (x.1 ≤ (t1.getD (Int.toNat (IntKind.wrap .i64 (t15 - (1 : Int)))) (dflt (TChange))).1)) then some (3 : Int) else (bif (!r17.2) then patch_May_g5 C_Schema_Find C_Schema_Fits C_value_May   r t0 t1 (4 : Int) (t15 + (1 : Int)) else (bif (!x.2.1) then ((C_Schema_Fits t0 x.1 x.2.2.1).bind fun r18 => (bif (!r18) then patch_May_g5 C_Schema_Find C_Schema_Fits C_value_May   r t0 t1 (4 : Int) (t15 + (1 : Int)) else patch_May_g5 C_Schema_Find C_Schema_Fits C_value_May   r t0 t1 t5 (t15 + (1 : Int)))) else patch_May_g5 C_Schema_Find C_Schema_Fits C_value_May   r t0 t1 t5 (t15 + (1 : Int))))) else (bif x.2.1 then (bif (!eqT (TValue) x.2.2.1 ((0 : Int), ((0 : Int), ((0 : Int), ((⟨#[]⟩ : ByteArray), ()))))) then (bif (!eqT (TValue) x.2.2.1 ((0 : Int), ((0 : Int), ((0 : Int), ((⟨#[]⟩ : ByteArray), ()))))) then some (3 : Int) else (bif (!r17.2) then patch_May_g5 C_Schema_Find C_Schema_Fits C_value_May   r t0 t1 (4 : Int) (t15 + (1 : Int)) else (bif (!x.2.1) then ((C_Schema_Fits t0 x.1 x.2.2.1).bind fun r19 => (bif (!r19) then patch_May_g5 C_Schema_Find C_Schema_Fits C_value_May   r t0 t1 (4 : Int) (t15 + (1 : Int)) else patch_May_g5 C_Schema_Find C_Schema_Fits C_value_May   r t0 t1 t5 (t15 + (1 : Int)))) else patch_May_g5 C_Schema_Find C_Schema_Fits C_value_May   r t0 t1 t5 (t15 + (1 : Int))))) else (bif (!x.2.1) then ((C_value_May x.2.2.1).bind fun r20 => (bif (!r20) then some (3 : Int) else (bif (!r17.2) then patch_May_g5 C_Schema_Find C_Schema_Fits C_value_May   r t0 t1 (4 : Int) (t15 + (1 : Int)) else (bif (!x.2.1) then ((C_Schema_Fits t0 x.1 x.2.2.1).bind fun r21 => (bif (!r21) then patch_May_g5 C_Schema_Find C_Schema_Fits C_value_May   r t0 t1 (4 : Int) (t15 + (1 : Int)) else patch_May_g5 C_Schema_Find C_Schema_Fits C_value_May   r t0 t1 t5 (t15 + (1 : Int)))) else patch_May_g5 C_Schema_Find C_Schema_Fits C_value_May   r t0 t1 t5 (t15 + (1 : Int)))))) else (bif (!r17.2) then patch_May_g5 C_Schema_Find C_Schema_Fits C_value_May   r t0 t1 (4 : Int) (t15 + (1 : Int)) else (bif (!x.2.1) then ((C_Schema_Fits t0 x.1 x.2.2.1).bind fun r22 => (bif (!r22) then patch_May_g5 C_Schema_Find C_Schema_Fits C_value_May   r t0 t1 (4 : Int) (t15 + (1 : Int)) else patch_May_g5 C_Schema_Find C_Schema_Fits C_value_May   r t0 t1 t5 (t15 + (1 : Int)))) else patch_May_g5 C_Schema_Find C_Schema_Fits C_value_May   r t0 t1 t5 (t15 + (1 : Int)))))) else (bif (!x.2.1) then ((C_value_May x.2.2.1).bind fun r23 => (bif (!r23) then some (3 : Int) else (bif (!r17.2) then patch_May_g5 C_Schema_Find C_Schema_Fits C_value_May   r t0 t1 (4 : Int) (t15 + (1 : Int)) else (bif (!x.2.1) then ((C_Schema_Fits t0 x.1 x.2.2.1).bind fun r24 => (bif (!r24) then patch_May_g5 C_Schema_Find C_Schema_Fits C_value_May   r t0 t1 (4 : Int) (t15 + (1 : Int)) else patch_May_g5 C_Schema_Find C_Schema_Fits C_value_May   r t0 t1 t5 (t15 + (1 : Int)))) else patch_May_g5 C_Schema_Find C_Schema_Fits C_value_May   r t0 t1 t5 (t15 + (1 : Int)))))) else (bif (!r17.2) then patch_May_g5 C_Schema_Find C_Schema_Fits C_value_May   r t0 t1 (4 : Int) (t15 + (1 : Int)) else (bif (!x.2.1) then ((C_Schema_Fits t0 x.1 x.2.2.1).bind fun r25 => (bif (!r25) then patch_May_g5 C_Schema_Find C_Schema_Fits C_value_May   r t0 t1 (4 : Int) (t15 + (1 : Int)) else patch_May_g5 C_Schema_Find C_Schema_Fits C_value_May   r t0 t1 t5 (t15 + (1 : Int)))) else patch_May_g5 C_Schema_Find C_Schema_Fits C_value_May   r t0 t1 t5 (t15 + (1 : Int))))))) else none) else (bif x.2.1 then (bif (!eqT (TValue) x.2.2.1 ((0 : Int), ((0 : Int), ((0 : Int), ((⟨#[]⟩ : ByteArray), ()))))) then (bif (!eqT (TValue) x.2.2.1 ((0 : Int), ((0 : Int), ((0 : Int), ((⟨#[]⟩ : ByteArray), ()))))) then some (3 : Int) else (bif (!r17.2) then patch_May_g5 C_Schema_Find C_Schema_Fits C_value_May   r t0 t1 (4 : Int) (t15 + (1 : Int)) else (bif (!x.2.1) then ((C_Schema_Fits t0 x.1 x.2.2.1).bind fun r26 => (bif (!r26) then patch_May_g5 C_Schema_Find C_Schema_Fits C_value_May   r t0 t1 (4 : Int) (t15 + (1 : Int)) else patch_May_g5 C_Schema_Find C_Schema_Fits C_value_May   r t0 t1 t5 (t15 + (1 : Int)))) else patch_May_g5 C_Schema_Find C_Schema_Fits C_value_May   r t0 t1 t5 (t15 + (1 : Int))))) else (bif (!x.2.1) then ((C_value_May x.2.2.1).bind fun r27 => (bif (!r27) then some (3 : Int) else (bif (!r17.2) then patch_May_g5 C_Schema_Find C_Schema_Fits C_value_May   r t0 t1 (4 : Int) (t15 + (1 : Int)) else (bif (!x.2.1) then ((C_Schema_Fits t0 x.1 x.2.2.1).bind fun r28 => (bif (!r28) then patch_May_g5 C_Schema_Find C_Schema_Fits C_value_May   r t0 t1 (4 : Int) (t15 + (1 : Int)) else patch_May_g5 C_Schema_Find C_Schema_Fits C_value_May   r t0 t1 t5 (t15 + (1 : Int)))) else patch_May_g5 C_Schema_Find C_Schema_Fits C_value_May   r t0 t1 t5 (t15 + (1 : Int)))))) else (bif (!r17.2) then patch_May_g5 C_Schema_Find C_Schema_Fits C_value_May   r t0 t1 (4 : Int) (t15 + (1 : Int)) else (bif (!x.2.1) then ((C_Schema_Fits t0 x.1 x.2.2.1).bind fun r29 => (bif (!r29) then patch_May_g5 C_Schema_Find C_Schema_Fits C_value_May   r t0 t1 (4 : Int) (t15 + (1 : Int)) else patch_May_g5 C_Schema_Find C_Schema_Fits C_value_May   r t0 t1 t5 (t15 + (1 : Int)))) else patch_May_g5 C_Schema_Find C_Schema_Fits C_value_May   r t0 t1 t5 (t15 + (1 : Int)))))) else (bif (!x.2.1) then ((C_value_May x.2.2.1).bind fun r30 => (bif (!r30) then some (3 : Int) else (bif (!r17.2) then patch_May_g5 C_Schema_Find C_Schema_Fits C_value_May   r t0 t1 (4 : Int) (t15 + (1 : Int)) else (bif (!x.2.1) then ((C_Schema_Fits t0 x.1 x.2.2.1).bind fun r31 => (bif (!r31) then patch_May_g5 C_Schema_Find C_Schema_Fits C_value_May   r t0 t1 (4 : Int) (t15 + (1 : Int)) else patch_May_g5 C_Schema_Find C_Schema_Fits C_value_May   r t0 t1 t5 (t15 + (1 : Int)))) else patch_May_g5 C_Schema_Find C_Schema_Fits C_value_May   r t0 t1 t5 (t15 + (1 : Int)))))) else (bif (!r17.2) then patch_May_g5 C_Schema_Find C_Schema_Fits C_value_May   r t0 t1 (4 : Int) (t15 + (1 : Int)) else (bif (!x.2.1) then ((C_Schema_Fits t0 x.1 x.2.2.1).bind fun r32 => (bif (!r32) then patch_May_g5 C_Schema_Find C_Schema_Fits C_value_May   r t0 t1 (4 : Int) (t15 + (1 : Int)) else patch_May_g5 C_Schema_Find C_Schema_Fits C_value_May   r t0 t1 t5 (t15 + (1 : Int)))) else patch_May_g5 C_Schema_Find C_Schema_Fits C_value_May   r t0 t1 t5 (t15 + (1 : Int))))))))
theorem patch_May_l5_list (C_Schema_Find : den (PSchema) → den (.int .i64) → Option (denR (.two (TKey) (.bool)))) (C_Schema_Fits : den (PSchema) → den (.int .i64) → den (TValue) → Option (denR (.one (.bool)))) (C_value_May : den (TValue) → Option (denR (.one (.bool)))) (n : Nat)  : ∀ (m i : Nat) (t0 : den (PSchema)) (t1 : den (LChange)) (t5 : den (.int .i64)) (t13 : den (LChange)), t13.length - i < m → i ≤ t13.length → t13.length < 4611686018427387904 → patch_May_l5 C_Schema_Find C_Schema_Fits C_value_May n  m t0 t1 t5 t13 (t13.length : Int) (i : Int) = patch_May_g5 C_Schema_Find C_Schema_Fits C_value_May   (t13.drop i) t0 t1 t5 (i : Int) := by
  intro m
  induction m with
  | zero => intro i t0 t1 t5 t13 h1; omega
  | succ m ih =>
    intro i t0 t1 t5 t13 h1 h2 h3
    show patch_May_s5 C_Schema_Find C_Schema_Fits C_value_May   (fun (t0 : den (PSchema)) (t1 : den (LChange)) (t5 : den (.int .i64)) (t13 : den (LChange)) (t14 : den (.int .i64)) (t15 : den (.int .i64)) => patch_May_l5 C_Schema_Find C_Schema_Fits C_value_May n  m t0 t1 t5 t13 t14 t15) t0 t1 t5 t13 (t13.length : Int) (i : Int) = _
    unfold patch_May_s5
    have b0 : decide ((0 : Int) ≤ (i : Int)) = true := decide_eq_true (by omega)
    rcases Nat.lt_or_ge i t13.length with hi | hi
    · have b1 : decide ((i : Int) < (t13.length : Int)) = true := decide_eq_true (by omega)
      have bw : IntKind.i64.wrap ((i : Int) + (1 : Int)) = ((i + 1 : Nat) : Int) := w64s (by omega)
      have ih' : ∀ (t0 : den (PSchema)) (t1 : den (LChange)) (t5 : den (.int .i64)), patch_May_l5 C_Schema_Find C_Schema_Fits C_value_May n  m t0 t1 t5 t13 (t13.length : Int) ((i + 1 : Nat) : Int) = patch_May_g5 C_Schema_Find C_Schema_Fits C_value_May   (t13.drop (i + 1)) t0 t1 t5 ((i + 1 : Nat) : Int) := fun t0 t1 t5 => ih (i + 1) t0 t1 t5 t13 (by omega) (by omega) h3
      simp only [b0, b1, bw, Bool.and_true, Bool.true_and, cond_true, Int.toNat_natCast, ih']
      rw [drop_getD hi (dflt (TChange))]
      rfl
    · have b1 : decide ((i : Int) < (t13.length : Int)) = false := decide_eq_false (by omega)
      simp only [b1, cond_false]
      rw [List.drop_eq_nil_of_le hi]
      rfl
noncomputable def patch_May_F5 (call : Call0) (n : Nat)  : (St → Option (denR (.one (.int .i64)))) → St → Option (denR (.one (.int .i64))) := fun rec => exec cfg call n 13 (cat B13 [1, 1, 1, 0, 1, 0, 0]) (kLoop rec (lk2 13 5 cfg.keep) (kBlock 0 (kSq (exec cfg call n 13 (cat B13 [1, 1, 1, 1])) (kret cfg Go.Proofs.Tryd.f13 (.one (.int .i64))))))
theorem patch_May_l5_eq (call : Call0) (n : Nat)  : ∀ (m : Nat) (t0 : den (PSchema)) (t1 : den (LChange)) (t5 : den (.int .i64)) (t13 : den (LChange)) (t14 : den (.int .i64)) (t15 : den (.int .i64)), loopN (patch_May_F5 call n ) m (patch_May_sh5 t0 t1 t5 t13 t14 t15) = patch_May_l5 (fun (a0 : den (PSchema)) (a1 : den (.int .i64)) => call.p 50 [.s (.val (PSchema) a0), .s (.val (.int .i64) a1)] (.two (TKey) (.bool))) (fun (a0 : den (PSchema)) (a1 : den (.int .i64)) (a2 : den (TValue)) => call.p 34 [.s (.val (PSchema) a0), .s (.val (.int .i64) a1), .s (.val (TValue) a2)] (.one (.bool))) (fun (a0 : den (TValue)) => call.p 51 [.s (.val (TValue) a0)] (.one (.bool))) n  m t0 t1 t5 t13 t14 t15 := by
  intro m
  induction m with
  | zero => intros; rfl
  | succ m ih =>
    intro t0 t1 t5 t13 t14 t15
    have h : loopN (patch_May_F5 call n ) (m + 1) (patch_May_sh5 t0 t1 t5 t13 t14 t15) = patch_May_s5 (fun (a0 : den (PSchema)) (a1 : den (.int .i64)) => call.p 50 [.s (.val (PSchema) a0), .s (.val (.int .i64) a1)] (.two (TKey) (.bool))) (fun (a0 : den (PSchema)) (a1 : den (.int .i64)) (a2 : den (TValue)) => call.p 34 [.s (.val (PSchema) a0), .s (.val (.int .i64) a1), .s (.val (TValue) a2)] (.one (.bool))) (fun (a0 : den (TValue)) => call.p 51 [.s (.val (TValue) a0)] (.one (.bool)))   (fun (t0 : den (PSchema)) (t1 : den (LChange)) (t5 : den (.int .i64)) (t13 : den (LChange)) (t14 : den (.int .i64)) (t15 : den (.int .i64)) => loopN (patch_May_F5 call n ) m (patch_May_sh5 t0 t1 t5 t13 t14 t15)) t0 t1 t5 t13 t14 t15 := by kernel_rfl
    have e0 : (fun (t0 : den (PSchema)) (t1 : den (LChange)) (t5 : den (.int .i64)) (t13 : den (LChange)) (t14 : den (.int .i64)) (t15 : den (.int .i64)) => loopN (patch_May_F5 call n ) m (patch_May_sh5 t0 t1 t5 t13 t14 t15)) = (fun (t0 : den (PSchema)) (t1 : den (LChange)) (t5 : den (.int .i64)) (t13 : den (LChange)) (t14 : den (.int .i64)) (t15 : den (.int .i64)) => patch_May_l5 (fun (a0 : den (PSchema)) (a1 : den (.int .i64)) => call.p 50 [.s (.val (PSchema) a0), .s (.val (.int .i64) a1)] (.two (TKey) (.bool))) (fun (a0 : den (PSchema)) (a1 : den (.int .i64)) (a2 : den (TValue)) => call.p 34 [.s (.val (PSchema) a0), .s (.val (.int .i64) a1), .s (.val (TValue) a2)] (.one (.bool))) (fun (a0 : den (TValue)) => call.p 51 [.s (.val (TValue) a0)] (.one (.bool))) n  m t0 t1 t5 t13 t14 t15) := by funext t0 t1 t5 t13 t14 t15; exact ih t0 t1 t5 t13 t14 t15
    rw [h, e0]; rfl
noncomputable def patch_May_top (C_Schema_Find : den (PSchema) → den (.int .i64) → Option (denR (.two (TKey) (.bool)))) (C_Schema_Fits : den (PSchema) → den (.int .i64) → den (TValue) → Option (denR (.one (.bool)))) (C_value_May : den (TValue) → Option (denR (.one (.bool)))) (LL5 : den (PSchema) → den (LChange) → den (.int .i64) → den (LChange) → den (.int .i64) → den (.int .i64) → Option (denR (.one (.int .i64)))) (a0 : den (PSchema)) (a1 : den (LChange)) : Option (denR (.one (.int .i64))) := (bif (decide ((64 : Int) < (a1.length : Int))) then some (3 : Int) else LL5 a0 a1 (0 : Int) a1 (a1.length : Int) (0 : Int))
noncomputable def patch_May : Nat → den (PSchema) → den (LChange) → Option (denR (.one (.int .i64)))
  | 0, _, _ => none
  | n + 1, a0, a1 => patch_May_top (Schema_Find n) (Schema_Fits n) (value_May n) (patch_May_l5 (Schema_Find n) (Schema_Fits n) (value_May n) n n) a0 a1
theorem patch_May_eq (n : Nat) (a0 : den (PSchema)) (a1 : den (LChange)) : (acalls cfg intr intrI n).p 13 [.s (.val (PSchema) a0), .s (.val (LChange) a1)] (.one (.int .i64)) = patch_May n a0 a1 := by
  cases n with
  | zero => rfl
  | succ n =>
    have h : (acalls cfg intr intrI (n + 1)).p 13 [.s (.val (PSchema) a0), .s (.val (LChange) a1)] (.one (.int .i64)) = patch_May_top (fun (a0 : den (PSchema)) (a1 : den (.int .i64)) => (acalls cfg intr intrI n).p 50 [.s (.val (PSchema) a0), .s (.val (.int .i64) a1)] (.two (TKey) (.bool))) (fun (a0 : den (PSchema)) (a1 : den (.int .i64)) (a2 : den (TValue)) => (acalls cfg intr intrI n).p 34 [.s (.val (PSchema) a0), .s (.val (.int .i64) a1), .s (.val (TValue) a2)] (.one (.bool))) (fun (a0 : den (TValue)) => (acalls cfg intr intrI n).p 51 [.s (.val (TValue) a0)] (.one (.bool))) (fun (t0 : den (PSchema)) (t1 : den (LChange)) (t5 : den (.int .i64)) (t13 : den (LChange)) (t14 : den (.int .i64)) (t15 : den (.int .i64)) => loopN (patch_May_F5 (acalls cfg intr intrI n) n) n (patch_May_sh5 t0 t1 t5 t13 t14 t15)) a0 a1 := by kernel_rfl
    have e5 : (fun (t0 : den (PSchema)) (t1 : den (LChange)) (t5 : den (.int .i64)) (t13 : den (LChange)) (t14 : den (.int .i64)) (t15 : den (.int .i64)) => loopN (patch_May_F5 (acalls cfg intr intrI n) n) n (patch_May_sh5 t0 t1 t5 t13 t14 t15)) = patch_May_l5 (fun (a0 : den (PSchema)) (a1 : den (.int .i64)) => (acalls cfg intr intrI n).p 50 [.s (.val (PSchema) a0), .s (.val (.int .i64) a1)] (.two (TKey) (.bool))) (fun (a0 : den (PSchema)) (a1 : den (.int .i64)) (a2 : den (TValue)) => (acalls cfg intr intrI n).p 34 [.s (.val (PSchema) a0), .s (.val (.int .i64) a1), .s (.val (TValue) a2)] (.one (.bool))) (fun (a0 : den (TValue)) => (acalls cfg intr intrI n).p 51 [.s (.val (TValue) a0)] (.one (.bool))) n n := by funext t0 t1 t5 t13 t14 t15; exact patch_May_l5_eq (acalls cfg intr intrI n) n n t0 t1 t5 t13 t14 t15
    have c_Schema_Find : (fun (a0 : den (PSchema)) (a1 : den (.int .i64)) => (acalls cfg intr intrI n).p 50 [.s (.val (PSchema) a0), .s (.val (.int .i64) a1)] (.two (TKey) (.bool))) = Schema_Find n := by funext a0 a1; exact Schema_Find_eq n a0 a1
    have c_Schema_Fits : (fun (a0 : den (PSchema)) (a1 : den (.int .i64)) (a2 : den (TValue)) => (acalls cfg intr intrI n).p 34 [.s (.val (PSchema) a0), .s (.val (.int .i64) a1), .s (.val (TValue) a2)] (.one (.bool))) = Schema_Fits n := by funext a0 a1 a2; exact Schema_Fits_eq n a0 a1 a2
    have c_value_May : (fun (a0 : den (TValue)) => (acalls cfg intr intrI n).p 51 [.s (.val (TValue) a0)] (.one (.bool))) = value_May n := by funext a0; exact value_May_eq n a0
    rw [h, e5, c_Schema_Find, c_Schema_Fits, c_value_May]; rfl

noncomputable def slices_Clone_Change : Nat → den (LChange) → Option (denS (⟨.row 40 (TChange), []⟩ : Sig))
  | 0, _ => none
  | n + 1, a0 => bif decide ((0 + a0.length) * 56 ≤ 140737488355328) then some (a0, ()) else none
theorem slices_Clone_Change_eq (n : Nat) (a0 : den (LChange)) : (acalls cfg intr intrI n).i 53 [.s (.val (LChange) a0)] [] (⟨.row 40 (TChange), []⟩ : Sig) = slices_Clone_Change n a0 := by
  cases n with
  | zero => rfl
  | succ n => kernel_rfl

noncomputable def patch_Part_1_top (C_Schema_Find : den (PSchema) → den (.int .i64) → Option (denR (.two (TKey) (.bool))))  (a0 : den (TChange)) (a1 : den (PSchema)) (a2 : den (.bool)) : Option (denR (.one (.bool))) := ((C_Schema_Find a1 a0.1).bind fun r1 => (bif (!r1.2) then some true else some (!eqT (.bool) r1.1.2.1 a2)))
noncomputable def patch_Part_1 : Nat → den (TChange) → den (PSchema) → den (.bool) → Option (denR (.one (.bool)))
  | 0, _, _, _ => none
  | n + 1, a0, a1, a2 => patch_Part_1_top (Schema_Find n)  a0 a1 a2
theorem patch_Part_1_eq (n : Nat) (a0 : den (TChange)) (a1 : den (PSchema)) (a2 : den (.bool)) : (acalls cfg intr intrI n).p 54 [.s (.val (TChange) a0), .s (.eptr (PSchema) a1), .s (.eptr (.bool) a2)] (.one (.bool)) = patch_Part_1 n a0 a1 a2 := by
  cases n with
  | zero => rfl
  | succ n =>
    have h : (acalls cfg intr intrI (n + 1)).p 54 [.s (.val (TChange) a0), .s (.eptr (PSchema) a1), .s (.eptr (.bool) a2)] (.one (.bool)) = patch_Part_1_top (fun (a0 : den (PSchema)) (a1 : den (.int .i64)) => (acalls cfg intr intrI n).p 50 [.s (.val (PSchema) a0), .s (.val (.int .i64) a1)] (.two (TKey) (.bool)))  a0 a1 a2 := by kernel_rfl
    have c_Schema_Find : (fun (a0 : den (PSchema)) (a1 : den (.int .i64)) => (acalls cfg intr intrI n).p 50 [.s (.val (PSchema) a0), .s (.val (.int .i64) a1)] (.two (TKey) (.bool))) = Schema_Find n := by funext a0 a1; exact Schema_Find_eq n a0 a1
    rw [h, c_Schema_Find]; rfl

noncomputable def B78 : Code := (Go.Proofs.Tryd.f78.body).getD .skip
noncomputable def slices_IndexFunc_Change__patch_Part_1_sh2 (st0 : den (LChange)) (ft1_0 : den (PSchema)) (ft1_1 : den (.bool)) (t7 : den (.int .i64)) (t8 : den (.int .i64)) : St := ⟨[.s (.val (LChange) st0), .fn 54 [.eptr (PSchema) ft1_0, .eptr (.bool) ft1_1], U, U, U, U, U, .s (.val (.int .i64) t7), .s (.val (.int .i64) t8), U, U, U, U, U, U, U, U, U, U], []⟩
noncomputable def slices_IndexFunc_Change__patch_Part_1_s2 (C_patch_Part_1 : den (TChange) → den (PSchema) → den (.bool) → Option (denR (.one (.bool))))   (LS2 : den (LChange) → den (PSchema) → den (.bool) → den (.int .i64) → den (.int .i64) → Option (denR (.one (.int .i64)))) (st0 : den (LChange)) (ft1_0 : den (PSchema)) (ft1_1 : den (.bool)) (t7 : den (.int .i64)) (t8 : den (.int .i64)) : Option (denR (.one (.int .i64))) := (bif (decide (t8 < t7)) then (bif decide (0 ≤ t8) && decide (t8 < (st0.length : Int)) then ((C_patch_Part_1 (st0.getD (Int.toNat t8) (dflt (TChange))) ft1_0 ft1_1).bind fun r1 => (bif r1 then some t8 else LS2 st0 ft1_0 ft1_1 t7 (IntKind.wrap .i64 (t8 + (1 : Int))))) else none) else some (-1 : Int))
noncomputable def slices_IndexFunc_Change__patch_Part_1_l2 (C_patch_Part_1 : den (TChange) → den (PSchema) → den (.bool) → Option (denR (.one (.bool)))) (n : Nat)  : Nat → den (LChange) → den (PSchema) → den (.bool) → den (.int .i64) → den (.int .i64) → Option (denR (.one (.int .i64)))
  | 0, _, _, _, _, _ => none
  | m + 1, st0, ft1_0, ft1_1, t7, t8 => slices_IndexFunc_Change__patch_Part_1_s2 C_patch_Part_1   (fun (st0 : den (LChange)) (ft1_0 : den (PSchema)) (ft1_1 : den (.bool)) (t7 : den (.int .i64)) (t8 : den (.int .i64)) => slices_IndexFunc_Change__patch_Part_1_l2 C_patch_Part_1 n  m st0 ft1_0 ft1_1 t7 t8) st0 ft1_0 ft1_1 t7 t8
noncomputable def slices_IndexFunc_Change__patch_Part_1_g2 (C_patch_Part_1 : den (TChange) → den (PSchema) → den (.bool) → Option (denR (.one (.bool))))   : List (den (TChange)) → den (PSchema) → den (.bool) → den (.int .i64) → Option (denR (.one (.int .i64)))
  | [], ft1_0, ft1_1, t8 => some (-1 : Int)
  | x :: r, ft1_0, ft1_1, t8 => ((C_patch_Part_1 x ft1_0 ft1_1).bind fun r2 => (bif r2 then some t8 else slices_IndexFunc_Change__patch_Part_1_g2 C_patch_Part_1   r ft1_0 ft1_1 (t8 + (1 : Int))))
theorem slices_IndexFunc_Change__patch_Part_1_l2_list (C_patch_Part_1 : den (TChange) → den (PSchema) → den (.bool) → Option (denR (.one (.bool)))) (n : Nat)  : ∀ (m i : Nat) (st0 : den (LChange)) (ft1_0 : den (PSchema)) (ft1_1 : den (.bool)), st0.length - i < m → i ≤ st0.length → st0.length < 4611686018427387904 → slices_IndexFunc_Change__patch_Part_1_l2 C_patch_Part_1 n  m st0 ft1_0 ft1_1 (st0.length : Int) (i : Int) = slices_IndexFunc_Change__patch_Part_1_g2 C_patch_Part_1   (st0.drop i) ft1_0 ft1_1 (i : Int) := by
  intro m
  induction m with
  | zero => intro i st0 ft1_0 ft1_1 h1; omega
  | succ m ih =>
    intro i st0 ft1_0 ft1_1 h1 h2 h3
    show slices_IndexFunc_Change__patch_Part_1_s2 C_patch_Part_1   (fun (st0 : den (LChange)) (ft1_0 : den (PSchema)) (ft1_1 : den (.bool)) (t7 : den (.int .i64)) (t8 : den (.int .i64)) => slices_IndexFunc_Change__patch_Part_1_l2 C_patch_Part_1 n  m st0 ft1_0 ft1_1 t7 t8) st0 ft1_0 ft1_1 (st0.length : Int) (i : Int) = _
    unfold slices_IndexFunc_Change__patch_Part_1_s2
    have b0 : decide ((0 : Int) ≤ (i : Int)) = true := decide_eq_true (by omega)
    rcases Nat.lt_or_ge i st0.length with hi | hi
    · have b1 : decide ((i : Int) < (st0.length : Int)) = true := decide_eq_true (by omega)
      have bw : IntKind.i64.wrap ((i : Int) + (1 : Int)) = ((i + 1 : Nat) : Int) := w64s (by omega)
      have ih' : ∀ (ft1_0 : den (PSchema)) (ft1_1 : den (.bool)), slices_IndexFunc_Change__patch_Part_1_l2 C_patch_Part_1 n  m st0 ft1_0 ft1_1 (st0.length : Int) ((i + 1 : Nat) : Int) = slices_IndexFunc_Change__patch_Part_1_g2 C_patch_Part_1   (st0.drop (i + 1)) ft1_0 ft1_1 ((i + 1 : Nat) : Int) := fun ft1_0 ft1_1 => ih (i + 1) st0 ft1_0 ft1_1 (by omega) (by omega) h3
      simp only [b0, b1, bw, Bool.and_true, Bool.true_and, cond_true, Int.toNat_natCast, ih']
      rw [drop_getD hi (dflt (TChange))]
      rfl
    · have b1 : decide ((i : Int) < (st0.length : Int)) = false := decide_eq_false (by omega)
      simp only [b1, cond_false]
      rw [List.drop_eq_nil_of_le hi]
      rfl
noncomputable def slices_IndexFunc_Change__patch_Part_1_F2 (call : Call0) (n : Nat)  : (St → Option (denR (.one (.int .i64)))) → St → Option (denR (.one (.int .i64))) := fun rec => exec cfg call n 78 (cat B78 [1, 0, 1, 0, 0]) (kLoop rec (lk2 78 2 cfg.keep) (kBlock 0 (kSq (exec cfg call n 78 (cat B78 [1, 1])) (kret cfg Go.Proofs.Tryd.f78 (.one (.int .i64))))))
theorem slices_IndexFunc_Change__patch_Part_1_l2_eq (call : Call0) (n : Nat)  : ∀ (m : Nat) (st0 : den (LChange)) (ft1_0 : den (PSchema)) (ft1_1 : den (.bool)) (t7 : den (.int .i64)) (t8 : den (.int .i64)), loopN (slices_IndexFunc_Change__patch_Part_1_F2 call n ) m (slices_IndexFunc_Change__patch_Part_1_sh2 st0 ft1_0 ft1_1 t7 t8) = slices_IndexFunc_Change__patch_Part_1_l2 (fun (a0 : den (TChange)) (a1 : den (PSchema)) (a2 : den (.bool)) => call.p 54 [.s (.val (TChange) a0), .s (.eptr (PSchema) a1), .s (.eptr (.bool) a2)] (.one (.bool))) n  m st0 ft1_0 ft1_1 t7 t8 := by
  intro m
  induction m with
  | zero => intros; rfl
  | succ m ih =>
    intro st0 ft1_0 ft1_1 t7 t8
    have h : loopN (slices_IndexFunc_Change__patch_Part_1_F2 call n ) (m + 1) (slices_IndexFunc_Change__patch_Part_1_sh2 st0 ft1_0 ft1_1 t7 t8) = slices_IndexFunc_Change__patch_Part_1_s2 (fun (a0 : den (TChange)) (a1 : den (PSchema)) (a2 : den (.bool)) => call.p 54 [.s (.val (TChange) a0), .s (.eptr (PSchema) a1), .s (.eptr (.bool) a2)] (.one (.bool)))   (fun (st0 : den (LChange)) (ft1_0 : den (PSchema)) (ft1_1 : den (.bool)) (t7 : den (.int .i64)) (t8 : den (.int .i64)) => loopN (slices_IndexFunc_Change__patch_Part_1_F2 call n ) m (slices_IndexFunc_Change__patch_Part_1_sh2 st0 ft1_0 ft1_1 t7 t8)) st0 ft1_0 ft1_1 t7 t8 := by kernel_rfl
    have e0 : (fun (st0 : den (LChange)) (ft1_0 : den (PSchema)) (ft1_1 : den (.bool)) (t7 : den (.int .i64)) (t8 : den (.int .i64)) => loopN (slices_IndexFunc_Change__patch_Part_1_F2 call n ) m (slices_IndexFunc_Change__patch_Part_1_sh2 st0 ft1_0 ft1_1 t7 t8)) = (fun (st0 : den (LChange)) (ft1_0 : den (PSchema)) (ft1_1 : den (.bool)) (t7 : den (.int .i64)) (t8 : den (.int .i64)) => slices_IndexFunc_Change__patch_Part_1_l2 (fun (a0 : den (TChange)) (a1 : den (PSchema)) (a2 : den (.bool)) => call.p 54 [.s (.val (TChange) a0), .s (.eptr (PSchema) a1), .s (.eptr (.bool) a2)] (.one (.bool))) n  m st0 ft1_0 ft1_1 t7 t8) := by funext st0 ft1_0 ft1_1 t7 t8; exact ih st0 ft1_0 ft1_1 t7 t8
    rw [h, e0]; rfl
noncomputable def slices_IndexFunc_Change__patch_Part_1_top (C_patch_Part_1 : den (TChange) → den (PSchema) → den (.bool) → Option (denR (.one (.bool)))) (LL2 : den (LChange) → den (PSchema) → den (.bool) → den (.int .i64) → den (.int .i64) → Option (denR (.one (.int .i64)))) (a0 : den (LChange)) (a1_0 : den (PSchema)) (a1_1 : den (.bool)) : Option (denR (.one (.int .i64))) := LL2 a0 a1_0 a1_1 (a0.length : Int) (0 : Int)
noncomputable def slices_IndexFunc_Change__patch_Part_1 : Nat → den (LChange) → den (PSchema) → den (.bool) → Option (denR (.one (.int .i64)))
  | 0, _, _, _ => none
  | n + 1, a0, a1_0, a1_1 => slices_IndexFunc_Change__patch_Part_1_top (patch_Part_1 n) (slices_IndexFunc_Change__patch_Part_1_l2 (patch_Part_1 n) n n) a0 a1_0 a1_1
theorem slices_IndexFunc_Change__patch_Part_1_eq (n : Nat) (a0 : den (LChange)) (a1_0 : den (PSchema)) (a1_1 : den (.bool)) : (acalls cfg intr intrI n).p 78 [.s (.val (LChange) a0), .fn 54 [.eptr (PSchema) a1_0, .eptr (.bool) a1_1]] (.one (.int .i64)) = slices_IndexFunc_Change__patch_Part_1 n a0 a1_0 a1_1 := by
  cases n with
  | zero => rfl
  | succ n =>
    have h : (acalls cfg intr intrI (n + 1)).p 78 [.s (.val (LChange) a0), .fn 54 [.eptr (PSchema) a1_0, .eptr (.bool) a1_1]] (.one (.int .i64)) = slices_IndexFunc_Change__patch_Part_1_top (fun (a0 : den (TChange)) (a1 : den (PSchema)) (a2 : den (.bool)) => (acalls cfg intr intrI n).p 54 [.s (.val (TChange) a0), .s (.eptr (PSchema) a1), .s (.eptr (.bool) a2)] (.one (.bool))) (fun (st0 : den (LChange)) (ft1_0 : den (PSchema)) (ft1_1 : den (.bool)) (t7 : den (.int .i64)) (t8 : den (.int .i64)) => loopN (slices_IndexFunc_Change__patch_Part_1_F2 (acalls cfg intr intrI n) n) n (slices_IndexFunc_Change__patch_Part_1_sh2 st0 ft1_0 ft1_1 t7 t8)) a0 a1_0 a1_1 := by kernel_rfl
    have e2 : (fun (st0 : den (LChange)) (ft1_0 : den (PSchema)) (ft1_1 : den (.bool)) (t7 : den (.int .i64)) (t8 : den (.int .i64)) => loopN (slices_IndexFunc_Change__patch_Part_1_F2 (acalls cfg intr intrI n) n) n (slices_IndexFunc_Change__patch_Part_1_sh2 st0 ft1_0 ft1_1 t7 t8)) = slices_IndexFunc_Change__patch_Part_1_l2 (fun (a0 : den (TChange)) (a1 : den (PSchema)) (a2 : den (.bool)) => (acalls cfg intr intrI n).p 54 [.s (.val (TChange) a0), .s (.eptr (PSchema) a1), .s (.eptr (.bool) a2)] (.one (.bool))) n n := by funext st0 ft1_0 ft1_1 t7 t8; exact slices_IndexFunc_Change__patch_Part_1_l2_eq (acalls cfg intr intrI n) n n st0 ft1_0 ft1_1 t7 t8
    have c_patch_Part_1 : (fun (a0 : den (TChange)) (a1 : den (PSchema)) (a2 : den (.bool)) => (acalls cfg intr intrI n).p 54 [.s (.val (TChange) a0), .s (.eptr (PSchema) a1), .s (.eptr (.bool) a2)] (.one (.bool))) = patch_Part_1 n := by funext a0 a1 a2; exact patch_Part_1_eq n a0 a1 a2
    rw [h, e2, c_patch_Part_1]; rfl

noncomputable def B52 : Code := (Go.Proofs.Tryd.f52.body).getD .skip
noncomputable def slices_DeleteFunc_Change__patch_Part_1_sh5 (delt1_0 : den (PSchema)) (delt1_1 : den (.bool)) (it5 : den (.int .i64)) (jt6 : den (.int .i64)) (o42 : den (LChange)) : St := ⟨[.s (.arr 42), .fn 54 [.eptr (PSchema) delt1_0, .eptr (.bool) delt1_1], U, U, U, .s (.val (.int .i64) it5), .s (.val (.int .i64) jt6), U, U, U, U, U, U, U, U, U, U, U, U, U, U, U, U, U, U, U, U, U, U, U, U, U, U, U, U, U, U, U, U, U, U, U], [(42, .arr 40 (TChange) o42)]⟩
noncomputable def slices_DeleteFunc_Change__patch_Part_1_s5 (C_slices_IndexFunc_Change__patch_Part_1 : den (LChange) → den (PSchema) → den (.bool) → Option (denR (.one (.int .i64)))) (C_patch_Part_1 : den (TChange) → den (PSchema) → den (.bool) → Option (denR (.one (.bool))))   (LS5 : den (PSchema) → den (.bool) → den (.int .i64) → den (.int .i64) → den (LChange) → Option (denS (⟨.row 40 (TChange), [.dead]⟩ : Sig))) (delt1_0 : den (PSchema)) (delt1_1 : den (.bool)) (it5 : den (.int .i64)) (jt6 : den (.int .i64)) (o42 : den (LChange)) : Option (denS (⟨.row 40 (TChange), [.dead]⟩ : Sig)) := (bif (decide (jt6 < (o42.length : Int))) then (bif decide (0 ≤ jt6) && decide (jt6 < (o42.length : Int)) then ((C_patch_Part_1 (o42.getD (Int.toNat jt6) (dflt (TChange))) delt1_0 delt1_1).bind fun r2 => (bif (!r2) then (bif decide (0 ≤ it5) && decide (it5 < (o42.length : Int)) then LS5 delt1_0 delt1_1 (IntKind.wrap .i64 (it5 + (1 : Int))) (IntKind.wrap .i64 (jt6 + (1 : Int))) (o42.set (Int.toNat it5) (o42.getD (Int.toNat jt6) (dflt (TChange)))) else none) else LS5 delt1_0 delt1_1 it5 (IntKind.wrap .i64 (jt6 + (1 : Int))) o42)) else none) else (bif decide (0 ≤ it5) && decide (it5 ≤ (o42.length : Int)) then (bif decide (0 ≤ it5) && decide (it5 ≤ ((o42.take (Int.toNat it5) ++ List.replicate (o42.length - (Int.toNat it5)) (dflt (TChange))).length : Int)) then some (((o42.take (Int.toNat it5) ++ List.replicate (o42.length - (Int.toNat it5)) (dflt (TChange))).take (Int.toNat it5)), ((), ())) else none) else none))
noncomputable def slices_DeleteFunc_Change__patch_Part_1_l5 (C_slices_IndexFunc_Change__patch_Part_1 : den (LChange) → den (PSchema) → den (.bool) → Option (denR (.one (.int .i64)))) (C_patch_Part_1 : den (TChange) → den (PSchema) → den (.bool) → Option (denR (.one (.bool)))) (n : Nat)  : Nat → den (PSchema) → den (.bool) → den (.int .i64) → den (.int .i64) → den (LChange) → Option (denS (⟨.row 40 (TChange), [.dead]⟩ : Sig))
  | 0, _, _, _, _, _ => none
  | m + 1, delt1_0, delt1_1, it5, jt6, o42 => slices_DeleteFunc_Change__patch_Part_1_s5 C_slices_IndexFunc_Change__patch_Part_1 C_patch_Part_1   (fun (delt1_0 : den (PSchema)) (delt1_1 : den (.bool)) (it5 : den (.int .i64)) (jt6 : den (.int .i64)) (o42 : den (LChange)) => slices_DeleteFunc_Change__patch_Part_1_l5 C_slices_IndexFunc_Change__patch_Part_1 C_patch_Part_1 n  m delt1_0 delt1_1 it5 jt6 o42) delt1_0 delt1_1 it5 jt6 o42
noncomputable def slices_DeleteFunc_Change__patch_Part_1_F5 (call : Call0) (n : Nat)  : (St → Option (denS (⟨.row 40 (TChange), [.dead]⟩ : Sig))) → St → Option (denS (⟨.row 40 (TChange), [.dead]⟩ : Sig)) := fun rec => exec cfg call n 52 (cat B52 [1, 1, 1, 0, 1, 0, 0]) (kLoop rec (lk2 52 5 cfg.keep) (kBlock 0 (kSq (exec cfg call n 52 (cat B52 [1, 1, 1, 1])) (kretS cfg Go.Proofs.Tryd.f52 (⟨.row 40 (TChange), [.dead]⟩ : Sig)))))
theorem slices_DeleteFunc_Change__patch_Part_1_l5_eq (call : Call0) (n : Nat)  : ∀ (m : Nat) (delt1_0 : den (PSchema)) (delt1_1 : den (.bool)) (it5 : den (.int .i64)) (jt6 : den (.int .i64)) (o42 : den (LChange)), loopN (slices_DeleteFunc_Change__patch_Part_1_F5 call n ) m (slices_DeleteFunc_Change__patch_Part_1_sh5 delt1_0 delt1_1 it5 jt6 o42) = slices_DeleteFunc_Change__patch_Part_1_l5 (fun (a0 : den (LChange)) (a1_0 : den (PSchema)) (a1_1 : den (.bool)) => call.p 78 [.s (.val (LChange) a0), .fn 54 [.eptr (PSchema) a1_0, .eptr (.bool) a1_1]] (.one (.int .i64))) (fun (a0 : den (TChange)) (a1 : den (PSchema)) (a2 : den (.bool)) => call.p 54 [.s (.val (TChange) a0), .s (.eptr (PSchema) a1), .s (.eptr (.bool) a2)] (.one (.bool))) n  m delt1_0 delt1_1 it5 jt6 o42 := by
  intro m
  induction m with
  | zero => intros; rfl
  | succ m ih =>
    intro delt1_0 delt1_1 it5 jt6 o42
    have h : loopN (slices_DeleteFunc_Change__patch_Part_1_F5 call n ) (m + 1) (slices_DeleteFunc_Change__patch_Part_1_sh5 delt1_0 delt1_1 it5 jt6 o42) = slices_DeleteFunc_Change__patch_Part_1_s5 (fun (a0 : den (LChange)) (a1_0 : den (PSchema)) (a1_1 : den (.bool)) => call.p 78 [.s (.val (LChange) a0), .fn 54 [.eptr (PSchema) a1_0, .eptr (.bool) a1_1]] (.one (.int .i64))) (fun (a0 : den (TChange)) (a1 : den (PSchema)) (a2 : den (.bool)) => call.p 54 [.s (.val (TChange) a0), .s (.eptr (PSchema) a1), .s (.eptr (.bool) a2)] (.one (.bool)))   (fun (delt1_0 : den (PSchema)) (delt1_1 : den (.bool)) (it5 : den (.int .i64)) (jt6 : den (.int .i64)) (o42 : den (LChange)) => loopN (slices_DeleteFunc_Change__patch_Part_1_F5 call n ) m (slices_DeleteFunc_Change__patch_Part_1_sh5 delt1_0 delt1_1 it5 jt6 o42)) delt1_0 delt1_1 it5 jt6 o42 := by kernel_rfl
    have e0 : (fun (delt1_0 : den (PSchema)) (delt1_1 : den (.bool)) (it5 : den (.int .i64)) (jt6 : den (.int .i64)) (o42 : den (LChange)) => loopN (slices_DeleteFunc_Change__patch_Part_1_F5 call n ) m (slices_DeleteFunc_Change__patch_Part_1_sh5 delt1_0 delt1_1 it5 jt6 o42)) = (fun (delt1_0 : den (PSchema)) (delt1_1 : den (.bool)) (it5 : den (.int .i64)) (jt6 : den (.int .i64)) (o42 : den (LChange)) => slices_DeleteFunc_Change__patch_Part_1_l5 (fun (a0 : den (LChange)) (a1_0 : den (PSchema)) (a1_1 : den (.bool)) => call.p 78 [.s (.val (LChange) a0), .fn 54 [.eptr (PSchema) a1_0, .eptr (.bool) a1_1]] (.one (.int .i64))) (fun (a0 : den (TChange)) (a1 : den (PSchema)) (a2 : den (.bool)) => call.p 54 [.s (.val (TChange) a0), .s (.eptr (PSchema) a1), .s (.eptr (.bool) a2)] (.one (.bool))) n  m delt1_0 delt1_1 it5 jt6 o42) := by funext delt1_0 delt1_1 it5 jt6 o42; exact ih delt1_0 delt1_1 it5 jt6 o42
    rw [h, e0]; rfl
noncomputable def slices_DeleteFunc_Change__patch_Part_1_top (C_slices_IndexFunc_Change__patch_Part_1 : den (LChange) → den (PSchema) → den (.bool) → Option (denR (.one (.int .i64)))) (C_patch_Part_1 : den (TChange) → den (PSchema) → den (.bool) → Option (denR (.one (.bool)))) (LL5 : den (PSchema) → den (.bool) → den (.int .i64) → den (.int .i64) → den (LChange) → Option (denS (⟨.row 40 (TChange), [.dead]⟩ : Sig))) (a1_0 : den (PSchema)) (a1_1 : den (.bool)) (o0 : den (LChange)) : Option (denS (⟨.row 40 (TChange), [.dead]⟩ : Sig)) := ((C_slices_IndexFunc_Change__patch_Part_1 o0 a1_0 a1_1).bind fun r1 => (bif (decide (r1 = (-1 : Int))) then some (o0, ((), ())) else LL5 a1_0 a1_1 r1 (IntKind.wrap .i64 (r1 + (1 : Int))) o0))
noncomputable def slices_DeleteFunc_Change__patch_Part_1 : Nat → den (PSchema) → den (.bool) → den (LChange) → Option (denS (⟨.row 40 (TChange), [.dead]⟩ : Sig))
  | 0, _, _, _ => none
  | n + 1, a1_0, a1_1, o0 => slices_DeleteFunc_Change__patch_Part_1_top (slices_IndexFunc_Change__patch_Part_1 n) (patch_Part_1 n) (slices_DeleteFunc_Change__patch_Part_1_l5 (slices_IndexFunc_Change__patch_Part_1 n) (patch_Part_1 n) n n) a1_0 a1_1 o0
theorem slices_DeleteFunc_Change__patch_Part_1_eq (n : Nat) (a1_0 : den (PSchema)) (a1_1 : den (.bool)) (o0 : den (LChange)) : (acalls cfg intr intrI n).i 52 [.s (.arr 42), .fn 54 [.eptr (PSchema) a1_0, .eptr (.bool) a1_1]] [(42, .arr 40 (TChange) o0)] (⟨.row 40 (TChange), [.dead]⟩ : Sig) = slices_DeleteFunc_Change__patch_Part_1 n a1_0 a1_1 o0 := by
  cases n with
  | zero => rfl
  | succ n =>
    have h : (acalls cfg intr intrI (n + 1)).i 52 [.s (.arr 42), .fn 54 [.eptr (PSchema) a1_0, .eptr (.bool) a1_1]] [(42, .arr 40 (TChange) o0)] (⟨.row 40 (TChange), [.dead]⟩ : Sig) = slices_DeleteFunc_Change__patch_Part_1_top (fun (a0 : den (LChange)) (a1_0 : den (PSchema)) (a1_1 : den (.bool)) => (acalls cfg intr intrI n).p 78 [.s (.val (LChange) a0), .fn 54 [.eptr (PSchema) a1_0, .eptr (.bool) a1_1]] (.one (.int .i64))) (fun (a0 : den (TChange)) (a1 : den (PSchema)) (a2 : den (.bool)) => (acalls cfg intr intrI n).p 54 [.s (.val (TChange) a0), .s (.eptr (PSchema) a1), .s (.eptr (.bool) a2)] (.one (.bool))) (fun (delt1_0 : den (PSchema)) (delt1_1 : den (.bool)) (it5 : den (.int .i64)) (jt6 : den (.int .i64)) (o42 : den (LChange)) => loopN (slices_DeleteFunc_Change__patch_Part_1_F5 (acalls cfg intr intrI n) n) n (slices_DeleteFunc_Change__patch_Part_1_sh5 delt1_0 delt1_1 it5 jt6 o42)) a1_0 a1_1 o0 := by kernel_rfl
    have e5 : (fun (delt1_0 : den (PSchema)) (delt1_1 : den (.bool)) (it5 : den (.int .i64)) (jt6 : den (.int .i64)) (o42 : den (LChange)) => loopN (slices_DeleteFunc_Change__patch_Part_1_F5 (acalls cfg intr intrI n) n) n (slices_DeleteFunc_Change__patch_Part_1_sh5 delt1_0 delt1_1 it5 jt6 o42)) = slices_DeleteFunc_Change__patch_Part_1_l5 (fun (a0 : den (LChange)) (a1_0 : den (PSchema)) (a1_1 : den (.bool)) => (acalls cfg intr intrI n).p 78 [.s (.val (LChange) a0), .fn 54 [.eptr (PSchema) a1_0, .eptr (.bool) a1_1]] (.one (.int .i64))) (fun (a0 : den (TChange)) (a1 : den (PSchema)) (a2 : den (.bool)) => (acalls cfg intr intrI n).p 54 [.s (.val (TChange) a0), .s (.eptr (PSchema) a1), .s (.eptr (.bool) a2)] (.one (.bool))) n n := by funext delt1_0 delt1_1 it5 jt6 o42; exact slices_DeleteFunc_Change__patch_Part_1_l5_eq (acalls cfg intr intrI n) n n delt1_0 delt1_1 it5 jt6 o42
    have c_slices_IndexFunc_Change__patch_Part_1 : (fun (a0 : den (LChange)) (a1_0 : den (PSchema)) (a1_1 : den (.bool)) => (acalls cfg intr intrI n).p 78 [.s (.val (LChange) a0), .fn 54 [.eptr (PSchema) a1_0, .eptr (.bool) a1_1]] (.one (.int .i64))) = slices_IndexFunc_Change__patch_Part_1 n := by funext a0 a1_0 a1_1; exact slices_IndexFunc_Change__patch_Part_1_eq n a0 a1_0 a1_1
    have c_patch_Part_1 : (fun (a0 : den (TChange)) (a1 : den (PSchema)) (a2 : den (.bool)) => (acalls cfg intr intrI n).p 54 [.s (.val (TChange) a0), .s (.eptr (PSchema) a1), .s (.eptr (.bool) a2)] (.one (.bool))) = patch_Part_1 n := by funext a0 a1 a2; exact patch_Part_1_eq n a0 a1 a2
    rw [h, e5, c_slices_IndexFunc_Change__patch_Part_1, c_patch_Part_1]; rfl

noncomputable def patch_Part_top (C_slices_Clone_Change : den (LChange) → Option (denS (⟨.row 40 (TChange), []⟩ : Sig))) (C_slices_DeleteFunc_Change__patch_Part_1 : den (PSchema) → den (.bool) → den (LChange) → Option (denS (⟨.row 40 (TChange), [.dead]⟩ : Sig)))  (a0 : den (PSchema)) (a1 : den (LChange)) (a2 : den (.bool)) : Option (denR (.one (LChange))) := ((C_slices_Clone_Change a1).bind fun r1 => ((C_slices_DeleteFunc_Change__patch_Part_1 a0 a2 r1.1).bind fun r2 => some r2.1))
noncomputable def patch_Part : Nat → den (PSchema) → den (LChange) → den (.bool) → Option (denR (.one (LChange)))
  | 0, _, _, _ => none
  | n + 1, a0, a1, a2 => patch_Part_top (slices_Clone_Change n) (slices_DeleteFunc_Change__patch_Part_1 n)  a0 a1 a2
theorem patch_Part_eq (n : Nat) (a0 : den (PSchema)) (a1 : den (LChange)) (a2 : den (.bool)) : (acalls cfg intr intrI n).p 14 [.s (.val (PSchema) a0), .s (.val (LChange) a1), .s (.val (.bool) a2)] (.one (LChange)) = patch_Part n a0 a1 a2 := by
  cases n with
  | zero => rfl
  | succ n =>
    have h : (acalls cfg intr intrI (n + 1)).p 14 [.s (.val (PSchema) a0), .s (.val (LChange) a1), .s (.val (.bool) a2)] (.one (LChange)) = patch_Part_top (fun (a0 : den (LChange)) => (acalls cfg intr intrI n).i 53 [.s (.val (LChange) a0)] [] (⟨.row 40 (TChange), []⟩ : Sig)) (fun (a1_0 : den (PSchema)) (a1_1 : den (.bool)) (o0 : den (LChange)) => (acalls cfg intr intrI n).i 52 [.s (.arr 42), .fn 54 [.eptr (PSchema) a1_0, .eptr (.bool) a1_1]] [(42, .arr 40 (TChange) o0)] (⟨.row 40 (TChange), [.dead]⟩ : Sig))  a0 a1 a2 := by kernel_rfl
    have c_slices_Clone_Change : (fun (a0 : den (LChange)) => (acalls cfg intr intrI n).i 53 [.s (.val (LChange) a0)] [] (⟨.row 40 (TChange), []⟩ : Sig)) = slices_Clone_Change n := by funext a0; exact slices_Clone_Change_eq n a0
    have c_slices_DeleteFunc_Change__patch_Part_1 : (fun (a1_0 : den (PSchema)) (a1_1 : den (.bool)) (o0 : den (LChange)) => (acalls cfg intr intrI n).i 52 [.s (.arr 42), .fn 54 [.eptr (PSchema) a1_0, .eptr (.bool) a1_1]] [(42, .arr 40 (TChange) o0)] (⟨.row 40 (TChange), [.dead]⟩ : Sig)) = slices_DeleteFunc_Change__patch_Part_1 n := by funext a1_0 a1_1 o0; exact slices_DeleteFunc_Change__patch_Part_1_eq n a1_0 a1_1 o0
    rw [h, c_slices_Clone_Change, c_slices_DeleteFunc_Change__patch_Part_1]; rfl

noncomputable def B17 : Code := (Go.Proofs.Tryd.f17.body).getD .skip
noncomputable def ref06_Find_sh2 (pt0 : den (LChange)) (keyt1 : den (.int .i64)) (it6 : den (.int .i64)) (o4 : den (TChange)) : St := ⟨[.s (.val (LChange) pt0), .s (.val (.int .i64) keyt1), U, U, .s (.ref 4 []), U, .s (.val (.int .i64) it6), U, U, U, U, U, U, U, U, U, U, U, U, U, U, U, U, U, U], [(4, .box (TChange) o4)]⟩
noncomputable def ref06_Find_s2    (LS2 : den (LChange) → den (.int .i64) → den (.int .i64) → den (TChange) → Option (denR (.two (TChange) (.bool)))) (pt0 : den (LChange)) (keyt1 : den (.int .i64)) (it6 : den (.int .i64)) (o4 : den (TChange)) : Option (denR (.two (TChange) (.bool))) := (bif (decide (it6 < (pt0.length : Int))) then (bif decide (0 ≤ it6) && decide (it6 < (pt0.length : Int)) then (bif (decide ((pt0.getD (Int.toNat it6) (dflt (TChange))).1 = keyt1)) then (bif decide (0 ≤ it6) && decide (it6 < (pt0.length : Int)) then some ((pt0.getD (Int.toNat it6) (dflt (TChange))), true) else none) else LS2 pt0 keyt1 (IntKind.wrap .i64 (it6 + (1 : Int))) o4) else none) else some (((0 : Int), (false, (((0 : Int), ((0 : Int), ((0 : Int), ((⟨#[]⟩ : ByteArray), ())))), ()))), false))
noncomputable def ref06_Find_l2  (n : Nat)  : Nat → den (LChange) → den (.int .i64) → den (.int .i64) → den (TChange) → Option (denR (.two (TChange) (.bool)))
  | 0, _, _, _, _ => none
  | m + 1, pt0, keyt1, it6, o4 => ref06_Find_s2    (fun (pt0 : den (LChange)) (keyt1 : den (.int .i64)) (it6 : den (.int .i64)) (o4 : den (TChange)) => ref06_Find_l2  n  m pt0 keyt1 it6 o4) pt0 keyt1 it6 o4
noncomputable def ref06_Find_g2    : List (den (TChange)) → den (.int .i64) → den (TChange) → Option (denR (.two (TChange) (.bool)))
  | [], keyt1, o4 => some (((0 : Int), (false, (((0 : Int), ((0 : Int), ((0 : Int), ((⟨#[]⟩ : ByteArray), ())))), ()))), false)
  | x :: r, keyt1, o4 => (bif (decide (x.1 = keyt1)) then some (x, true) else ref06_Find_g2    r keyt1 o4)
theorem ref06_Find_l2_list  (n : Nat)  : ∀ (m i : Nat) (pt0 : den (LChange)) (keyt1 : den (.int .i64)) (o4 : den (TChange)), pt0.length - i < m → i ≤ pt0.length → pt0.length < 4611686018427387904 → ref06_Find_l2  n  m pt0 keyt1 (i : Int) o4 = ref06_Find_g2    (pt0.drop i) keyt1 o4 := by
  intro m
  induction m with
  | zero => intro i pt0 keyt1 o4 h1; omega
  | succ m ih =>
    intro i pt0 keyt1 o4 h1 h2 h3
    show ref06_Find_s2    (fun (pt0 : den (LChange)) (keyt1 : den (.int .i64)) (it6 : den (.int .i64)) (o4 : den (TChange)) => ref06_Find_l2  n  m pt0 keyt1 it6 o4) pt0 keyt1 (i : Int) o4 = _
    unfold ref06_Find_s2
    have b0 : decide ((0 : Int) ≤ (i : Int)) = true := decide_eq_true (by omega)
    rcases Nat.lt_or_ge i pt0.length with hi | hi
    · have b1 : decide ((i : Int) < (pt0.length : Int)) = true := decide_eq_true (by omega)
      have bw : IntKind.i64.wrap ((i : Int) + (1 : Int)) = ((i + 1 : Nat) : Int) := w64s (by omega)
      have ih' : ∀ (keyt1 : den (.int .i64)) (o4 : den (TChange)), ref06_Find_l2  n  m pt0 keyt1 ((i + 1 : Nat) : Int) o4 = ref06_Find_g2    (pt0.drop (i + 1)) keyt1 o4 := fun keyt1 o4 => ih (i + 1) pt0 keyt1 o4 (by omega) (by omega) h3
      simp only [b0, b1, bw, Bool.and_true, Bool.true_and, cond_true, Int.toNat_natCast, ih']
      rw [drop_getD hi (dflt (TChange))]
      rfl
    · have b1 : decide ((i : Int) < (pt0.length : Int)) = false := decide_eq_false (by omega)
      simp only [b1, cond_false]
      rw [List.drop_eq_nil_of_le hi]
      rfl
noncomputable def ref06_Find_F2 (call : Call0) (n : Nat)  : (St → Option (denR (.two (TChange) (.bool)))) → St → Option (denR (.two (TChange) (.bool))) := fun rec => exec cfg call n 17 (cat B17 [1, 0, 1, 0, 0]) (kLoop rec (lk2 17 2 cfg.keep) (kBlock 0 (kSq (exec cfg call n 17 (cat B17 [1, 1])) (kret cfg Go.Proofs.Tryd.f17 (.two (TChange) (.bool))))))
theorem ref06_Find_l2_eq (call : Call0) (n : Nat)  : ∀ (m : Nat) (pt0 : den (LChange)) (keyt1 : den (.int .i64)) (it6 : den (.int .i64)) (o4 : den (TChange)), loopN (ref06_Find_F2 call n ) m (ref06_Find_sh2 pt0 keyt1 it6 o4) = ref06_Find_l2  n  m pt0 keyt1 it6 o4 := by
  intro m
  induction m with
  | zero => intros; rfl
  | succ m ih =>
    intro pt0 keyt1 it6 o4
    have h : loopN (ref06_Find_F2 call n ) (m + 1) (ref06_Find_sh2 pt0 keyt1 it6 o4) = ref06_Find_s2    (fun (pt0 : den (LChange)) (keyt1 : den (.int .i64)) (it6 : den (.int .i64)) (o4 : den (TChange)) => loopN (ref06_Find_F2 call n ) m (ref06_Find_sh2 pt0 keyt1 it6 o4)) pt0 keyt1 it6 o4 := by kernel_rfl
    have e0 : (fun (pt0 : den (LChange)) (keyt1 : den (.int .i64)) (it6 : den (.int .i64)) (o4 : den (TChange)) => loopN (ref06_Find_F2 call n ) m (ref06_Find_sh2 pt0 keyt1 it6 o4)) = (fun (pt0 : den (LChange)) (keyt1 : den (.int .i64)) (it6 : den (.int .i64)) (o4 : den (TChange)) => ref06_Find_l2  n  m pt0 keyt1 it6 o4) := by funext pt0 keyt1 it6 o4; exact ih pt0 keyt1 it6 o4
    rw [h, e0]; rfl
noncomputable def ref06_Find_top  (LL2 : den (LChange) → den (.int .i64) → den (.int .i64) → den (TChange) → Option (denR (.two (TChange) (.bool)))) (a0 : den (LChange)) (a1 : den (.int .i64)) : Option (denR (.two (TChange) (.bool))) := LL2 a0 a1 (0 : Int) ((0 : Int), (false, (((0 : Int), ((0 : Int), ((0 : Int), ((⟨#[]⟩ : ByteArray), ())))), ())))
noncomputable def ref06_Find : Nat → den (LChange) → den (.int .i64) → Option (denR (.two (TChange) (.bool)))
  | 0, _, _ => none
  | n + 1, a0, a1 => ref06_Find_top  (ref06_Find_l2  n n) a0 a1
theorem ref06_Find_eq (n : Nat) (a0 : den (LChange)) (a1 : den (.int .i64)) : (acalls cfg intr intrI n).p 17 [.s (.val (LChange) a0), .s (.val (.int .i64) a1)] (.two (TChange) (.bool)) = ref06_Find n a0 a1 := by
  cases n with
  | zero => rfl
  | succ n =>
    have h : (acalls cfg intr intrI (n + 1)).p 17 [.s (.val (LChange) a0), .s (.val (.int .i64) a1)] (.two (TChange) (.bool)) = ref06_Find_top  (fun (pt0 : den (LChange)) (keyt1 : den (.int .i64)) (it6 : den (.int .i64)) (o4 : den (TChange)) => loopN (ref06_Find_F2 (acalls cfg intr intrI n) n) n (ref06_Find_sh2 pt0 keyt1 it6 o4)) a0 a1 := by kernel_rfl
    have e2 : (fun (pt0 : den (LChange)) (keyt1 : den (.int .i64)) (it6 : den (.int .i64)) (o4 : den (TChange)) => loopN (ref06_Find_F2 (acalls cfg intr intrI n) n) n (ref06_Find_sh2 pt0 keyt1 it6 o4)) = ref06_Find_l2  n n := by funext pt0 keyt1 it6 o4; exact ref06_Find_l2_eq (acalls cfg intr intrI n) n n pt0 keyt1 it6 o4
    rw [h, e2]; rfl

noncomputable def B18 : Code := (Go.Proofs.Tryd.f18.body).getD .skip
noncomputable def ref05_Get_sh2 (sett0 : den (LAttr)) (keyt1 : den (.int .i64)) (it6 : den (.int .i64)) (o4 : den (TValue)) : St := ⟨[.s (.val (LAttr) sett0), .s (.val (.int .i64) keyt1), U, U, .s (.ref 4 []), U, .s (.val (.int .i64) it6), U, U, U, U, U, U, U, U, U, U, U, U, U, U, U, U, U, U, U], [(4, .box (TValue) o4)]⟩
noncomputable def ref05_Get_s2    (LS2 : den (LAttr) → den (.int .i64) → den (.int .i64) → den (TValue) → Option (denR (.two (TValue) (.bool)))) (sett0 : den (LAttr)) (keyt1 : den (.int .i64)) (it6 : den (.int .i64)) (o4 : den (TValue)) : Option (denR (.two (TValue) (.bool))) := (bif (decide (it6 < (sett0.length : Int))) then (bif decide (0 ≤ it6) && decide (it6 < (sett0.length : Int)) then (bif (decide ((sett0.getD (Int.toNat it6) (dflt (TAttr))).1 = keyt1)) then (bif decide (0 ≤ it6) && decide (it6 < (sett0.length : Int)) then some (((sett0.getD (Int.toNat it6) (dflt (TAttr))).2).1, true) else none) else LS2 sett0 keyt1 (IntKind.wrap .i64 (it6 + (1 : Int))) o4) else none) else some (((0 : Int), ((0 : Int), ((0 : Int), ((⟨#[]⟩ : ByteArray), ())))), false))
noncomputable def ref05_Get_l2  (n : Nat)  : Nat → den (LAttr) → den (.int .i64) → den (.int .i64) → den (TValue) → Option (denR (.two (TValue) (.bool)))
  | 0, _, _, _, _ => none
  | m + 1, sett0, keyt1, it6, o4 => ref05_Get_s2    (fun (sett0 : den (LAttr)) (keyt1 : den (.int .i64)) (it6 : den (.int .i64)) (o4 : den (TValue)) => ref05_Get_l2  n  m sett0 keyt1 it6 o4) sett0 keyt1 it6 o4
noncomputable def ref05_Get_g2    : List (den (TAttr)) → den (.int .i64) → den (TValue) → Option (denR (.two (TValue) (.bool)))
  | [], keyt1, o4 => some (((0 : Int), ((0 : Int), ((0 : Int), ((⟨#[]⟩ : ByteArray), ())))), false)
  | x :: r, keyt1, o4 => (bif (decide (x.1 = keyt1)) then some (x.2.1, true) else ref05_Get_g2    r keyt1 o4)
theorem ref05_Get_l2_list  (n : Nat)  : ∀ (m i : Nat) (sett0 : den (LAttr)) (keyt1 : den (.int .i64)) (o4 : den (TValue)), sett0.length - i < m → i ≤ sett0.length → sett0.length < 4611686018427387904 → ref05_Get_l2  n  m sett0 keyt1 (i : Int) o4 = ref05_Get_g2    (sett0.drop i) keyt1 o4 := by
  intro m
  induction m with
  | zero => intro i sett0 keyt1 o4 h1; omega
  | succ m ih =>
    intro i sett0 keyt1 o4 h1 h2 h3
    show ref05_Get_s2    (fun (sett0 : den (LAttr)) (keyt1 : den (.int .i64)) (it6 : den (.int .i64)) (o4 : den (TValue)) => ref05_Get_l2  n  m sett0 keyt1 it6 o4) sett0 keyt1 (i : Int) o4 = _
    unfold ref05_Get_s2
    have b0 : decide ((0 : Int) ≤ (i : Int)) = true := decide_eq_true (by omega)
    rcases Nat.lt_or_ge i sett0.length with hi | hi
    · have b1 : decide ((i : Int) < (sett0.length : Int)) = true := decide_eq_true (by omega)
      have bw : IntKind.i64.wrap ((i : Int) + (1 : Int)) = ((i + 1 : Nat) : Int) := w64s (by omega)
      have ih' : ∀ (keyt1 : den (.int .i64)) (o4 : den (TValue)), ref05_Get_l2  n  m sett0 keyt1 ((i + 1 : Nat) : Int) o4 = ref05_Get_g2    (sett0.drop (i + 1)) keyt1 o4 := fun keyt1 o4 => ih (i + 1) sett0 keyt1 o4 (by omega) (by omega) h3
      simp only [b0, b1, bw, Bool.and_true, Bool.true_and, cond_true, Int.toNat_natCast, ih']
      rw [drop_getD hi (dflt (TAttr))]
      rfl
    · have b1 : decide ((i : Int) < (sett0.length : Int)) = false := decide_eq_false (by omega)
      simp only [b1, cond_false]
      rw [List.drop_eq_nil_of_le hi]
      rfl
noncomputable def ref05_Get_F2 (call : Call0) (n : Nat)  : (St → Option (denR (.two (TValue) (.bool)))) → St → Option (denR (.two (TValue) (.bool))) := fun rec => exec cfg call n 18 (cat B18 [1, 0, 1, 0, 0]) (kLoop rec (lk2 18 2 cfg.keep) (kBlock 0 (kSq (exec cfg call n 18 (cat B18 [1, 1])) (kret cfg Go.Proofs.Tryd.f18 (.two (TValue) (.bool))))))
theorem ref05_Get_l2_eq (call : Call0) (n : Nat)  : ∀ (m : Nat) (sett0 : den (LAttr)) (keyt1 : den (.int .i64)) (it6 : den (.int .i64)) (o4 : den (TValue)), loopN (ref05_Get_F2 call n ) m (ref05_Get_sh2 sett0 keyt1 it6 o4) = ref05_Get_l2  n  m sett0 keyt1 it6 o4 := by
  intro m
  induction m with
  | zero => intros; rfl
  | succ m ih =>
    intro sett0 keyt1 it6 o4
    have h : loopN (ref05_Get_F2 call n ) (m + 1) (ref05_Get_sh2 sett0 keyt1 it6 o4) = ref05_Get_s2    (fun (sett0 : den (LAttr)) (keyt1 : den (.int .i64)) (it6 : den (.int .i64)) (o4 : den (TValue)) => loopN (ref05_Get_F2 call n ) m (ref05_Get_sh2 sett0 keyt1 it6 o4)) sett0 keyt1 it6 o4 := by kernel_rfl
    have e0 : (fun (sett0 : den (LAttr)) (keyt1 : den (.int .i64)) (it6 : den (.int .i64)) (o4 : den (TValue)) => loopN (ref05_Get_F2 call n ) m (ref05_Get_sh2 sett0 keyt1 it6 o4)) = (fun (sett0 : den (LAttr)) (keyt1 : den (.int .i64)) (it6 : den (.int .i64)) (o4 : den (TValue)) => ref05_Get_l2  n  m sett0 keyt1 it6 o4) := by funext sett0 keyt1 it6 o4; exact ih sett0 keyt1 it6 o4
    rw [h, e0]; rfl
noncomputable def ref05_Get_top  (LL2 : den (LAttr) → den (.int .i64) → den (.int .i64) → den (TValue) → Option (denR (.two (TValue) (.bool)))) (a0 : den (LAttr)) (a1 : den (.int .i64)) : Option (denR (.two (TValue) (.bool))) := LL2 a0 a1 (0 : Int) ((0 : Int), ((0 : Int), ((0 : Int), ((⟨#[]⟩ : ByteArray), ()))))
noncomputable def ref05_Get : Nat → den (LAttr) → den (.int .i64) → Option (denR (.two (TValue) (.bool)))
  | 0, _, _ => none
  | n + 1, a0, a1 => ref05_Get_top  (ref05_Get_l2  n n) a0 a1
theorem ref05_Get_eq (n : Nat) (a0 : den (LAttr)) (a1 : den (.int .i64)) : (acalls cfg intr intrI n).p 18 [.s (.val (LAttr) a0), .s (.val (.int .i64) a1)] (.two (TValue) (.bool)) = ref05_Get n a0 a1 := by
  cases n with
  | zero => rfl
  | succ n =>
    have h : (acalls cfg intr intrI (n + 1)).p 18 [.s (.val (LAttr) a0), .s (.val (.int .i64) a1)] (.two (TValue) (.bool)) = ref05_Get_top  (fun (sett0 : den (LAttr)) (keyt1 : den (.int .i64)) (it6 : den (.int .i64)) (o4 : den (TValue)) => loopN (ref05_Get_F2 (acalls cfg intr intrI n) n) n (ref05_Get_sh2 sett0 keyt1 it6 o4)) a0 a1 := by kernel_rfl
    have e2 : (fun (sett0 : den (LAttr)) (keyt1 : den (.int .i64)) (it6 : den (.int .i64)) (o4 : den (TValue)) => loopN (ref05_Get_F2 (acalls cfg intr intrI n) n) n (ref05_Get_sh2 sett0 keyt1 it6 o4)) = ref05_Get_l2  n n := by funext sett0 keyt1 it6 o4; exact ref05_Get_l2_eq (acalls cfg intr intrI n) n n sett0 keyt1 it6 o4
    rw [h, e2]; rfl

noncomputable def B3 : Code := (Go.Proofs.Tryd.f3.body).getD .skip
noncomputable def law06_PatchParts_sh11 (t1 : den (LAttr)) (t2 : den (LChange)) (t11 : den (LAttr)) (t92 : den (.int .i64)) (t93 : den (.int .i64)) : St := ⟨[U, .s (.val (LAttr) t1), .s (.val (LChange) t2), U, U, U, U, U, U, U, U, .s (.val (LAttr) t11), U, U, U, U, U, U, U, U, U, U, U, U, U, U, U, U, U, U, U, U, U, U, U, U, U, U, U, U, U, U, U, U, U, U, U, U, U, U, U, U, U, U, U, U, U, U, U, U, U, U, U, U, U, U, U, U, U, U, U, U, U, U, U, U, U, U, U, U, U, U, U, U, U, U, U, U, U, U, U, U, .s (.val (.int .i64) t92), .s (.val (.int .i64) t93), U, U, U, U, U, U, U, U, U, U, U, U, U, U, U, U, U, U, U, U, U, U, U, U, U, U, U, U, U, U, U, U, U, U, U, U], []⟩
noncomputable def law06_PatchParts_s11 (C_law06_known : Option (denR (.one (.bool)))) (C_law06_great : den (LChange) → den (LLAttr) → Option (denR (.one (.bool)))) (C_ref05_Rising : den (LAttr) → Option (denR (.one (.bool)))) (C_schema_New : den (LKey) → Option (denR (.two (PSchema) (.int .i64)))) (C_patch_May : den (PSchema) → den (LChange) → Option (denR (.one (.int .i64)))) (C_patch_Part : den (PSchema) → den (LChange) → den (.bool) → Option (denR (.one (LChange)))) (C_patch_Apply : den (LAttr) → den (LChange) → Option (denR (.one (LAttr)))) (C_ref05_Same : den (LAttr) → den (LAttr) → Option (denR (.one (.bool)))) (C_ref06_Find : den (LChange) → den (.int .i64) → Option (denR (.two (TChange) (.bool)))) (C_ref05_Get : den (LAttr) → den (.int .i64) → Option (denR (.two (TValue) (.bool))))   (LS11 : den (LAttr) → den (LChange) → den (LAttr) → den (.int .i64) → den (.int .i64) → Option (denR (.one (.bool)))) (t1 : den (LAttr)) (t2 : den (LChange)) (t11 : den (LAttr)) (t92 : den (.int .i64)) (t93 : den (.int .i64)) : Option (denR (.one (.bool))) := (bif (decide (t93 < t92)) then (bif decide (0 ≤ t93) && decide (t93 < (t1.length : Int)) then ((C_ref06_Find t2 ((t1.getD (Int.toNat t93) (dflt (TAttr))).1)).bind fun r21 => (bif r21.2 then LS11 t1 t2 t11 t92 (IntKind.wrap .i64 (t93 + (1 : Int))) else (bif decide (0 ≤ t93) && decide (t93 < (t1.length : Int)) then ((C_ref05_Get t11 ((t1.getD (Int.toNat t93) (dflt (TAttr))).1)).bind fun r22 => (bif (!r22.2) then some false else (bif decide (0 ≤ t93) && decide (t93 < (t1.length : Int)) then (bif (!eqT (TValue) r22.1 (((t1.getD (Int.toNat t93) (dflt (TAttr))).2).1)) then some false else LS11 t1 t2 t11 t92 (IntKind.wrap .i64 (t93 + (1 : Int)))) else none))) else none))) else none) else ((C_law06_known).bind fun r23 => some r23))
noncomputable def law06_PatchParts_l11 (C_law06_known : Option (denR (.one (.bool)))) (C_law06_great : den (LChange) → den (LLAttr) → Option (denR (.one (.bool)))) (C_ref05_Rising : den (LAttr) → Option (denR (.one (.bool)))) (C_schema_New : den (LKey) → Option (denR (.two (PSchema) (.int .i64)))) (C_patch_May : den (PSchema) → den (LChange) → Option (denR (.one (.int .i64)))) (C_patch_Part : den (PSchema) → den (LChange) → den (.bool) → Option (denR (.one (LChange)))) (C_patch_Apply : den (LAttr) → den (LChange) → Option (denR (.one (LAttr)))) (C_ref05_Same : den (LAttr) → den (LAttr) → Option (denR (.one (.bool)))) (C_ref06_Find : den (LChange) → den (.int .i64) → Option (denR (.two (TChange) (.bool)))) (C_ref05_Get : den (LAttr) → den (.int .i64) → Option (denR (.two (TValue) (.bool)))) (n : Nat)  : Nat → den (LAttr) → den (LChange) → den (LAttr) → den (.int .i64) → den (.int .i64) → Option (denR (.one (.bool)))
  | 0, _, _, _, _, _ => none
  | m + 1, t1, t2, t11, t92, t93 => law06_PatchParts_s11 C_law06_known C_law06_great C_ref05_Rising C_schema_New C_patch_May C_patch_Part C_patch_Apply C_ref05_Same C_ref06_Find C_ref05_Get   (fun (t1 : den (LAttr)) (t2 : den (LChange)) (t11 : den (LAttr)) (t92 : den (.int .i64)) (t93 : den (.int .i64)) => law06_PatchParts_l11 C_law06_known C_law06_great C_ref05_Rising C_schema_New C_patch_May C_patch_Part C_patch_Apply C_ref05_Same C_ref06_Find C_ref05_Get n  m t1 t2 t11 t92 t93) t1 t2 t11 t92 t93
noncomputable def law06_PatchParts_g11 (C_law06_known : Option (denR (.one (.bool)))) (C_law06_great : den (LChange) → den (LLAttr) → Option (denR (.one (.bool)))) (C_ref05_Rising : den (LAttr) → Option (denR (.one (.bool)))) (C_schema_New : den (LKey) → Option (denR (.two (PSchema) (.int .i64)))) (C_patch_May : den (PSchema) → den (LChange) → Option (denR (.one (.int .i64)))) (C_patch_Part : den (PSchema) → den (LChange) → den (.bool) → Option (denR (.one (LChange)))) (C_patch_Apply : den (LAttr) → den (LChange) → Option (denR (.one (LAttr)))) (C_ref05_Same : den (LAttr) → den (LAttr) → Option (denR (.one (.bool)))) (C_ref06_Find : den (LChange) → den (.int .i64) → Option (denR (.two (TChange) (.bool)))) (C_ref05_Get : den (LAttr) → den (.int .i64) → Option (denR (.two (TValue) (.bool))))   : List (den (TAttr)) → den (LChange) → den (LAttr) → Option (denR (.one (.bool)))
  | [], t2, t11 => ((C_law06_known).bind fun r24 => some r24)
  | x :: r, t2, t11 => ((C_ref06_Find t2 x.1).bind fun r25 => (bif r25.2 then law06_PatchParts_g11 C_law06_known C_law06_great C_ref05_Rising C_schema_New C_patch_May C_patch_Part C_patch_Apply C_ref05_Same C_ref06_Find C_ref05_Get   r t2 t11 else ((C_ref05_Get t11 x.1).bind fun r26 => (bif (!r26.2) then some false else (bif (!eqT (TValue) r26.1 x.2.1) then some false else law06_PatchParts_g11 C_law06_known C_law06_great C_ref05_Rising C_schema_New C_patch_May C_patch_Part C_patch_Apply C_ref05_Same C_ref06_Find C_ref05_Get   r t2 t11)))))
theorem law06_PatchParts_l11_list (C_law06_known : Option (denR (.one (.bool)))) (C_law06_great : den (LChange) → den (LLAttr) → Option (denR (.one (.bool)))) (C_ref05_Rising : den (LAttr) → Option (denR (.one (.bool)))) (C_schema_New : den (LKey) → Option (denR (.two (PSchema) (.int .i64)))) (C_patch_May : den (PSchema) → den (LChange) → Option (denR (.one (.int .i64)))) (C_patch_Part : den (PSchema) → den (LChange) → den (.bool) → Option (denR (.one (LChange)))) (C_patch_Apply : den (LAttr) → den (LChange) → Option (denR (.one (LAttr)))) (C_ref05_Same : den (LAttr) → den (LAttr) → Option (denR (.one (.bool)))) (C_ref06_Find : den (LChange) → den (.int .i64) → Option (denR (.two (TChange) (.bool)))) (C_ref05_Get : den (LAttr) → den (.int .i64) → Option (denR (.two (TValue) (.bool)))) (n : Nat)  : ∀ (m i : Nat) (t1 : den (LAttr)) (t2 : den (LChange)) (t11 : den (LAttr)), t1.length - i < m → i ≤ t1.length → t1.length < 4611686018427387904 → law06_PatchParts_l11 C_law06_known C_law06_great C_ref05_Rising C_schema_New C_patch_May C_patch_Part C_patch_Apply C_ref05_Same C_ref06_Find C_ref05_Get n  m t1 t2 t11 (t1.length : Int) (i : Int) = law06_PatchParts_g11 C_law06_known C_law06_great C_ref05_Rising C_schema_New C_patch_May C_patch_Part C_patch_Apply C_ref05_Same C_ref06_Find C_ref05_Get   (t1.drop i) t2 t11 := by
  intro m
  induction m with
  | zero => intro i t1 t2 t11 h1; omega
  | succ m ih =>
    intro i t1 t2 t11 h1 h2 h3
    show law06_PatchParts_s11 C_law06_known C_law06_great C_ref05_Rising C_schema_New C_patch_May C_patch_Part C_patch_Apply C_ref05_Same C_ref06_Find C_ref05_Get   (fun (t1 : den (LAttr)) (t2 : den (LChange)) (t11 : den (LAttr)) (t92 : den (.int .i64)) (t93 : den (.int .i64)) => law06_PatchParts_l11 C_law06_known C_law06_great C_ref05_Rising C_schema_New C_patch_May C_patch_Part C_patch_Apply C_ref05_Same C_ref06_Find C_ref05_Get n  m t1 t2 t11 t92 t93) t1 t2 t11 (t1.length : Int) (i : Int) = _
    unfold law06_PatchParts_s11
    have b0 : decide ((0 : Int) ≤ (i : Int)) = true := decide_eq_true (by omega)
    rcases Nat.lt_or_ge i t1.length with hi | hi
    · have b1 : decide ((i : Int) < (t1.length : Int)) = true := decide_eq_true (by omega)
      have bw : IntKind.i64.wrap ((i : Int) + (1 : Int)) = ((i + 1 : Nat) : Int) := w64s (by omega)
      have ih' : ∀ (t2 : den (LChange)) (t11 : den (LAttr)), law06_PatchParts_l11 C_law06_known C_law06_great C_ref05_Rising C_schema_New C_patch_May C_patch_Part C_patch_Apply C_ref05_Same C_ref06_Find C_ref05_Get n  m t1 t2 t11 (t1.length : Int) ((i + 1 : Nat) : Int) = law06_PatchParts_g11 C_law06_known C_law06_great C_ref05_Rising C_schema_New C_patch_May C_patch_Part C_patch_Apply C_ref05_Same C_ref06_Find C_ref05_Get   (t1.drop (i + 1)) t2 t11 := fun t2 t11 => ih (i + 1) t1 t2 t11 (by omega) (by omega) h3
      simp only [b0, b1, bw, Bool.and_true, Bool.true_and, cond_true, Int.toNat_natCast, ih']
      rw [drop_getD hi (dflt (TAttr))]
      rfl
    · have b1 : decide ((i : Int) < (t1.length : Int)) = false := decide_eq_false (by omega)
      simp only [b1, cond_false]
      rw [List.drop_eq_nil_of_le hi]
      rfl
noncomputable def law06_PatchParts_F11 (call : Call0) (n : Nat)  : (St → Option (denR (.one (.bool)))) → St → Option (denR (.one (.bool))) := fun rec => exec cfg call n 3 (cat B3 [1, 1, 1, 1, 1, 1, 1, 0, 1, 0, 0]) (kLoop rec (lk2 3 11 cfg.keep) (kBlock 0 (kSq (exec cfg call n 3 (cat B3 [1, 1, 1, 1, 1, 1, 1, 1])) (kret cfg Go.Proofs.Tryd.f3 (.one (.bool))))))
theorem law06_PatchParts_l11_eq (call : Call0) (n : Nat)  : ∀ (m : Nat) (t1 : den (LAttr)) (t2 : den (LChange)) (t11 : den (LAttr)) (t92 : den (.int .i64)) (t93 : den (.int .i64)), loopN (law06_PatchParts_F11 call n ) m (law06_PatchParts_sh11 t1 t2 t11 t92 t93) = law06_PatchParts_l11 (call.p 11 [] (.one (.bool))) (fun (a0 : den (LChange)) (a1 : den (LLAttr)) => call.p 9 [.s (.val (LChange) a0), .s (.val (LLAttr) a1)] (.one (.bool))) (fun (a0 : den (LAttr)) => call.p 10 [.s (.val (LAttr) a0)] (.one (.bool))) (fun (a0 : den (LKey)) => call.p 12 [.s (.val (LKey) a0)] (.two (PSchema) (.int .i64))) (fun (a0 : den (PSchema)) (a1 : den (LChange)) => call.p 13 [.s (.val (PSchema) a0), .s (.val (LChange) a1)] (.one (.int .i64))) (fun (a0 : den (PSchema)) (a1 : den (LChange)) (a2 : den (.bool)) => call.p 14 [.s (.val (PSchema) a0), .s (.val (LChange) a1), .s (.val (.bool) a2)] (.one (LChange))) (fun (a0 : den (LAttr)) (a1 : den (LChange)) => call.p 15 [.s (.val (LAttr) a0), .s (.val (LChange) a1)] (.one (LAttr))) (fun (a0 : den (LAttr)) (a1 : den (LAttr)) => call.p 16 [.s (.val (LAttr) a0), .s (.val (LAttr) a1)] (.one (.bool))) (fun (a0 : den (LChange)) (a1 : den (.int .i64)) => call.p 17 [.s (.val (LChange) a0), .s (.val (.int .i64) a1)] (.two (TChange) (.bool))) (fun (a0 : den (LAttr)) (a1 : den (.int .i64)) => call.p 18 [.s (.val (LAttr) a0), .s (.val (.int .i64) a1)] (.two (TValue) (.bool))) n  m t1 t2 t11 t92 t93 := by
  intro m
  induction m with
  | zero => intros; rfl
  | succ m ih =>
    intro t1 t2 t11 t92 t93
    have h : loopN (law06_PatchParts_F11 call n ) (m + 1) (law06_PatchParts_sh11 t1 t2 t11 t92 t93) = law06_PatchParts_s11 (call.p 11 [] (.one (.bool))) (fun (a0 : den (LChange)) (a1 : den (LLAttr)) => call.p 9 [.s (.val (LChange) a0), .s (.val (LLAttr) a1)] (.one (.bool))) (fun (a0 : den (LAttr)) => call.p 10 [.s (.val (LAttr) a0)] (.one (.bool))) (fun (a0 : den (LKey)) => call.p 12 [.s (.val (LKey) a0)] (.two (PSchema) (.int .i64))) (fun (a0 : den (PSchema)) (a1 : den (LChange)) => call.p 13 [.s (.val (PSchema) a0), .s (.val (LChange) a1)] (.one (.int .i64))) (fun (a0 : den (PSchema)) (a1 : den (LChange)) (a2 : den (.bool)) => call.p 14 [.s (.val (PSchema) a0), .s (.val (LChange) a1), .s (.val (.bool) a2)] (.one (LChange))) (fun (a0 : den (LAttr)) (a1 : den (LChange)) => call.p 15 [.s (.val (LAttr) a0), .s (.val (LChange) a1)] (.one (LAttr))) (fun (a0 : den (LAttr)) (a1 : den (LAttr)) => call.p 16 [.s (.val (LAttr) a0), .s (.val (LAttr) a1)] (.one (.bool))) (fun (a0 : den (LChange)) (a1 : den (.int .i64)) => call.p 17 [.s (.val (LChange) a0), .s (.val (.int .i64) a1)] (.two (TChange) (.bool))) (fun (a0 : den (LAttr)) (a1 : den (.int .i64)) => call.p 18 [.s (.val (LAttr) a0), .s (.val (.int .i64) a1)] (.two (TValue) (.bool)))   (fun (t1 : den (LAttr)) (t2 : den (LChange)) (t11 : den (LAttr)) (t92 : den (.int .i64)) (t93 : den (.int .i64)) => loopN (law06_PatchParts_F11 call n ) m (law06_PatchParts_sh11 t1 t2 t11 t92 t93)) t1 t2 t11 t92 t93 := by kernel_rfl
    have e0 : (fun (t1 : den (LAttr)) (t2 : den (LChange)) (t11 : den (LAttr)) (t92 : den (.int .i64)) (t93 : den (.int .i64)) => loopN (law06_PatchParts_F11 call n ) m (law06_PatchParts_sh11 t1 t2 t11 t92 t93)) = (fun (t1 : den (LAttr)) (t2 : den (LChange)) (t11 : den (LAttr)) (t92 : den (.int .i64)) (t93 : den (.int .i64)) => law06_PatchParts_l11 (call.p 11 [] (.one (.bool))) (fun (a0 : den (LChange)) (a1 : den (LLAttr)) => call.p 9 [.s (.val (LChange) a0), .s (.val (LLAttr) a1)] (.one (.bool))) (fun (a0 : den (LAttr)) => call.p 10 [.s (.val (LAttr) a0)] (.one (.bool))) (fun (a0 : den (LKey)) => call.p 12 [.s (.val (LKey) a0)] (.two (PSchema) (.int .i64))) (fun (a0 : den (PSchema)) (a1 : den (LChange)) => call.p 13 [.s (.val (PSchema) a0), .s (.val (LChange) a1)] (.one (.int .i64))) (fun (a0 : den (PSchema)) (a1 : den (LChange)) (a2 : den (.bool)) => call.p 14 [.s (.val (PSchema) a0), .s (.val (LChange) a1), .s (.val (.bool) a2)] (.one (LChange))) (fun (a0 : den (LAttr)) (a1 : den (LChange)) => call.p 15 [.s (.val (LAttr) a0), .s (.val (LChange) a1)] (.one (LAttr))) (fun (a0 : den (LAttr)) (a1 : den (LAttr)) => call.p 16 [.s (.val (LAttr) a0), .s (.val (LAttr) a1)] (.one (.bool))) (fun (a0 : den (LChange)) (a1 : den (.int .i64)) => call.p 17 [.s (.val (LChange) a0), .s (.val (.int .i64) a1)] (.two (TChange) (.bool))) (fun (a0 : den (LAttr)) (a1 : den (.int .i64)) => call.p 18 [.s (.val (LAttr) a0), .s (.val (.int .i64) a1)] (.two (TValue) (.bool))) n  m t1 t2 t11 t92 t93) := by funext t1 t2 t11 t92 t93; exact ih t1 t2 t11 t92 t93
    rw [h, e0]; rfl
noncomputable def law06_PatchParts_top (C_law06_known : Option (denR (.one (.bool)))) (C_law06_great : den (LChange) → den (LLAttr) → Option (denR (.one (.bool)))) (C_ref05_Rising : den (LAttr) → Option (denR (.one (.bool)))) (C_schema_New : den (LKey) → Option (denR (.two (PSchema) (.int .i64)))) (C_patch_May : den (PSchema) → den (LChange) → Option (denR (.one (.int .i64)))) (C_patch_Part : den (PSchema) → den (LChange) → den (.bool) → Option (denR (.one (LChange)))) (C_patch_Apply : den (LAttr) → den (LChange) → Option (denR (.one (LAttr)))) (C_ref05_Same : den (LAttr) → den (LAttr) → Option (denR (.one (.bool)))) (C_ref06_Find : den (LChange) → den (.int .i64) → Option (denR (.two (TChange) (.bool)))) (C_ref05_Get : den (LAttr) → den (.int .i64) → Option (denR (.two (TValue) (.bool)))) (LL11 : den (LAttr) → den (LChange) → den (LAttr) → den (.int .i64) → den (.int .i64) → Option (denR (.one (.bool)))) (a0 : den (LKey)) (a1 : den (LAttr)) (a2 : den (LChange)) : Option (denR (.one (.bool))) := (bif (decide ((64 : Int) < (a0.length : Int))) then ((C_law06_known).bind fun r1 => some r1) else ((C_law06_great a2 ([a1] : den (LLAttr))).bind fun r2 => (bif r2 then ((C_law06_known).bind fun r3 => some r3) else ((C_ref05_Rising a1).bind fun r4 => (bif (!r4) then ((C_law06_known).bind fun r5 => some r5) else ((C_schema_New a0).bind fun r6 => (bif ((!decide (r6.2 = (0 : Int)))) then ((C_law06_known).bind fun r7 => some r7) else ((C_patch_May r6.1 a2).bind fun r8 => (bif ((!decide (r8 = (0 : Int)))) then ((C_law06_known).bind fun r9 => some r9) else ((C_patch_Part r6.1 a2 false).bind fun r10 => ((C_patch_Part r6.1 a2 true).bind fun r11 => ((C_patch_Apply a1 a2).bind fun r12 => ((C_patch_Apply a1 r10).bind fun r13 => ((C_patch_Apply r13 r11).bind fun r14 => ((C_ref05_Same r14 r12).bind fun r15 => (bif (!r15) then some false else ((C_patch_Apply a1 r11).bind fun r16 => ((C_patch_Apply r16 r10).bind fun r17 => ((C_ref05_Same r17 r12).bind fun r18 => (bif (!r18) then some false else ((C_patch_Apply r12 a2).bind fun r19 => ((C_ref05_Same r19 r12).bind fun r20 => (bif (!r20) then some false else (bif ((!decide ((IntKind.wrap .i64 ((r10.length : Int) + (r11.length : Int))) = (a2.length : Int)))) then some false else LL11 a1 a2 r12 (a1.length : Int) (0 : Int)))))))))))))))))))))))))
noncomputable def law06_PatchParts : Nat → den (LKey) → den (LAttr) → den (LChange) → Option (denR (.one (.bool)))
  | 0, _, _, _ => none
  | n + 1, a0, a1, a2 => law06_PatchParts_top (law06_known n) (law06_great n) (ref05_Rising n) (schema_New n) (patch_May n) (patch_Part n) (patch_Apply n) (ref05_Same n) (ref06_Find n) (ref05_Get n) (law06_PatchParts_l11 (law06_known n) (law06_great n) (ref05_Rising n) (schema_New n) (patch_May n) (patch_Part n) (patch_Apply n) (ref05_Same n) (ref06_Find n) (ref05_Get n) n n) a0 a1 a2
theorem law06_PatchParts_eq (n : Nat) (a0 : den (LKey)) (a1 : den (LAttr)) (a2 : den (LChange)) : (acalls cfg intr intrI n).p 3 [.s (.val (LKey) a0), .s (.val (LAttr) a1), .s (.val (LChange) a2)] (.one (.bool)) = law06_PatchParts n a0 a1 a2 := by
  cases n with
  | zero => rfl
  | succ n =>
    have h : (acalls cfg intr intrI (n + 1)).p 3 [.s (.val (LKey) a0), .s (.val (LAttr) a1), .s (.val (LChange) a2)] (.one (.bool)) = law06_PatchParts_top ((acalls cfg intr intrI n).p 11 [] (.one (.bool))) (fun (a0 : den (LChange)) (a1 : den (LLAttr)) => (acalls cfg intr intrI n).p 9 [.s (.val (LChange) a0), .s (.val (LLAttr) a1)] (.one (.bool))) (fun (a0 : den (LAttr)) => (acalls cfg intr intrI n).p 10 [.s (.val (LAttr) a0)] (.one (.bool))) (fun (a0 : den (LKey)) => (acalls cfg intr intrI n).p 12 [.s (.val (LKey) a0)] (.two (PSchema) (.int .i64))) (fun (a0 : den (PSchema)) (a1 : den (LChange)) => (acalls cfg intr intrI n).p 13 [.s (.val (PSchema) a0), .s (.val (LChange) a1)] (.one (.int .i64))) (fun (a0 : den (PSchema)) (a1 : den (LChange)) (a2 : den (.bool)) => (acalls cfg intr intrI n).p 14 [.s (.val (PSchema) a0), .s (.val (LChange) a1), .s (.val (.bool) a2)] (.one (LChange))) (fun (a0 : den (LAttr)) (a1 : den (LChange)) => (acalls cfg intr intrI n).p 15 [.s (.val (LAttr) a0), .s (.val (LChange) a1)] (.one (LAttr))) (fun (a0 : den (LAttr)) (a1 : den (LAttr)) => (acalls cfg intr intrI n).p 16 [.s (.val (LAttr) a0), .s (.val (LAttr) a1)] (.one (.bool))) (fun (a0 : den (LChange)) (a1 : den (.int .i64)) => (acalls cfg intr intrI n).p 17 [.s (.val (LChange) a0), .s (.val (.int .i64) a1)] (.two (TChange) (.bool))) (fun (a0 : den (LAttr)) (a1 : den (.int .i64)) => (acalls cfg intr intrI n).p 18 [.s (.val (LAttr) a0), .s (.val (.int .i64) a1)] (.two (TValue) (.bool))) (fun (t1 : den (LAttr)) (t2 : den (LChange)) (t11 : den (LAttr)) (t92 : den (.int .i64)) (t93 : den (.int .i64)) => loopN (law06_PatchParts_F11 (acalls cfg intr intrI n) n) n (law06_PatchParts_sh11 t1 t2 t11 t92 t93)) a0 a1 a2 := by kernel_rfl
    have e11 : (fun (t1 : den (LAttr)) (t2 : den (LChange)) (t11 : den (LAttr)) (t92 : den (.int .i64)) (t93 : den (.int .i64)) => loopN (law06_PatchParts_F11 (acalls cfg intr intrI n) n) n (law06_PatchParts_sh11 t1 t2 t11 t92 t93)) = law06_PatchParts_l11 ((acalls cfg intr intrI n).p 11 [] (.one (.bool))) (fun (a0 : den (LChange)) (a1 : den (LLAttr)) => (acalls cfg intr intrI n).p 9 [.s (.val (LChange) a0), .s (.val (LLAttr) a1)] (.one (.bool))) (fun (a0 : den (LAttr)) => (acalls cfg intr intrI n).p 10 [.s (.val (LAttr) a0)] (.one (.bool))) (fun (a0 : den (LKey)) => (acalls cfg intr intrI n).p 12 [.s (.val (LKey) a0)] (.two (PSchema) (.int .i64))) (fun (a0 : den (PSchema)) (a1 : den (LChange)) => (acalls cfg intr intrI n).p 13 [.s (.val (PSchema) a0), .s (.val (LChange) a1)] (.one (.int .i64))) (fun (a0 : den (PSchema)) (a1 : den (LChange)) (a2 : den (.bool)) => (acalls cfg intr intrI n).p 14 [.s (.val (PSchema) a0), .s (.val (LChange) a1), .s (.val (.bool) a2)] (.one (LChange))) (fun (a0 : den (LAttr)) (a1 : den (LChange)) => (acalls cfg intr intrI n).p 15 [.s (.val (LAttr) a0), .s (.val (LChange) a1)] (.one (LAttr))) (fun (a0 : den (LAttr)) (a1 : den (LAttr)) => (acalls cfg intr intrI n).p 16 [.s (.val (LAttr) a0), .s (.val (LAttr) a1)] (.one (.bool))) (fun (a0 : den (LChange)) (a1 : den (.int .i64)) => (acalls cfg intr intrI n).p 17 [.s (.val (LChange) a0), .s (.val (.int .i64) a1)] (.two (TChange) (.bool))) (fun (a0 : den (LAttr)) (a1 : den (.int .i64)) => (acalls cfg intr intrI n).p 18 [.s (.val (LAttr) a0), .s (.val (.int .i64) a1)] (.two (TValue) (.bool))) n n := by funext t1 t2 t11 t92 t93; exact law06_PatchParts_l11_eq (acalls cfg intr intrI n) n n t1 t2 t11 t92 t93
    have c_law06_known : ((acalls cfg intr intrI n).p 11 [] (.one (.bool))) = law06_known n := law06_known_eq n
    have c_law06_great : (fun (a0 : den (LChange)) (a1 : den (LLAttr)) => (acalls cfg intr intrI n).p 9 [.s (.val (LChange) a0), .s (.val (LLAttr) a1)] (.one (.bool))) = law06_great n := by funext a0 a1; exact law06_great_eq n a0 a1
    have c_ref05_Rising : (fun (a0 : den (LAttr)) => (acalls cfg intr intrI n).p 10 [.s (.val (LAttr) a0)] (.one (.bool))) = ref05_Rising n := by funext a0; exact ref05_Rising_eq n a0
    have c_schema_New : (fun (a0 : den (LKey)) => (acalls cfg intr intrI n).p 12 [.s (.val (LKey) a0)] (.two (PSchema) (.int .i64))) = schema_New n := by funext a0; exact schema_New_eq n a0
    have c_patch_May : (fun (a0 : den (PSchema)) (a1 : den (LChange)) => (acalls cfg intr intrI n).p 13 [.s (.val (PSchema) a0), .s (.val (LChange) a1)] (.one (.int .i64))) = patch_May n := by funext a0 a1; exact patch_May_eq n a0 a1
    have c_patch_Part : (fun (a0 : den (PSchema)) (a1 : den (LChange)) (a2 : den (.bool)) => (acalls cfg intr intrI n).p 14 [.s (.val (PSchema) a0), .s (.val (LChange) a1), .s (.val (.bool) a2)] (.one (LChange))) = patch_Part n := by funext a0 a1 a2; exact patch_Part_eq n a0 a1 a2
    have c_patch_Apply : (fun (a0 : den (LAttr)) (a1 : den (LChange)) => (acalls cfg intr intrI n).p 15 [.s (.val (LAttr) a0), .s (.val (LChange) a1)] (.one (LAttr))) = patch_Apply n := by funext a0 a1; exact patch_Apply_eq n a0 a1
    have c_ref05_Same : (fun (a0 : den (LAttr)) (a1 : den (LAttr)) => (acalls cfg intr intrI n).p 16 [.s (.val (LAttr) a0), .s (.val (LAttr) a1)] (.one (.bool))) = ref05_Same n := by funext a0 a1; exact ref05_Same_eq n a0 a1
    have c_ref06_Find : (fun (a0 : den (LChange)) (a1 : den (.int .i64)) => (acalls cfg intr intrI n).p 17 [.s (.val (LChange) a0), .s (.val (.int .i64) a1)] (.two (TChange) (.bool))) = ref06_Find n := by funext a0 a1; exact ref06_Find_eq n a0 a1
    have c_ref05_Get : (fun (a0 : den (LAttr)) (a1 : den (.int .i64)) => (acalls cfg intr intrI n).p 18 [.s (.val (LAttr) a0), .s (.val (.int .i64) a1)] (.two (TValue) (.bool))) = ref05_Get n := by funext a0 a1; exact ref05_Get_eq n a0 a1
    rw [h, e11, c_law06_known, c_law06_great, c_ref05_Rising, c_schema_New, c_patch_May, c_patch_Part, c_patch_Apply, c_ref05_Same, c_ref06_Find, c_ref05_Get]; rfl

end Go.Proofs.YtecangnmmbcbkaaDoor.Ab
