/- The seat's functions as plain Lean functions, each shown to be what the abstract interpreter comes to (printed by try3.py). -/
import Derived.Test.YtlcphnmkkilefaaAJ
import Derived.Test.YtlcphnmkkilefaaP0
import Derived.Test.YtlcphnmkkilefaaProg
import Derived.KernelRfl
set_option linter.unusedVariables false
set_option linter.unusedSimpArgs false
set_option maxRecDepth 100000
namespace Go.Proofs.Ytlcphnmkkilefaa.Ab
open Go
abbrev Y0 : Ty := .prod (.int .i64) (.unit)
abbrev Y1 : Ty := .prod (.bool) (Y0)
abbrev Y2 : Ty := .prod (.bool) (Y1)
abbrev Y3 : Ty := .prod (.int .u8) (Y2)
abbrev Y4 : Ty := .prod (.bool) (Y3)
abbrev TKey : Ty := .prod (.int .i64) (Y4)
abbrev Y5 : Ty := .prod (.str) (.unit)
abbrev Y6 : Ty := .prod (.int .u64) (Y5)
abbrev Y7 : Ty := .prod (.int .i64) (Y6)
abbrev TValue : Ty := .prod (.int .u8) (Y7)
abbrev Y8 : Ty := .prod (TValue) (.unit)
abbrev Y9 : Ty := .prod (.bool) (Y8)
abbrev TChange : Ty := .prod (.int .i64) (Y9)
abbrev TAttr : Ty := .prod (.int .i64) (Y8)
abbrev LAttr : Ty := .slice (TAttr)
abbrev LChange : Ty := .slice (TChange)
abbrev LLAttr : Ty := .slice (LAttr)
abbrev LKey : Ty := .slice (TKey)
abbrev Y10 : Ty := .prod (.int .u8) (.unit)
abbrev Y11 : Ty := .prod (.bool) (Y10)
abbrev Y12 : Ty := .prod (.int .i64) (Y11)
abbrev TboundsError : Ty := .prod (.int .i64) (Y12)
abbrev MKey : Ty := .map (TKey)
abbrev Y13 : Ty := .prod (MKey) (.unit)
abbrev TSchema : Ty := .prod (LKey) (Y13)
abbrev PSchema : Ty := .ptr (TSchema)
abbrev Li64 : Ty := .slice (.int .i64)
abbrev Pi64 : Ty := .ptr (.int .i64)
abbrev Pu64 : Ty := .ptr (.int .u64)
abbrev Pu8 : Ty := .ptr (.int .u8)
noncomputable def cfg : Cfg :=
  { ty := [(2, .int .i64), (3, .int .i64), (4, .bool), (5, .int .u8), (6, .int .u8), (7, TboundsError), (9, .str), (21, .int .i32), (22, LKey), (23, LAttr), (27, PSchema), (28, .int .i64), (31, TKey), (32, TKey), (35, LChange), (39, .int .u64), (40, TValue), (41, TValue), (56, TChange), (57, TChange), (59, TAttr), (60, TAttr), (62, LLAttr), (64, MKey), (65, TSchema), (66, TSchema), (73, Li64), (87, .int .u64), (97, .int .i64), (104, .int .u32), (109, .int .u64), (113, Pi64), (116, Pu64), (127, .int .u8), (128, .int .u8), (130, Pu8), (131, .int .i32), (132, .int .i32)]
    el := [(22, 32), (23, 60), (35, 57), (62, 23), (73, 3)]
    bytes := [(32, 24), (60, 48), (57, 56), (23, 24), (3, 8)]
    fns := [(3, Go.Proofs.Try.f3), (4, Go.Proofs.Try.f4), (5, Go.Proofs.Try.f5), (6, Go.Proofs.Try.f6), (7, Go.Proofs.Try.f7), (8, Go.Proofs.Try.f8), (9, Go.Proofs.Try.f9), (10, Go.Proofs.Try.f10), (11, Go.Proofs.Try.f11), (12, Go.Proofs.Try.f12), (13, Go.Proofs.Try.f13), (14, Go.Proofs.Try.f14), (15, Go.Proofs.Try.f15), (16, Go.Proofs.Try.f16), (17, Go.Proofs.Try.f17), (18, Go.Proofs.Try.f18), (19, Go.Proofs.Try.f19), (20, Go.Proofs.Try.f20), (21, Go.Proofs.Try.f21), (22, Go.Proofs.Try.f22), (23, Go.Proofs.Try.f23), (24, Go.Proofs.Try.f24), (26, Go.Proofs.Try.f26), (29, Go.Proofs.Try.f29), (30, Go.Proofs.Try.f30), (31, Go.Proofs.Try.f31), (32, Go.Proofs.Try.f32), (33, Go.Proofs.Try.f33), (34, Go.Proofs.Try.f34), (35, Go.Proofs.Try.f35), (36, Go.Proofs.Try.f36), (37, Go.Proofs.Try.f37), (38, Go.Proofs.Try.f38), (39, Go.Proofs.Try.f39), (40, Go.Proofs.Try.f40), (41, Go.Proofs.Try.f41), (42, Go.Proofs.Try.f42), (43, Go.Proofs.Try.f43), (44, Go.Proofs.Try.f44), (45, Go.Proofs.Try.f45), (46, Go.Proofs.Try.f46), (47, Go.Proofs.Try.f47), (48, Go.Proofs.Try.f48), (51, Go.Proofs.Try.f51), (52, Go.Proofs.Try.f52), (53, Go.Proofs.Try.f53), (54, Go.Proofs.Try.f54), (55, Go.Proofs.Try.f55), (58, Go.Proofs.Try.f58), (59, Go.Proofs.Try.f59), (60, Go.Proofs.Try.f60), (61, Go.Proofs.Try.f61), (72, Go.Proofs.Try.f72), (73, Go.Proofs.Try.f73)]
    res := [(3, (.one (.bool))), (4, (.one (.bool))), (5, (.one (.bool))), (6, (.one (.bool))), (7, (.one (.bool))), (8, (.one (.bool))), (9, (.two (PSchema) (.int .i64))), (10, (.two (TKey) (.bool))), (11, (.two (LChange) (.int .i64))), (12, (.one (LAttr))), (13, (.two (TValue) (.bool))), (14, (.one (.bool))), (15, (.one (.bool))), (16, (.one (.bool))), (17, (.two (LChange) (.int .i64))), (18, (.one (LAttr))), (19, (.one (LAttr))), (20, (.two (LChange) (.int .i64))), (21, (.two (LChange) (.int .i64))), (22, (.one (.bool))), (23, (.one (LAttr))), (24, (.one (LAttr))), (26, (.one (.bool))), (29, (.one (.int .i64))), (30, (.two (TValue) (.bool))), (31, (.one (.int .i64))), (32, (.one (.bool))), (33, (.one (LChange))), (34, (.one (Li64))), (35, (.two (.int .i64) (.bool))), (36, (.one (LChange))), (37, (.one (LAttr))), (38, (.one (.bool))), (39, (.one (.bool))), (40, (.one (.bool))), (41, (.one (LAttr))), (42, (.one (Li64))), (43, (.two (TChange) (.bool))), (44, (.one (LChange))), (45, (.two (TKey) (.bool))), (46, (.one (.int .i64))), (47, (.one (LAttr))), (48, (.one (LAttr))), (51, (.one (.bool))), (52, (.two (.int .i64) (.bool))), (53, (.one (.bool))), (54, (.two (.int .i64) (.bool))), (55, (.one (.int .i64))), (58, (.one (LAttr))), (59, (.one (LAttr))), (60, (.one (LKey))), (61, (.one (LAttr))), (72, (.two (.int .i64) (.bool))), (73, (.one (.int .i64)))]
    keep := [((4, 20), [1, 2, 3, 15, 16, 17, 18, 156, 157]),
      ((5, 8), [1, 2, 7, 9, 51, 52]),
      ((5, 19), [1, 7, 9, 17, 18, 142, 143]),
      ((6, 4), [2, 17, 18]),
      ((7, 2), [0, 3]),
      ((12, 4), [0, 5, 6, 9, 10, 11]),
      ((12, 6), [0, 5, 6, 8, 9, 10, 11]),
      ((13, 2), [0, 1, 4, 6]),
      ((14, 4), [0, 1, 5]),
      ((15, 4), [0, 3]),
      ((15, 10), [0, 3, 4, 5]),
      ((16, 2), [0, 3]),
      ((17, 3), [0, 6, 15, 16, 17]),
      ((17, 7), [0, 6, 15, 16, 17, 26, 27, 28]),
      ((19, 3), [7, 17, 18, 19]),
      ((20, 3), [0, 1, 6, 7, 1000006]),
      ((20, 8), [0, 1, 6, 7, 8, 9, 1000006]),
      ((22, 4), [0, 1, 5]),
      ((23, 3), [0, 1, 5, 6]),
      ((24, 3), [0, 1, 2, 7, 8, 1000007]),
      ((24, 9), [0, 2, 7, 11]),
      ((34, 6), [1, 5, 7, 26, 27, 28]),
      ((37, 3), [0, 2, 7, 12, 13, 14]),
      ((42, 5), [1, 5, 6, 7, 8, 9]),
      ((43, 2), [0, 1, 4, 6]),
      ((44, 4), [0, 3, 5, 6, 7]),
      ((45, 2), [0, 1, 4, 6]),
      ((47, 3), [1, 5, 6, 1000005]),
      ((48, 5), [3, 5, 6, 7, 8]),
      ((53, 4), [0, 1, 12, 13]),
      ((54, 3), [0, 1, 2, 8, 9, 10]),
      ((60, 3), [0, 3, 4]),
      ((61, 3), [0, 1, 5, 6]),
      ((72, 3), [0, 1, 2, 8, 9, 10])]
    inl := [(17, (⟨.rowv 57 (TChange) (.int .i64), []⟩ : Sig)), (33, (⟨.row 57 (TChange), []⟩ : Sig)), (36, (⟨.row 57 (TChange), [.dead, .dead]⟩ : Sig)), (58, (⟨.row 60 (TAttr), []⟩ : Sig)), (59, (⟨.row 60 (TAttr), [.dead, .dead]⟩ : Sig))]
    cut := [((41, 6), [5]), ((47, 7), [13])] }
noncomputable def intr : Intr := [(9, gNew)]
noncomputable def intrI : IntrI := [(33, gClone 57 (TChange) 56), (36, gInsert 57 (TChange) 56), (58, gClone 60 (TAttr) 48), (59, gInsert 60 (TAttr) 48)]

noncomputable def schema_may_top   (a0 : den (TKey)) : Option (denR (.one (.bool))) := (bif (decide (a0.1 < (1 : Int))) then some false else (bif (decide ((1000 : Int) < a0.1)) then some false else (bif (decide (a0.2.2.1 < (1 : Int))) then some false else (bif (decide ((4 : Int) < a0.2.2.1)) then some false else (bif a0.2.1 then (bif (!a0.2.2.2.2.1) then (bif (decide ((0 : Int) ≤ a0.2.2.2.2.2.1)) then some (decide (a0.2.2.2.2.2.1 ≤ (8 : Int))) else some false) else some false) else some (decide (a0.2.2.2.2.2.1 = (0 : Int))))))))
noncomputable def schema_may : Nat → den (TKey) → Option (denR (.one (.bool)))
  | 0, _ => none
  | n + 1, a0 => schema_may_top   a0
theorem schema_may_eq (n : Nat) (a0 : den (TKey)) : (acalls cfg intr intrI n).p 26 [.s (.val (TKey) a0)] (.one (.bool)) = schema_may n a0 := by
  cases n with
  | zero => rfl
  | succ n =>
    have h : (acalls cfg intr intrI (n + 1)).p 26 [.s (.val (TKey) a0)] (.one (.bool)) = schema_may_top   a0 := by kernel_rfl
    rw [h]; rfl

noncomputable def B6 : Code := (Go.Proofs.Try.f6.body).getD .skip
noncomputable def law14_great_sh4 (setst2 : den (LLAttr)) (t17 : den (.int .i64)) (t18 : den (.int .i64)) : St := ⟨[U, U, .s (.val (LLAttr) setst2), U, U, U, U, U, U, U, U, U, U, U, U, U, U, .s (.val (.int .i64) t17), .s (.val (.int .i64) t18), U, U, U, U, U, U, U, U, U], []⟩
noncomputable def law14_great_s4    (LS4 : den (LLAttr) → den (.int .i64) → den (.int .i64) → Option (denR (.one (.bool)))) (setst2 : den (LLAttr)) (t17 : den (.int .i64)) (t18 : den (.int .i64)) : Option (denR (.one (.bool))) := (bif (decide (t18 < t17)) then (bif decide (0 ≤ t18) && decide (t18 < (setst2.length : Int)) then (bif (decide ((100 : Int) < ((setst2.getD (Int.toNat t18) (dflt (LAttr))).length : Int))) then some true else LS4 setst2 t17 (IntKind.wrap .i64 (t18 + (1 : Int)))) else none) else some false)
noncomputable def law14_great_l4  (n : Nat)  : Nat → den (LLAttr) → den (.int .i64) → den (.int .i64) → Option (denR (.one (.bool)))
  | 0, _, _, _ => none
  | m + 1, setst2, t17, t18 => law14_great_s4    (fun (setst2 : den (LLAttr)) (t17 : den (.int .i64)) (t18 : den (.int .i64)) => law14_great_l4  n  m setst2 t17 t18) setst2 t17 t18
noncomputable def law14_great_g4    : List (den (LAttr)) → Option (denR (.one (.bool)))
  | [] => some false
  | x :: r => (bif (decide ((100 : Int) < (x.length : Int))) then some true else law14_great_g4    r)
theorem law14_great_l4_list  (n : Nat)  : ∀ (m i : Nat) (setst2 : den (LLAttr)), setst2.length - i < m → i ≤ setst2.length → setst2.length < 4611686018427387904 → law14_great_l4  n  m setst2 (setst2.length : Int) (i : Int) = law14_great_g4    (setst2.drop i)  := by
  intro m
  induction m with
  | zero => intro i setst2 h1; omega
  | succ m ih =>
    intro i setst2 h1 h2 h3
    show law14_great_s4    (fun (setst2 : den (LLAttr)) (t17 : den (.int .i64)) (t18 : den (.int .i64)) => law14_great_l4  n  m setst2 t17 t18) setst2 (setst2.length : Int) (i : Int) = _
    unfold law14_great_s4
    have b0 : decide ((0 : Int) ≤ (i : Int)) = true := decide_eq_true (by omega)
    rcases Nat.lt_or_ge i setst2.length with hi | hi
    · have b1 : decide ((i : Int) < (setst2.length : Int)) = true := decide_eq_true (by omega)
      have bw : IntKind.i64.wrap ((i : Int) + (1 : Int)) = ((i + 1 : Nat) : Int) := w64s (by omega)
      have ih' : ∀ (_u : Unit), law14_great_l4  n  m setst2 (setst2.length : Int) ((i + 1 : Nat) : Int) = law14_great_g4    (setst2.drop (i + 1))  := fun _u => ih (i + 1) setst2 (by omega) (by omega) h3
      simp only [b0, b1, bw, Bool.and_true, Bool.true_and, cond_true, Int.toNat_natCast, ih' ()]
      rw [drop_getD hi (dflt (LAttr))]
      rfl
    · have b1 : decide ((i : Int) < (setst2.length : Int)) = false := decide_eq_false (by omega)
      simp only [b1, cond_false]
      rw [List.drop_eq_nil_of_le hi]
      rfl
noncomputable def law14_great_F4 (call : Call0) (n : Nat)  : (St → Option (denR (.one (.bool)))) → St → Option (denR (.one (.bool))) := fun rec => exec cfg call n 6 (cat B6 [1, 1, 0, 1, 0, 0]) (kLoop rec (lk2 6 4 cfg.keep) (kBlock 0 (kSq (exec cfg call n 6 (cat B6 [1, 1, 1])) (kret cfg Go.Proofs.Try.f6 (.one (.bool))))))
theorem law14_great_l4_eq (call : Call0) (n : Nat)  : ∀ (m : Nat) (setst2 : den (LLAttr)) (t17 : den (.int .i64)) (t18 : den (.int .i64)), loopN (law14_great_F4 call n ) m (law14_great_sh4 setst2 t17 t18) = law14_great_l4  n  m setst2 t17 t18 := by
  intro m
  induction m with
  | zero => intros; rfl
  | succ m ih =>
    intro setst2 t17 t18
    have h : loopN (law14_great_F4 call n ) (m + 1) (law14_great_sh4 setst2 t17 t18) = law14_great_s4    (fun (setst2 : den (LLAttr)) (t17 : den (.int .i64)) (t18 : den (.int .i64)) => loopN (law14_great_F4 call n ) m (law14_great_sh4 setst2 t17 t18)) setst2 t17 t18 := by kernel_rfl
    have e0 : (fun (setst2 : den (LLAttr)) (t17 : den (.int .i64)) (t18 : den (.int .i64)) => loopN (law14_great_F4 call n ) m (law14_great_sh4 setst2 t17 t18)) = (fun (setst2 : den (LLAttr)) (t17 : den (.int .i64)) (t18 : den (.int .i64)) => law14_great_l4  n  m setst2 t17 t18) := by funext setst2 t17 t18; exact ih setst2 t17 t18
    rw [h, e0]; rfl
noncomputable def law14_great_top  (LL4 : den (LLAttr) → den (.int .i64) → den (.int .i64) → Option (denR (.one (.bool)))) (a0 : den (LKey)) (a1 : den (LChange)) (a2 : den (LLAttr)) : Option (denR (.one (.bool))) := (bif (decide ((64 : Int) < (a0.length : Int))) then some true else (bif (decide ((100 : Int) < (a1.length : Int))) then some true else LL4 a2 (a2.length : Int) (0 : Int)))
noncomputable def law14_great : Nat → den (LKey) → den (LChange) → den (LLAttr) → Option (denR (.one (.bool)))
  | 0, _, _, _ => none
  | n + 1, a0, a1, a2 => law14_great_top  (law14_great_l4  n n) a0 a1 a2
theorem law14_great_eq (n : Nat) (a0 : den (LKey)) (a1 : den (LChange)) (a2 : den (LLAttr)) : (acalls cfg intr intrI n).p 6 [.s (.val (LKey) a0), .s (.val (LChange) a1), .s (.val (LLAttr) a2)] (.one (.bool)) = law14_great n a0 a1 a2 := by
  cases n with
  | zero => rfl
  | succ n =>
    have h : (acalls cfg intr intrI (n + 1)).p 6 [.s (.val (LKey) a0), .s (.val (LChange) a1), .s (.val (LLAttr) a2)] (.one (.bool)) = law14_great_top  (fun (setst2 : den (LLAttr)) (t17 : den (.int .i64)) (t18 : den (.int .i64)) => loopN (law14_great_F4 (acalls cfg intr intrI n) n) n (law14_great_sh4 setst2 t17 t18)) a0 a1 a2 := by kernel_rfl
    have e4 : (fun (setst2 : den (LLAttr)) (t17 : den (.int .i64)) (t18 : den (.int .i64)) => loopN (law14_great_F4 (acalls cfg intr intrI n) n) n (law14_great_sh4 setst2 t17 t18)) = law14_great_l4  n n := by funext setst2 t17 t18; exact law14_great_l4_eq (acalls cfg intr intrI n) n n setst2 t17 t18
    rw [h, e4]; rfl

noncomputable def schema_New : Nat → den (LKey) → Option (denR (.two (PSchema) (.int .i64)))
  | 0, _ => none
  | n + 1, a0 => some (newS a0)
theorem schema_New_eq (n : Nat) (a0 : den (LKey)) : (acalls cfg intr intrI n).p 9 [.s (.val (LKey) a0)] (.two (PSchema) (.int .i64)) = schema_New n a0 := by
  cases n with
  | zero => rfl
  | succ n => kernel_rfl

noncomputable def slices_Clone_Change : Nat → den (LChange) → Option (denS (⟨.row 57 (TChange), []⟩ : Sig))
  | 0, _ => none
  | n + 1, a0 => bif decide ((0 + a0.length) * 56 ≤ 140737488355328) then some (a0, ()) else none
theorem slices_Clone_Change_eq (n : Nat) (a0 : den (LChange)) : (acalls cfg intr intrI n).i 33 [.s (.val (LChange) a0)] [] (⟨.row 57 (TChange), []⟩ : Sig) = slices_Clone_Change n a0 := by
  cases n with
  | zero => rfl
  | succ n => kernel_rfl

noncomputable def Schema_Find_top   (a0 : den (PSchema)) (a1 : den (.int .i64)) : Option (denR (.two (TKey) (.bool))) := (bif a0.isNone then some (((0 : Int), (false, ((0 : Int), (false, (false, ((0 : Int), ())))))), false) else ((a0).bind fun p1 => some ((findM (TKey) a1 p1.2.1).1, (findM (TKey) a1 p1.2.1).2)))
noncomputable def Schema_Find : Nat → den (PSchema) → den (.int .i64) → Option (denR (.two (TKey) (.bool)))
  | 0, _, _ => none
  | n + 1, a0, a1 => Schema_Find_top   a0 a1
theorem Schema_Find_eq (n : Nat) (a0 : den (PSchema)) (a1 : den (.int .i64)) : (acalls cfg intr intrI n).p 10 [.s (.val (PSchema) a0), .s (.val (.int .i64) a1)] (.two (TKey) (.bool)) = Schema_Find n a0 a1 := by
  cases n with
  | zero => rfl
  | succ n =>
    have h : (acalls cfg intr intrI (n + 1)).p 10 [.s (.val (PSchema) a0), .s (.val (.int .i64) a1)] (.two (TKey) (.bool)) = Schema_Find_top   a0 a1 := by kernel_rfl
    rw [h]; rfl

noncomputable def B34 : Code := (Go.Proofs.Try.f34.body).getD .skip
noncomputable def Schema_Group_sh6 (idt1 : den (.int .i64)) (t26 : den (LKey)) (t27 : den (.int .i64)) (t28 : den (.int .i64)) (ko5 : den (TKey)) (lo7 : den (Li64)) : St := ⟨[U, .s (.val (.int .i64) idt1), U, U, U, .s (.ref 5 []), U, .s (.arr 7), U, U, U, U, U, U, U, U, U, U, U, U, U, U, U, U, U, U, .s (.val (LKey) t26), .s (.val (.int .i64) t27), .s (.val (.int .i64) t28), U, U, U, U, U, U, U, U, U, U, U, U, U, U, U, U, U, U, U, U, U], [(5, .box (TKey) ko5), (7, .arr 3 (.int .i64) lo7)]⟩
noncomputable def Schema_Group_s6 (C_Schema_Find : den (PSchema) → den (.int .i64) → Option (denR (.two (TKey) (.bool))))   (LS6 : den (.int .i64) → den (LKey) → den (.int .i64) → den (.int .i64) → den (TKey) → den (Li64) → Option (denR (.one (Li64)))) (idt1 : den (.int .i64)) (t26 : den (LKey)) (t27 : den (.int .i64)) (t28 : den (.int .i64)) (ko5 : den (TKey)) (lo7 : den (Li64)) : Option (denR (.one (Li64))) := (bif (decide (t28 < t27)) then (bif decide (0 ≤ t28) && decide (t28 < (t26.length : Int)) then (bif (decide (((((((t26.getD (Int.toNat t28) (dflt (TKey))).2).2).2).2).2).1 = ko5.2.2.2.2.2.1)) then (bif ((!decide ((t26.getD (Int.toNat t28) (dflt (TKey))).1 = idt1))) then (bif decide ((lo7.length + ([(t26.getD (Int.toNat t28) (dflt (TKey))).1] : List (den (.int .i64))).length) * 8 ≤ 140737488355328) then LS6 idt1 t26 t27 (IntKind.wrap .i64 (t28 + (1 : Int))) ko5 (lo7 ++ ([(t26.getD (Int.toNat t28) (dflt (TKey))).1] : List (den (.int .i64)))) else none) else LS6 idt1 t26 t27 (IntKind.wrap .i64 (t28 + (1 : Int))) ko5 lo7) else LS6 idt1 t26 t27 (IntKind.wrap .i64 (t28 + (1 : Int))) ko5 lo7) else none) else some lo7)
noncomputable def Schema_Group_l6 (C_Schema_Find : den (PSchema) → den (.int .i64) → Option (denR (.two (TKey) (.bool)))) (n : Nat)  : Nat → den (.int .i64) → den (LKey) → den (.int .i64) → den (.int .i64) → den (TKey) → den (Li64) → Option (denR (.one (Li64)))
  | 0, _, _, _, _, _, _ => none
  | m + 1, idt1, t26, t27, t28, ko5, lo7 => Schema_Group_s6 C_Schema_Find   (fun (idt1 : den (.int .i64)) (t26 : den (LKey)) (t27 : den (.int .i64)) (t28 : den (.int .i64)) (ko5 : den (TKey)) (lo7 : den (Li64)) => Schema_Group_l6 C_Schema_Find n  m idt1 t26 t27 t28 ko5 lo7) idt1 t26 t27 t28 ko5 lo7
noncomputable def Schema_Group_g6 (C_Schema_Find : den (PSchema) → den (.int .i64) → Option (denR (.two (TKey) (.bool))))   : List (den (TKey)) → den (.int .i64) → den (TKey) → den (Li64) → Option (denR (.one (Li64)))
  | [], idt1, ko5, lo7 => some lo7
  | x :: r, idt1, ko5, lo7 => (bif (decide (x.2.2.2.2.2.1 = ko5.2.2.2.2.2.1)) then (bif ((!decide (x.1 = idt1))) then (bif decide ((lo7.length + ([x.1] : List (den (.int .i64))).length) * 8 ≤ 140737488355328) then Schema_Group_g6 C_Schema_Find   r idt1 ko5 (lo7 ++ ([x.1] : List (den (.int .i64)))) else none) else Schema_Group_g6 C_Schema_Find   r idt1 ko5 lo7) else Schema_Group_g6 C_Schema_Find   r idt1 ko5 lo7)
theorem Schema_Group_l6_list (C_Schema_Find : den (PSchema) → den (.int .i64) → Option (denR (.two (TKey) (.bool)))) (n : Nat)  : ∀ (m i : Nat) (idt1 : den (.int .i64)) (t26 : den (LKey)) (ko5 : den (TKey)) (lo7 : den (Li64)), t26.length - i < m → i ≤ t26.length → t26.length < 4611686018427387904 → Schema_Group_l6 C_Schema_Find n  m idt1 t26 (t26.length : Int) (i : Int) ko5 lo7 = Schema_Group_g6 C_Schema_Find   (t26.drop i) idt1 ko5 lo7 := by
  intro m
  induction m with
  | zero => intro i idt1 t26 ko5 lo7 h1; omega
  | succ m ih =>
    intro i idt1 t26 ko5 lo7 h1 h2 h3
    show Schema_Group_s6 C_Schema_Find   (fun (idt1 : den (.int .i64)) (t26 : den (LKey)) (t27 : den (.int .i64)) (t28 : den (.int .i64)) (ko5 : den (TKey)) (lo7 : den (Li64)) => Schema_Group_l6 C_Schema_Find n  m idt1 t26 t27 t28 ko5 lo7) idt1 t26 (t26.length : Int) (i : Int) ko5 lo7 = _
    unfold Schema_Group_s6
    have b0 : decide ((0 : Int) ≤ (i : Int)) = true := decide_eq_true (by omega)
    rcases Nat.lt_or_ge i t26.length with hi | hi
    · have b1 : decide ((i : Int) < (t26.length : Int)) = true := decide_eq_true (by omega)
      have bw : IntKind.i64.wrap ((i : Int) + (1 : Int)) = ((i + 1 : Nat) : Int) := w64s (by omega)
      have ih' : ∀ (idt1 : den (.int .i64)) (ko5 : den (TKey)) (lo7 : den (Li64)), Schema_Group_l6 C_Schema_Find n  m idt1 t26 (t26.length : Int) ((i + 1 : Nat) : Int) ko5 lo7 = Schema_Group_g6 C_Schema_Find   (t26.drop (i + 1)) idt1 ko5 lo7 := fun idt1 ko5 lo7 => ih (i + 1) idt1 t26 ko5 lo7 (by omega) (by omega) h3
      simp only [b0, b1, bw, Bool.and_true, Bool.true_and, cond_true, Int.toNat_natCast, ih']
      rw [drop_getD hi (dflt (TKey))]
      rfl
    · have b1 : decide ((i : Int) < (t26.length : Int)) = false := decide_eq_false (by omega)
      simp only [b1, cond_false]
      rw [List.drop_eq_nil_of_le hi]
      rfl
noncomputable def Schema_Group_F6 (call : Call0) (n : Nat)  : (St → Option (denR (.one (Li64)))) → St → Option (denR (.one (Li64))) := fun rec => exec cfg call n 34 (cat B34 [1, 1, 1, 1, 0, 1, 0, 0]) (kLoop rec (lk2 34 6 cfg.keep) (kBlock 0 (kSq (exec cfg call n 34 (cat B34 [1, 1, 1, 1, 1])) (kret cfg Go.Proofs.Try.f34 (.one (Li64))))))
theorem Schema_Group_l6_eq (call : Call0) (n : Nat)  : ∀ (m : Nat) (idt1 : den (.int .i64)) (t26 : den (LKey)) (t27 : den (.int .i64)) (t28 : den (.int .i64)) (ko5 : den (TKey)) (lo7 : den (Li64)), loopN (Schema_Group_F6 call n ) m (Schema_Group_sh6 idt1 t26 t27 t28 ko5 lo7) = Schema_Group_l6 (fun (a0 : den (PSchema)) (a1 : den (.int .i64)) => call.p 10 [.s (.val (PSchema) a0), .s (.val (.int .i64) a1)] (.two (TKey) (.bool))) n  m idt1 t26 t27 t28 ko5 lo7 := by
  intro m
  induction m with
  | zero => intros; rfl
  | succ m ih =>
    intro idt1 t26 t27 t28 ko5 lo7
    have h : loopN (Schema_Group_F6 call n ) (m + 1) (Schema_Group_sh6 idt1 t26 t27 t28 ko5 lo7) = Schema_Group_s6 (fun (a0 : den (PSchema)) (a1 : den (.int .i64)) => call.p 10 [.s (.val (PSchema) a0), .s (.val (.int .i64) a1)] (.two (TKey) (.bool)))   (fun (idt1 : den (.int .i64)) (t26 : den (LKey)) (t27 : den (.int .i64)) (t28 : den (.int .i64)) (ko5 : den (TKey)) (lo7 : den (Li64)) => loopN (Schema_Group_F6 call n ) m (Schema_Group_sh6 idt1 t26 t27 t28 ko5 lo7)) idt1 t26 t27 t28 ko5 lo7 := by kernel_rfl
    have e0 : (fun (idt1 : den (.int .i64)) (t26 : den (LKey)) (t27 : den (.int .i64)) (t28 : den (.int .i64)) (ko5 : den (TKey)) (lo7 : den (Li64)) => loopN (Schema_Group_F6 call n ) m (Schema_Group_sh6 idt1 t26 t27 t28 ko5 lo7)) = (fun (idt1 : den (.int .i64)) (t26 : den (LKey)) (t27 : den (.int .i64)) (t28 : den (.int .i64)) (ko5 : den (TKey)) (lo7 : den (Li64)) => Schema_Group_l6 (fun (a0 : den (PSchema)) (a1 : den (.int .i64)) => call.p 10 [.s (.val (PSchema) a0), .s (.val (.int .i64) a1)] (.two (TKey) (.bool))) n  m idt1 t26 t27 t28 ko5 lo7) := by funext idt1 t26 t27 t28 ko5 lo7; exact ih idt1 t26 t27 t28 ko5 lo7
    rw [h, e0]; rfl
noncomputable def Schema_Group_top (C_Schema_Find : den (PSchema) → den (.int .i64) → Option (denR (.two (TKey) (.bool)))) (LL6 : den (.int .i64) → den (LKey) → den (.int .i64) → den (.int .i64) → den (TKey) → den (Li64) → Option (denR (.one (Li64)))) (a0 : den (PSchema)) (a1 : den (.int .i64)) : Option (denR (.one (Li64))) := ((C_Schema_Find a0 a1).bind fun r1 => (bif (!r1.2) then some [] else (bif (decide (r1.1.2.2.2.2.2.1 = (0 : Int))) then some [] else ((a0).bind fun p2 => LL6 a1 p2.1 (p2.1.length : Int) (0 : Int) r1.1 []))))
noncomputable def Schema_Group : Nat → den (PSchema) → den (.int .i64) → Option (denR (.one (Li64)))
  | 0, _, _ => none
  | n + 1, a0, a1 => Schema_Group_top (Schema_Find n) (Schema_Group_l6 (Schema_Find n) n n) a0 a1
theorem Schema_Group_eq (n : Nat) (a0 : den (PSchema)) (a1 : den (.int .i64)) : (acalls cfg intr intrI n).p 34 [.s (.val (PSchema) a0), .s (.val (.int .i64) a1)] (.one (Li64)) = Schema_Group n a0 a1 := by
  cases n with
  | zero => rfl
  | succ n =>
    have h : (acalls cfg intr intrI (n + 1)).p 34 [.s (.val (PSchema) a0), .s (.val (.int .i64) a1)] (.one (Li64)) = Schema_Group_top (fun (a0 : den (PSchema)) (a1 : den (.int .i64)) => (acalls cfg intr intrI n).p 10 [.s (.val (PSchema) a0), .s (.val (.int .i64) a1)] (.two (TKey) (.bool))) (fun (idt1 : den (.int .i64)) (t26 : den (LKey)) (t27 : den (.int .i64)) (t28 : den (.int .i64)) (ko5 : den (TKey)) (lo7 : den (Li64)) => loopN (Schema_Group_F6 (acalls cfg intr intrI n) n) n (Schema_Group_sh6 idt1 t26 t27 t28 ko5 lo7)) a0 a1 := by kernel_rfl
    have e6 : (fun (idt1 : den (.int .i64)) (t26 : den (LKey)) (t27 : den (.int .i64)) (t28 : den (.int .i64)) (ko5 : den (TKey)) (lo7 : den (Li64)) => loopN (Schema_Group_F6 (acalls cfg intr intrI n) n) n (Schema_Group_sh6 idt1 t26 t27 t28 ko5 lo7)) = Schema_Group_l6 (fun (a0 : den (PSchema)) (a1 : den (.int .i64)) => (acalls cfg intr intrI n).p 10 [.s (.val (PSchema) a0), .s (.val (.int .i64) a1)] (.two (TKey) (.bool))) n n := by funext idt1 t26 t27 t28 ko5 lo7; exact Schema_Group_l6_eq (acalls cfg intr intrI n) n n idt1 t26 t27 t28 ko5 lo7
    have c_Schema_Find : (fun (a0 : den (PSchema)) (a1 : den (.int .i64)) => (acalls cfg intr intrI n).p 10 [.s (.val (PSchema) a0), .s (.val (.int .i64) a1)] (.two (TKey) (.bool))) = Schema_Find n := by funext a0 a1; exact Schema_Find_eq n a0 a1
    rw [h, e6, c_Schema_Find]; rfl

noncomputable def cmp_isNaN_int_top   (a0 : den (.int .i64)) : Option (denR (.one (.bool))) := some ((!decide (a0 = a0)))
noncomputable def cmp_isNaN_int : Nat → den (.int .i64) → Option (denR (.one (.bool)))
  | 0, _ => none
  | n + 1, a0 => cmp_isNaN_int_top   a0
theorem cmp_isNaN_int_eq (n : Nat) (a0 : den (.int .i64)) : (acalls cfg intr intrI n).p 51 [.s (.val (.int .i64) a0)] (.one (.bool)) = cmp_isNaN_int n a0 := by
  cases n with
  | zero => rfl
  | succ n =>
    have h : (acalls cfg intr intrI (n + 1)).p 51 [.s (.val (.int .i64) a0)] (.one (.bool)) = cmp_isNaN_int_top   a0 := by kernel_rfl
    rw [h]; rfl

noncomputable def cmp_Compare_int_top (C_cmp_isNaN_int : den (.int .i64) → Option (denR (.one (.bool))))  (a0 : den (.int .i64)) (a1 : den (.int .i64)) : Option (denR (.one (.int .i64))) := ((C_cmp_isNaN_int a0).bind fun r1 => ((C_cmp_isNaN_int a1).bind fun r2 => (bif r1 then (bif r2 then some (0 : Int) else some (-1 : Int)) else (bif r2 then some (1 : Int) else (bif (decide (a0 < a1)) then some (-1 : Int) else (bif (decide (a1 < a0)) then some (1 : Int) else some (0 : Int)))))))
noncomputable def cmp_Compare_int : Nat → den (.int .i64) → den (.int .i64) → Option (denR (.one (.int .i64)))
  | 0, _, _ => none
  | n + 1, a0, a1 => cmp_Compare_int_top (cmp_isNaN_int n)  a0 a1
theorem cmp_Compare_int_eq (n : Nat) (a0 : den (.int .i64)) (a1 : den (.int .i64)) : (acalls cfg intr intrI n).p 29 [.s (.val (.int .i64) a0), .s (.val (.int .i64) a1)] (.one (.int .i64)) = cmp_Compare_int n a0 a1 := by
  cases n with
  | zero => rfl
  | succ n =>
    have h : (acalls cfg intr intrI (n + 1)).p 29 [.s (.val (.int .i64) a0), .s (.val (.int .i64) a1)] (.one (.int .i64)) = cmp_Compare_int_top (fun (a0 : den (.int .i64)) => (acalls cfg intr intrI n).p 51 [.s (.val (.int .i64) a0)] (.one (.bool)))  a0 a1 := by kernel_rfl
    have c_cmp_isNaN_int : (fun (a0 : den (.int .i64)) => (acalls cfg intr intrI n).p 51 [.s (.val (.int .i64) a0)] (.one (.bool))) = cmp_isNaN_int n := by funext a0; exact cmp_isNaN_int_eq n a0
    rw [h, c_cmp_isNaN_int]; rfl

noncomputable def rules_at_1_top (C_cmp_Compare_int : den (.int .i64) → den (.int .i64) → Option (denR (.one (.int .i64))))  (a0 : den (TChange)) (a1 : den (.int .i64)) : Option (denR (.one (.int .i64))) := ((C_cmp_Compare_int a0.1 a1).bind fun r1 => some r1)
noncomputable def rules_at_1 : Nat → den (TChange) → den (.int .i64) → Option (denR (.one (.int .i64)))
  | 0, _, _ => none
  | n + 1, a0, a1 => rules_at_1_top (cmp_Compare_int n)  a0 a1
theorem rules_at_1_eq (n : Nat) (a0 : den (TChange)) (a1 : den (.int .i64)) : (acalls cfg intr intrI n).p 55 [.s (.val (TChange) a0), .s (.val (.int .i64) a1)] (.one (.int .i64)) = rules_at_1 n a0 a1 := by
  cases n with
  | zero => rfl
  | succ n =>
    have h : (acalls cfg intr intrI (n + 1)).p 55 [.s (.val (TChange) a0), .s (.val (.int .i64) a1)] (.one (.int .i64)) = rules_at_1_top (fun (a0 : den (.int .i64)) (a1 : den (.int .i64)) => (acalls cfg intr intrI n).p 29 [.s (.val (.int .i64) a0), .s (.val (.int .i64) a1)] (.one (.int .i64)))  a0 a1 := by kernel_rfl
    have c_cmp_Compare_int : (fun (a0 : den (.int .i64)) (a1 : den (.int .i64)) => (acalls cfg intr intrI n).p 29 [.s (.val (.int .i64) a0), .s (.val (.int .i64) a1)] (.one (.int .i64))) = cmp_Compare_int n := by funext a0 a1; exact cmp_Compare_int_eq n a0 a1
    rw [h, c_cmp_Compare_int]; rfl

noncomputable def B54 : Code := (Go.Proofs.Try.f54.body).getD .skip
noncomputable def slices_BinarySearchFunc_Change_int__rules_at_1_sh3 (xt0 : den (LChange)) (targett1 : den (.int .i64)) (nt8 : den (.int .i64)) (it9 : den (.int .i64)) (jt10 : den (.int .i64)) : St := ⟨[.s (.val (LChange) xt0), .s (.val (.int .i64) targett1), .fn 55 [], U, U, U, U, U, .s (.val (.int .i64) nt8), .s (.val (.int .i64) it9), .s (.val (.int .i64) jt10), U, U, U, U, U, U, U, U, U, U, U, U, U, U, U, U, U, U, U, U, U, U, U, U, U, U, U, U, U, U, U, U, U, U, U, U, U, U], []⟩
noncomputable def slices_BinarySearchFunc_Change_int__rules_at_1_s3 (C_rules_at_1 : den (TChange) → den (.int .i64) → Option (denR (.one (.int .i64))))   (LS3 : den (LChange) → den (.int .i64) → den (.int .i64) → den (.int .i64) → den (.int .i64) → Option (denR (.two (.int .i64) (.bool)))) (xt0 : den (LChange)) (targett1 : den (.int .i64)) (nt8 : den (.int .i64)) (it9 : den (.int .i64)) (jt10 : den (.int .i64)) : Option (denR (.two (.int .i64) (.bool))) := (bif (decide (it9 < jt10)) then (bif decide (0 ≤ (IntKind.wrap .i64 (Int.fdiv (IntKind.wrap .u64 (IntKind.wrap .i64 (it9 + jt10))) (2 ^ (min (Int.toNat (1 : Int)) (IntKind.bits .u64)))))) && decide ((IntKind.wrap .i64 (Int.fdiv (IntKind.wrap .u64 (IntKind.wrap .i64 (it9 + jt10))) (2 ^ (min (Int.toNat (1 : Int)) (IntKind.bits .u64))))) < (xt0.length : Int)) then ((C_rules_at_1 (xt0.getD (Int.toNat (IntKind.wrap .i64 (Int.fdiv (IntKind.wrap .u64 (IntKind.wrap .i64 (it9 + jt10))) (2 ^ (min (Int.toNat (1 : Int)) (IntKind.bits .u64)))))) (dflt (TChange))) targett1).bind fun r1 => (bif (decide (r1 < (0 : Int))) then LS3 xt0 targett1 nt8 (IntKind.wrap .i64 ((IntKind.wrap .i64 (Int.fdiv (IntKind.wrap .u64 (IntKind.wrap .i64 (it9 + jt10))) (2 ^ (min (Int.toNat (1 : Int)) (IntKind.bits .u64))))) + (1 : Int))) jt10 else LS3 xt0 targett1 nt8 it9 (IntKind.wrap .i64 (Int.fdiv (IntKind.wrap .u64 (IntKind.wrap .i64 (it9 + jt10))) (2 ^ (min (Int.toNat (1 : Int)) (IntKind.bits .u64))))))) else none) else (bif (decide (it9 < nt8)) then (bif decide (0 ≤ it9) && decide (it9 < (xt0.length : Int)) then ((C_rules_at_1 (xt0.getD (Int.toNat it9) (dflt (TChange))) targett1).bind fun r2 => some (it9, (decide (r2 = (0 : Int))))) else none) else some (it9, false)))
noncomputable def slices_BinarySearchFunc_Change_int__rules_at_1_l3 (C_rules_at_1 : den (TChange) → den (.int .i64) → Option (denR (.one (.int .i64)))) (n : Nat)  : Nat → den (LChange) → den (.int .i64) → den (.int .i64) → den (.int .i64) → den (.int .i64) → Option (denR (.two (.int .i64) (.bool)))
  | 0, _, _, _, _, _ => none
  | m + 1, xt0, targett1, nt8, it9, jt10 => slices_BinarySearchFunc_Change_int__rules_at_1_s3 C_rules_at_1   (fun (xt0 : den (LChange)) (targett1 : den (.int .i64)) (nt8 : den (.int .i64)) (it9 : den (.int .i64)) (jt10 : den (.int .i64)) => slices_BinarySearchFunc_Change_int__rules_at_1_l3 C_rules_at_1 n  m xt0 targett1 nt8 it9 jt10) xt0 targett1 nt8 it9 jt10
noncomputable def slices_BinarySearchFunc_Change_int__rules_at_1_F3 (call : Call0) (n : Nat)  : (St → Option (denR (.two (.int .i64) (.bool)))) → St → Option (denR (.two (.int .i64) (.bool))) := fun rec => exec cfg call n 54 (cat B54 [1, 1, 1, 0, 0, 0]) (kLoop rec (lk2 54 3 cfg.keep) (kBlock 0 (kSq (exec cfg call n 54 (cat B54 [1, 1, 1, 1])) (kret cfg Go.Proofs.Try.f54 (.two (.int .i64) (.bool))))))
theorem slices_BinarySearchFunc_Change_int__rules_at_1_l3_eq (call : Call0) (n : Nat)  : ∀ (m : Nat) (xt0 : den (LChange)) (targett1 : den (.int .i64)) (nt8 : den (.int .i64)) (it9 : den (.int .i64)) (jt10 : den (.int .i64)), loopN (slices_BinarySearchFunc_Change_int__rules_at_1_F3 call n ) m (slices_BinarySearchFunc_Change_int__rules_at_1_sh3 xt0 targett1 nt8 it9 jt10) = slices_BinarySearchFunc_Change_int__rules_at_1_l3 (fun (a0 : den (TChange)) (a1 : den (.int .i64)) => call.p 55 [.s (.val (TChange) a0), .s (.val (.int .i64) a1)] (.one (.int .i64))) n  m xt0 targett1 nt8 it9 jt10 := by
  intro m
  induction m with
  | zero => intros; rfl
  | succ m ih =>
    intro xt0 targett1 nt8 it9 jt10
    have h : loopN (slices_BinarySearchFunc_Change_int__rules_at_1_F3 call n ) (m + 1) (slices_BinarySearchFunc_Change_int__rules_at_1_sh3 xt0 targett1 nt8 it9 jt10) = slices_BinarySearchFunc_Change_int__rules_at_1_s3 (fun (a0 : den (TChange)) (a1 : den (.int .i64)) => call.p 55 [.s (.val (TChange) a0), .s (.val (.int .i64) a1)] (.one (.int .i64)))   (fun (xt0 : den (LChange)) (targett1 : den (.int .i64)) (nt8 : den (.int .i64)) (it9 : den (.int .i64)) (jt10 : den (.int .i64)) => loopN (slices_BinarySearchFunc_Change_int__rules_at_1_F3 call n ) m (slices_BinarySearchFunc_Change_int__rules_at_1_sh3 xt0 targett1 nt8 it9 jt10)) xt0 targett1 nt8 it9 jt10 := by kernel_rfl
    have e0 : (fun (xt0 : den (LChange)) (targett1 : den (.int .i64)) (nt8 : den (.int .i64)) (it9 : den (.int .i64)) (jt10 : den (.int .i64)) => loopN (slices_BinarySearchFunc_Change_int__rules_at_1_F3 call n ) m (slices_BinarySearchFunc_Change_int__rules_at_1_sh3 xt0 targett1 nt8 it9 jt10)) = (fun (xt0 : den (LChange)) (targett1 : den (.int .i64)) (nt8 : den (.int .i64)) (it9 : den (.int .i64)) (jt10 : den (.int .i64)) => slices_BinarySearchFunc_Change_int__rules_at_1_l3 (fun (a0 : den (TChange)) (a1 : den (.int .i64)) => call.p 55 [.s (.val (TChange) a0), .s (.val (.int .i64) a1)] (.one (.int .i64))) n  m xt0 targett1 nt8 it9 jt10) := by funext xt0 targett1 nt8 it9 jt10; exact ih xt0 targett1 nt8 it9 jt10
    rw [h, e0]; rfl
noncomputable def slices_BinarySearchFunc_Change_int__rules_at_1_top (C_rules_at_1 : den (TChange) → den (.int .i64) → Option (denR (.one (.int .i64)))) (LL3 : den (LChange) → den (.int .i64) → den (.int .i64) → den (.int .i64) → den (.int .i64) → Option (denR (.two (.int .i64) (.bool)))) (a0 : den (LChange)) (a1 : den (.int .i64)) : Option (denR (.two (.int .i64) (.bool))) := LL3 a0 a1 (a0.length : Int) (0 : Int) (a0.length : Int)
noncomputable def slices_BinarySearchFunc_Change_int__rules_at_1 : Nat → den (LChange) → den (.int .i64) → Option (denR (.two (.int .i64) (.bool)))
  | 0, _, _ => none
  | n + 1, a0, a1 => slices_BinarySearchFunc_Change_int__rules_at_1_top (rules_at_1 n) (slices_BinarySearchFunc_Change_int__rules_at_1_l3 (rules_at_1 n) n n) a0 a1
theorem slices_BinarySearchFunc_Change_int__rules_at_1_eq (n : Nat) (a0 : den (LChange)) (a1 : den (.int .i64)) : (acalls cfg intr intrI n).p 54 [.s (.val (LChange) a0), .s (.val (.int .i64) a1), .fn 55 []] (.two (.int .i64) (.bool)) = slices_BinarySearchFunc_Change_int__rules_at_1 n a0 a1 := by
  cases n with
  | zero => rfl
  | succ n =>
    have h : (acalls cfg intr intrI (n + 1)).p 54 [.s (.val (LChange) a0), .s (.val (.int .i64) a1), .fn 55 []] (.two (.int .i64) (.bool)) = slices_BinarySearchFunc_Change_int__rules_at_1_top (fun (a0 : den (TChange)) (a1 : den (.int .i64)) => (acalls cfg intr intrI n).p 55 [.s (.val (TChange) a0), .s (.val (.int .i64) a1)] (.one (.int .i64))) (fun (xt0 : den (LChange)) (targett1 : den (.int .i64)) (nt8 : den (.int .i64)) (it9 : den (.int .i64)) (jt10 : den (.int .i64)) => loopN (slices_BinarySearchFunc_Change_int__rules_at_1_F3 (acalls cfg intr intrI n) n) n (slices_BinarySearchFunc_Change_int__rules_at_1_sh3 xt0 targett1 nt8 it9 jt10)) a0 a1 := by kernel_rfl
    have e3 : (fun (xt0 : den (LChange)) (targett1 : den (.int .i64)) (nt8 : den (.int .i64)) (it9 : den (.int .i64)) (jt10 : den (.int .i64)) => loopN (slices_BinarySearchFunc_Change_int__rules_at_1_F3 (acalls cfg intr intrI n) n) n (slices_BinarySearchFunc_Change_int__rules_at_1_sh3 xt0 targett1 nt8 it9 jt10)) = slices_BinarySearchFunc_Change_int__rules_at_1_l3 (fun (a0 : den (TChange)) (a1 : den (.int .i64)) => (acalls cfg intr intrI n).p 55 [.s (.val (TChange) a0), .s (.val (.int .i64) a1)] (.one (.int .i64))) n n := by funext xt0 targett1 nt8 it9 jt10; exact slices_BinarySearchFunc_Change_int__rules_at_1_l3_eq (acalls cfg intr intrI n) n n xt0 targett1 nt8 it9 jt10
    have c_rules_at_1 : (fun (a0 : den (TChange)) (a1 : den (.int .i64)) => (acalls cfg intr intrI n).p 55 [.s (.val (TChange) a0), .s (.val (.int .i64) a1)] (.one (.int .i64))) = rules_at_1 n := by funext a0 a1; exact rules_at_1_eq n a0 a1
    rw [h, e3, c_rules_at_1]; rfl

noncomputable def rules_at_top (C_slices_BinarySearchFunc_Change_int__rules_at_1 : den (LChange) → den (.int .i64) → Option (denR (.two (.int .i64) (.bool))))  (a0 : den (LChange)) (a1 : den (.int .i64)) : Option (denR (.two (.int .i64) (.bool))) := ((C_slices_BinarySearchFunc_Change_int__rules_at_1 a0 a1).bind fun r1 => some (r1.1, r1.2))
noncomputable def rules_at : Nat → den (LChange) → den (.int .i64) → Option (denR (.two (.int .i64) (.bool)))
  | 0, _, _ => none
  | n + 1, a0, a1 => rules_at_top (slices_BinarySearchFunc_Change_int__rules_at_1 n)  a0 a1
theorem rules_at_eq (n : Nat) (a0 : den (LChange)) (a1 : den (.int .i64)) : (acalls cfg intr intrI n).p 35 [.s (.val (LChange) a0), .s (.val (.int .i64) a1)] (.two (.int .i64) (.bool)) = rules_at n a0 a1 := by
  cases n with
  | zero => rfl
  | succ n =>
    have h : (acalls cfg intr intrI (n + 1)).p 35 [.s (.val (LChange) a0), .s (.val (.int .i64) a1)] (.two (.int .i64) (.bool)) = rules_at_top (fun (a0 : den (LChange)) (a1 : den (.int .i64)) => (acalls cfg intr intrI n).p 54 [.s (.val (LChange) a0), .s (.val (.int .i64) a1), .fn 55 []] (.two (.int .i64) (.bool)))  a0 a1 := by kernel_rfl
    have c_slices_BinarySearchFunc_Change_int__rules_at_1 : (fun (a0 : den (LChange)) (a1 : den (.int .i64)) => (acalls cfg intr intrI n).p 54 [.s (.val (LChange) a0), .s (.val (.int .i64) a1), .fn 55 []] (.two (.int .i64) (.bool))) = slices_BinarySearchFunc_Change_int__rules_at_1 n := by funext a0 a1; exact slices_BinarySearchFunc_Change_int__rules_at_1_eq n a0 a1
    rw [h, c_slices_BinarySearchFunc_Change_int__rules_at_1]; rfl

noncomputable def slices_Insert_Change : Nat → den (.int .i64) → den (LChange) → den (LChange) → Option (denS (⟨.row 57 (TChange), [.dead, .dead]⟩ : Sig))
  | 0, _, _, _ => none
  | n + 1, a1, o0, o1 => bif decide (0 < o1.length) && (decide (0 ≤ a1) && decide (a1 ≤ (o0.length : Int)) && decide ((o0.length + o1.length) * 56 ≤ 140737488355328)) then some (o0.take a1.toNat ++ o1 ++ o0.drop a1.toNat, ((), ((), ()))) else none
theorem slices_Insert_Change_eq (n : Nat) (a1 : den (.int .i64)) (o0 : den (LChange)) (o1 : den (LChange)) : (acalls cfg intr intrI n).i 36 [.s (.arr 95), .s (.val (.int .i64) a1), .s (.arr 96)] [(95, .arr 57 (TChange) o0), (96, .arr 57 (TChange) o1)] (⟨.row 57 (TChange), [.dead, .dead]⟩ : Sig) = slices_Insert_Change n a1 o0 o1 := by
  cases n with
  | zero => rfl
  | succ n => kernel_rfl

noncomputable def B17 : Code := (Go.Proofs.Try.f17.body).getD .skip
noncomputable def rules_Complete_sh7 (st0 : den (PSchema)) (t15 : den (LChange)) (t16 : den (.int .i64)) (t17 : den (.int .i64)) (t26 : den (Li64)) (t27 : den (.int .i64)) (t28 : den (.int .i64)) (outo6 : den (LChange)) : St := ⟨[.s (.val (PSchema) st0), U, U, U, U, U, .s (.arr 6), U, U, U, U, U, U, U, U, .s (.val (LChange) t15), .s (.val (.int .i64) t16), .s (.val (.int .i64) t17), U, U, U, U, U, U, U, U, .s (.val (Li64) t26), .s (.val (.int .i64) t27), .s (.val (.int .i64) t28), U, U, U, U, U, U, U, U, U, U, U, U, U, U, U, U, U, U, U, U, U, U, U, U, U, U, U, U, U, U, U], [(6, .arr 57 (TChange) outo6)]⟩
noncomputable def rules_Complete_sh3 (st0 : den (PSchema)) (t15 : den (LChange)) (t16 : den (.int .i64)) (t17 : den (.int .i64)) (outo6 : den (LChange)) : St := ⟨[.s (.val (PSchema) st0), U, U, U, U, U, .s (.arr 6), U, U, U, U, U, U, U, U, .s (.val (LChange) t15), .s (.val (.int .i64) t16), .s (.val (.int .i64) t17), U, U, U, U, U, U, U, U, U, U, U, U, U, U, U, U, U, U, U, U, U, U, U, U, U, U, U, U, U, U, U, U, U, U, U, U, U, U, U, U, U, U], [(6, .arr 57 (TChange) outo6)]⟩
noncomputable def rules_Complete_s7 (C_slices_Clone_Change : den (LChange) → Option (denS (⟨.row 57 (TChange), []⟩ : Sig))) (C_Schema_Group : den (PSchema) → den (.int .i64) → Option (denR (.one (Li64)))) (C_rules_at : den (LChange) → den (.int .i64) → Option (denR (.two (.int .i64) (.bool)))) (C_slices_Insert_Change : den (.int .i64) → den (LChange) → den (LChange) → Option (denS (⟨.row 57 (TChange), [.dead, .dead]⟩ : Sig)))  (LS3 : den (PSchema) → den (LChange) → den (.int .i64) → den (.int .i64) → den (LChange) → Option (denS (⟨.rowv 57 (TChange) (.int .i64), []⟩ : Sig))) (LS7 : den (PSchema) → den (LChange) → den (.int .i64) → den (.int .i64) → den (Li64) → den (.int .i64) → den (.int .i64) → den (LChange) → Option (denS (⟨.rowv 57 (TChange) (.int .i64), []⟩ : Sig))) (st0 : den (PSchema)) (t15 : den (LChange)) (t16 : den (.int .i64)) (t17 : den (.int .i64)) (t26 : den (Li64)) (t27 : den (.int .i64)) (t28 : den (.int .i64)) (outo6 : den (LChange)) : Option (denS (⟨.rowv 57 (TChange) (.int .i64), []⟩ : Sig)) := (bif (decide (t28 < t27)) then (bif decide (0 ≤ t28) && decide (t28 < (t26.length : Int)) then ((C_rules_at outo6 (t26.getD (Int.toNat t28) (dflt (.int .i64)))).bind fun r3 => (bif r3.2 then (bif decide (0 ≤ r3.1) && decide (r3.1 < (outo6.length : Int)) then (bif (!((outo6.getD (Int.toNat r3.1) (dflt (TChange))).2).1) then some ((([] : den (LChange)), (3 : Int)), ()) else (bif (!r3.2) then ((C_slices_Insert_Change r3.1 outo6 ([((t26.getD (Int.toNat t28) (dflt (.int .i64))), (true, (((0 : Int), ((0 : Int), ((0 : Int), ((⟨#[]⟩ : ByteArray), ())))), ())))] : den (LChange))).bind fun r4 => LS7 st0 t15 t16 t17 t26 t27 (IntKind.wrap .i64 (t28 + (1 : Int))) r4.1) else LS7 st0 t15 t16 t17 t26 t27 (IntKind.wrap .i64 (t28 + (1 : Int))) outo6)) else none) else (bif (!r3.2) then ((C_slices_Insert_Change r3.1 outo6 ([((t26.getD (Int.toNat t28) (dflt (.int .i64))), (true, (((0 : Int), ((0 : Int), ((0 : Int), ((⟨#[]⟩ : ByteArray), ())))), ())))] : den (LChange))).bind fun r5 => LS7 st0 t15 t16 t17 t26 t27 (IntKind.wrap .i64 (t28 + (1 : Int))) r5.1) else LS7 st0 t15 t16 t17 t26 t27 (IntKind.wrap .i64 (t28 + (1 : Int))) outo6))) else none) else LS3 st0 t15 t16 (IntKind.wrap .i64 (t17 + (1 : Int))) outo6)
noncomputable def rules_Complete_l7 (C_slices_Clone_Change : den (LChange) → Option (denS (⟨.row 57 (TChange), []⟩ : Sig))) (C_Schema_Group : den (PSchema) → den (.int .i64) → Option (denR (.one (Li64)))) (C_rules_at : den (LChange) → den (.int .i64) → Option (denR (.two (.int .i64) (.bool)))) (C_slices_Insert_Change : den (.int .i64) → den (LChange) → den (LChange) → Option (denS (⟨.row 57 (TChange), [.dead, .dead]⟩ : Sig))) (n : Nat) (LS3 : den (PSchema) → den (LChange) → den (.int .i64) → den (.int .i64) → den (LChange) → Option (denS (⟨.rowv 57 (TChange) (.int .i64), []⟩ : Sig))) : Nat → den (PSchema) → den (LChange) → den (.int .i64) → den (.int .i64) → den (Li64) → den (.int .i64) → den (.int .i64) → den (LChange) → Option (denS (⟨.rowv 57 (TChange) (.int .i64), []⟩ : Sig))
  | 0, _, _, _, _, _, _, _, _ => none
  | m + 1, st0, t15, t16, t17, t26, t27, t28, outo6 => rules_Complete_s7 C_slices_Clone_Change C_Schema_Group C_rules_at C_slices_Insert_Change  LS3 (fun (st0 : den (PSchema)) (t15 : den (LChange)) (t16 : den (.int .i64)) (t17 : den (.int .i64)) (t26 : den (Li64)) (t27 : den (.int .i64)) (t28 : den (.int .i64)) (outo6 : den (LChange)) => rules_Complete_l7 C_slices_Clone_Change C_Schema_Group C_rules_at C_slices_Insert_Change n LS3 m st0 t15 t16 t17 t26 t27 t28 outo6) st0 t15 t16 t17 t26 t27 t28 outo6
noncomputable def rules_Complete_g7 (C_slices_Clone_Change : den (LChange) → Option (denS (⟨.row 57 (TChange), []⟩ : Sig))) (C_Schema_Group : den (PSchema) → den (.int .i64) → Option (denR (.one (Li64)))) (C_rules_at : den (LChange) → den (.int .i64) → Option (denR (.two (.int .i64) (.bool)))) (C_slices_Insert_Change : den (.int .i64) → den (LChange) → den (LChange) → Option (denS (⟨.row 57 (TChange), [.dead, .dead]⟩ : Sig)))  (LS3 : den (PSchema) → den (LChange) → den (.int .i64) → den (.int .i64) → den (LChange) → Option (denS (⟨.rowv 57 (TChange) (.int .i64), []⟩ : Sig))) : List (den (.int .i64)) → den (PSchema) → den (LChange) → den (.int .i64) → den (.int .i64) → den (LChange) → Option (denS (⟨.rowv 57 (TChange) (.int .i64), []⟩ : Sig))
  | [], st0, t15, t16, t17, outo6 => LS3 st0 t15 t16 (IntKind.wrap .i64 (t17 + (1 : Int))) outo6
  | x :: r, st0, t15, t16, t17, outo6 => ((C_rules_at outo6 x).bind fun r6 => (bif r6.2 then (bif decide (0 ≤ r6.1) && decide (r6.1 < (outo6.length : Int)) then (bif (!((outo6.getD (Int.toNat r6.1) (dflt (TChange))).2).1) then some ((([] : den (LChange)), (3 : Int)), ()) else (bif (!r6.2) then ((C_slices_Insert_Change r6.1 outo6 ([(x, (true, (((0 : Int), ((0 : Int), ((0 : Int), ((⟨#[]⟩ : ByteArray), ())))), ())))] : den (LChange))).bind fun r7 => rules_Complete_g7 C_slices_Clone_Change C_Schema_Group C_rules_at C_slices_Insert_Change  LS3 r st0 t15 t16 t17 r7.1) else rules_Complete_g7 C_slices_Clone_Change C_Schema_Group C_rules_at C_slices_Insert_Change  LS3 r st0 t15 t16 t17 outo6)) else none) else (bif (!r6.2) then ((C_slices_Insert_Change r6.1 outo6 ([(x, (true, (((0 : Int), ((0 : Int), ((0 : Int), ((⟨#[]⟩ : ByteArray), ())))), ())))] : den (LChange))).bind fun r8 => rules_Complete_g7 C_slices_Clone_Change C_Schema_Group C_rules_at C_slices_Insert_Change  LS3 r st0 t15 t16 t17 r8.1) else rules_Complete_g7 C_slices_Clone_Change C_Schema_Group C_rules_at C_slices_Insert_Change  LS3 r st0 t15 t16 t17 outo6)))
theorem rules_Complete_l7_list (C_slices_Clone_Change : den (LChange) → Option (denS (⟨.row 57 (TChange), []⟩ : Sig))) (C_Schema_Group : den (PSchema) → den (.int .i64) → Option (denR (.one (Li64)))) (C_rules_at : den (LChange) → den (.int .i64) → Option (denR (.two (.int .i64) (.bool)))) (C_slices_Insert_Change : den (.int .i64) → den (LChange) → den (LChange) → Option (denS (⟨.row 57 (TChange), [.dead, .dead]⟩ : Sig))) (n : Nat) (LS3 : den (PSchema) → den (LChange) → den (.int .i64) → den (.int .i64) → den (LChange) → Option (denS (⟨.rowv 57 (TChange) (.int .i64), []⟩ : Sig))) : ∀ (m i : Nat) (st0 : den (PSchema)) (t15 : den (LChange)) (t16 : den (.int .i64)) (t17 : den (.int .i64)) (t26 : den (Li64)) (outo6 : den (LChange)), t26.length - i < m → i ≤ t26.length → t26.length < 4611686018427387904 → rules_Complete_l7 C_slices_Clone_Change C_Schema_Group C_rules_at C_slices_Insert_Change n LS3 m st0 t15 t16 t17 t26 (t26.length : Int) (i : Int) outo6 = rules_Complete_g7 C_slices_Clone_Change C_Schema_Group C_rules_at C_slices_Insert_Change  LS3 (t26.drop i) st0 t15 t16 t17 outo6 := by
  intro m
  induction m with
  | zero => intro i st0 t15 t16 t17 t26 outo6 h1; omega
  | succ m ih =>
    intro i st0 t15 t16 t17 t26 outo6 h1 h2 h3
    show rules_Complete_s7 C_slices_Clone_Change C_Schema_Group C_rules_at C_slices_Insert_Change  LS3 (fun (st0 : den (PSchema)) (t15 : den (LChange)) (t16 : den (.int .i64)) (t17 : den (.int .i64)) (t26 : den (Li64)) (t27 : den (.int .i64)) (t28 : den (.int .i64)) (outo6 : den (LChange)) => rules_Complete_l7 C_slices_Clone_Change C_Schema_Group C_rules_at C_slices_Insert_Change n LS3 m st0 t15 t16 t17 t26 t27 t28 outo6) st0 t15 t16 t17 t26 (t26.length : Int) (i : Int) outo6 = _
    unfold rules_Complete_s7
    have b0 : decide ((0 : Int) ≤ (i : Int)) = true := decide_eq_true (by omega)
    rcases Nat.lt_or_ge i t26.length with hi | hi
    · have b1 : decide ((i : Int) < (t26.length : Int)) = true := decide_eq_true (by omega)
      have bw : IntKind.i64.wrap ((i : Int) + (1 : Int)) = ((i + 1 : Nat) : Int) := w64s (by omega)
      have ih' : ∀ (st0 : den (PSchema)) (t15 : den (LChange)) (t16 : den (.int .i64)) (t17 : den (.int .i64)) (outo6 : den (LChange)), rules_Complete_l7 C_slices_Clone_Change C_Schema_Group C_rules_at C_slices_Insert_Change n LS3 m st0 t15 t16 t17 t26 (t26.length : Int) ((i + 1 : Nat) : Int) outo6 = rules_Complete_g7 C_slices_Clone_Change C_Schema_Group C_rules_at C_slices_Insert_Change  LS3 (t26.drop (i + 1)) st0 t15 t16 t17 outo6 := fun st0 t15 t16 t17 outo6 => ih (i + 1) st0 t15 t16 t17 t26 outo6 (by omega) (by omega) h3
      simp only [b0, b1, bw, Bool.and_true, Bool.true_and, cond_true, Int.toNat_natCast, ih']
      rw [drop_getD hi (dflt (.int .i64))]
      rfl
    · have b1 : decide ((i : Int) < (t26.length : Int)) = false := decide_eq_false (by omega)
      simp only [b1, cond_false]
      rw [List.drop_eq_nil_of_le hi]
      rfl
noncomputable def rules_Complete_F7 (call : Call0) (n : Nat) (r3 : St → Option (denS (⟨.rowv 57 (TChange) (.int .i64), []⟩ : Sig))) : (St → Option (denS (⟨.rowv 57 (TChange) (.int .i64), []⟩ : Sig))) → St → Option (denS (⟨.rowv 57 (TChange) (.int .i64), []⟩ : Sig)) := fun rec => exec cfg call n 17 (cat B17 [1, 1, 0, 1, 0, 0, 1, 1, 0, 0, 1, 1, 1, 0, 0]) (kLoop rec (lk2 17 7 cfg.keep) (kBlock 2 (kBlock 1 (kSq (exec cfg call n 17 (cat B17 [1, 1, 0, 1, 0, 0, 1, 1, 1])) (kLoop r3 (lk2 17 3 cfg.keep) (kBlock 0 (kSq (exec cfg call n 17 (cat B17 [1, 1, 1])) (kretS cfg Go.Proofs.Try.f17 (⟨.rowv 57 (TChange) (.int .i64), []⟩ : Sig)))))))))
theorem rules_Complete_l7_eq (call : Call0) (n : Nat) (r3 : St → Option (denS (⟨.rowv 57 (TChange) (.int .i64), []⟩ : Sig))) : ∀ (m : Nat) (st0 : den (PSchema)) (t15 : den (LChange)) (t16 : den (.int .i64)) (t17 : den (.int .i64)) (t26 : den (Li64)) (t27 : den (.int .i64)) (t28 : den (.int .i64)) (outo6 : den (LChange)), loopN (rules_Complete_F7 call n r3) m (rules_Complete_sh7 st0 t15 t16 t17 t26 t27 t28 outo6) = rules_Complete_l7 (fun (a0 : den (LChange)) => call.i 33 [.s (.val (LChange) a0)] [] (⟨.row 57 (TChange), []⟩ : Sig)) (fun (a0 : den (PSchema)) (a1 : den (.int .i64)) => call.p 34 [.s (.val (PSchema) a0), .s (.val (.int .i64) a1)] (.one (Li64))) (fun (a0 : den (LChange)) (a1 : den (.int .i64)) => call.p 35 [.s (.val (LChange) a0), .s (.val (.int .i64) a1)] (.two (.int .i64) (.bool))) (fun (a1 : den (.int .i64)) (o0 : den (LChange)) (o1 : den (LChange)) => call.i 36 [.s (.arr 95), .s (.val (.int .i64) a1), .s (.arr 96)] [(95, .arr 57 (TChange) o0), (96, .arr 57 (TChange) o1)] (⟨.row 57 (TChange), [.dead, .dead]⟩ : Sig)) n (fun (st0 : den (PSchema)) (t15 : den (LChange)) (t16 : den (.int .i64)) (t17 : den (.int .i64)) (outo6 : den (LChange)) => r3 (rules_Complete_sh3 st0 t15 t16 t17 outo6)) m st0 t15 t16 t17 t26 t27 t28 outo6 := by
  intro m
  induction m with
  | zero => intros; rfl
  | succ m ih =>
    intro st0 t15 t16 t17 t26 t27 t28 outo6
    have h : loopN (rules_Complete_F7 call n r3) (m + 1) (rules_Complete_sh7 st0 t15 t16 t17 t26 t27 t28 outo6) = rules_Complete_s7 (fun (a0 : den (LChange)) => call.i 33 [.s (.val (LChange) a0)] [] (⟨.row 57 (TChange), []⟩ : Sig)) (fun (a0 : den (PSchema)) (a1 : den (.int .i64)) => call.p 34 [.s (.val (PSchema) a0), .s (.val (.int .i64) a1)] (.one (Li64))) (fun (a0 : den (LChange)) (a1 : den (.int .i64)) => call.p 35 [.s (.val (LChange) a0), .s (.val (.int .i64) a1)] (.two (.int .i64) (.bool))) (fun (a1 : den (.int .i64)) (o0 : den (LChange)) (o1 : den (LChange)) => call.i 36 [.s (.arr 95), .s (.val (.int .i64) a1), .s (.arr 96)] [(95, .arr 57 (TChange) o0), (96, .arr 57 (TChange) o1)] (⟨.row 57 (TChange), [.dead, .dead]⟩ : Sig))  (fun (st0 : den (PSchema)) (t15 : den (LChange)) (t16 : den (.int .i64)) (t17 : den (.int .i64)) (outo6 : den (LChange)) => r3 (rules_Complete_sh3 st0 t15 t16 t17 outo6)) (fun (st0 : den (PSchema)) (t15 : den (LChange)) (t16 : den (.int .i64)) (t17 : den (.int .i64)) (t26 : den (Li64)) (t27 : den (.int .i64)) (t28 : den (.int .i64)) (outo6 : den (LChange)) => loopN (rules_Complete_F7 call n r3) m (rules_Complete_sh7 st0 t15 t16 t17 t26 t27 t28 outo6)) st0 t15 t16 t17 t26 t27 t28 outo6 := by kernel_rfl
    have e0 : (fun (st0 : den (PSchema)) (t15 : den (LChange)) (t16 : den (.int .i64)) (t17 : den (.int .i64)) (t26 : den (Li64)) (t27 : den (.int .i64)) (t28 : den (.int .i64)) (outo6 : den (LChange)) => loopN (rules_Complete_F7 call n r3) m (rules_Complete_sh7 st0 t15 t16 t17 t26 t27 t28 outo6)) = (fun (st0 : den (PSchema)) (t15 : den (LChange)) (t16 : den (.int .i64)) (t17 : den (.int .i64)) (t26 : den (Li64)) (t27 : den (.int .i64)) (t28 : den (.int .i64)) (outo6 : den (LChange)) => rules_Complete_l7 (fun (a0 : den (LChange)) => call.i 33 [.s (.val (LChange) a0)] [] (⟨.row 57 (TChange), []⟩ : Sig)) (fun (a0 : den (PSchema)) (a1 : den (.int .i64)) => call.p 34 [.s (.val (PSchema) a0), .s (.val (.int .i64) a1)] (.one (Li64))) (fun (a0 : den (LChange)) (a1 : den (.int .i64)) => call.p 35 [.s (.val (LChange) a0), .s (.val (.int .i64) a1)] (.two (.int .i64) (.bool))) (fun (a1 : den (.int .i64)) (o0 : den (LChange)) (o1 : den (LChange)) => call.i 36 [.s (.arr 95), .s (.val (.int .i64) a1), .s (.arr 96)] [(95, .arr 57 (TChange) o0), (96, .arr 57 (TChange) o1)] (⟨.row 57 (TChange), [.dead, .dead]⟩ : Sig)) n (fun (st0 : den (PSchema)) (t15 : den (LChange)) (t16 : den (.int .i64)) (t17 : den (.int .i64)) (outo6 : den (LChange)) => r3 (rules_Complete_sh3 st0 t15 t16 t17 outo6)) m st0 t15 t16 t17 t26 t27 t28 outo6) := by funext st0 t15 t16 t17 t26 t27 t28 outo6; exact ih st0 t15 t16 t17 t26 t27 t28 outo6
    rw [h, e0]; rfl
noncomputable def rules_Complete_s3 (C_slices_Clone_Change : den (LChange) → Option (denS (⟨.row 57 (TChange), []⟩ : Sig))) (C_Schema_Group : den (PSchema) → den (.int .i64) → Option (denR (.one (Li64)))) (C_rules_at : den (LChange) → den (.int .i64) → Option (denR (.two (.int .i64) (.bool)))) (C_slices_Insert_Change : den (.int .i64) → den (LChange) → den (LChange) → Option (denS (⟨.row 57 (TChange), [.dead, .dead]⟩ : Sig))) (LL7 : den (PSchema) → den (LChange) → den (.int .i64) → den (.int .i64) → den (Li64) → den (.int .i64) → den (.int .i64) → den (LChange) → Option (denS (⟨.rowv 57 (TChange) (.int .i64), []⟩ : Sig)))  (LS3 : den (PSchema) → den (LChange) → den (.int .i64) → den (.int .i64) → den (LChange) → Option (denS (⟨.rowv 57 (TChange) (.int .i64), []⟩ : Sig))) (st0 : den (PSchema)) (t15 : den (LChange)) (t16 : den (.int .i64)) (t17 : den (.int .i64)) (outo6 : den (LChange)) : Option (denS (⟨.rowv 57 (TChange) (.int .i64), []⟩ : Sig)) := (bif (decide (t17 < t16)) then (bif decide (0 ≤ t17) && decide (t17 < (t15.length : Int)) then (bif ((t15.getD (Int.toNat t17) (dflt (TChange))).2).1 then LS3 st0 t15 t16 (IntKind.wrap .i64 (t17 + (1 : Int))) outo6 else ((C_Schema_Group st0 ((t15.getD (Int.toNat t17) (dflt (TChange))).1)).bind fun r2 => LL7 st0 t15 t16 t17 r2 (r2.length : Int) (0 : Int) outo6)) else none) else some ((outo6, (0 : Int)), ()))
noncomputable def rules_Complete_l3 (C_slices_Clone_Change : den (LChange) → Option (denS (⟨.row 57 (TChange), []⟩ : Sig))) (C_Schema_Group : den (PSchema) → den (.int .i64) → Option (denR (.one (Li64)))) (C_rules_at : den (LChange) → den (.int .i64) → Option (denR (.two (.int .i64) (.bool)))) (C_slices_Insert_Change : den (.int .i64) → den (LChange) → den (LChange) → Option (denS (⟨.row 57 (TChange), [.dead, .dead]⟩ : Sig))) (n : Nat)  : Nat → den (PSchema) → den (LChange) → den (.int .i64) → den (.int .i64) → den (LChange) → Option (denS (⟨.rowv 57 (TChange) (.int .i64), []⟩ : Sig))
  | 0, _, _, _, _, _ => none
  | m + 1, st0, t15, t16, t17, outo6 => rules_Complete_s3 C_slices_Clone_Change C_Schema_Group C_rules_at C_slices_Insert_Change (rules_Complete_l7 C_slices_Clone_Change C_Schema_Group C_rules_at C_slices_Insert_Change n (fun (st0 : den (PSchema)) (t15 : den (LChange)) (t16 : den (.int .i64)) (t17 : den (.int .i64)) (outo6 : den (LChange)) => rules_Complete_l3 C_slices_Clone_Change C_Schema_Group C_rules_at C_slices_Insert_Change n  m st0 t15 t16 t17 outo6) n)  (fun (st0 : den (PSchema)) (t15 : den (LChange)) (t16 : den (.int .i64)) (t17 : den (.int .i64)) (outo6 : den (LChange)) => rules_Complete_l3 C_slices_Clone_Change C_Schema_Group C_rules_at C_slices_Insert_Change n  m st0 t15 t16 t17 outo6) st0 t15 t16 t17 outo6
noncomputable def rules_Complete_F3 (call : Call0) (n : Nat)  : (St → Option (denS (⟨.rowv 57 (TChange) (.int .i64), []⟩ : Sig))) → St → Option (denS (⟨.rowv 57 (TChange) (.int .i64), []⟩ : Sig)) := fun rec => exec cfg call n 17 (cat B17 [1, 1, 0, 1, 0, 0]) (kLoop rec (lk2 17 3 cfg.keep) (kBlock 0 (kSq (exec cfg call n 17 (cat B17 [1, 1, 1])) (kretS cfg Go.Proofs.Try.f17 (⟨.rowv 57 (TChange) (.int .i64), []⟩ : Sig)))))
theorem rules_Complete_l3_eq (call : Call0) (n : Nat)  : ∀ (m : Nat) (st0 : den (PSchema)) (t15 : den (LChange)) (t16 : den (.int .i64)) (t17 : den (.int .i64)) (outo6 : den (LChange)), loopN (rules_Complete_F3 call n ) m (rules_Complete_sh3 st0 t15 t16 t17 outo6) = rules_Complete_l3 (fun (a0 : den (LChange)) => call.i 33 [.s (.val (LChange) a0)] [] (⟨.row 57 (TChange), []⟩ : Sig)) (fun (a0 : den (PSchema)) (a1 : den (.int .i64)) => call.p 34 [.s (.val (PSchema) a0), .s (.val (.int .i64) a1)] (.one (Li64))) (fun (a0 : den (LChange)) (a1 : den (.int .i64)) => call.p 35 [.s (.val (LChange) a0), .s (.val (.int .i64) a1)] (.two (.int .i64) (.bool))) (fun (a1 : den (.int .i64)) (o0 : den (LChange)) (o1 : den (LChange)) => call.i 36 [.s (.arr 95), .s (.val (.int .i64) a1), .s (.arr 96)] [(95, .arr 57 (TChange) o0), (96, .arr 57 (TChange) o1)] (⟨.row 57 (TChange), [.dead, .dead]⟩ : Sig)) n  m st0 t15 t16 t17 outo6 := by
  intro m
  induction m with
  | zero => intros; rfl
  | succ m ih =>
    intro st0 t15 t16 t17 outo6
    have h : loopN (rules_Complete_F3 call n ) (m + 1) (rules_Complete_sh3 st0 t15 t16 t17 outo6) = rules_Complete_s3 (fun (a0 : den (LChange)) => call.i 33 [.s (.val (LChange) a0)] [] (⟨.row 57 (TChange), []⟩ : Sig)) (fun (a0 : den (PSchema)) (a1 : den (.int .i64)) => call.p 34 [.s (.val (PSchema) a0), .s (.val (.int .i64) a1)] (.one (Li64))) (fun (a0 : den (LChange)) (a1 : den (.int .i64)) => call.p 35 [.s (.val (LChange) a0), .s (.val (.int .i64) a1)] (.two (.int .i64) (.bool))) (fun (a1 : den (.int .i64)) (o0 : den (LChange)) (o1 : den (LChange)) => call.i 36 [.s (.arr 95), .s (.val (.int .i64) a1), .s (.arr 96)] [(95, .arr 57 (TChange) o0), (96, .arr 57 (TChange) o1)] (⟨.row 57 (TChange), [.dead, .dead]⟩ : Sig)) (fun (st0 : den (PSchema)) (t15 : den (LChange)) (t16 : den (.int .i64)) (t17 : den (.int .i64)) (t26 : den (Li64)) (t27 : den (.int .i64)) (t28 : den (.int .i64)) (outo6 : den (LChange)) => loopN (rules_Complete_F7 call n (loopN (rules_Complete_F3 call n ) m)) n (rules_Complete_sh7 st0 t15 t16 t17 t26 t27 t28 outo6))  (fun (st0 : den (PSchema)) (t15 : den (LChange)) (t16 : den (.int .i64)) (t17 : den (.int .i64)) (outo6 : den (LChange)) => loopN (rules_Complete_F3 call n ) m (rules_Complete_sh3 st0 t15 t16 t17 outo6)) st0 t15 t16 t17 outo6 := by kernel_rfl
    have e7 : (fun (st0 : den (PSchema)) (t15 : den (LChange)) (t16 : den (.int .i64)) (t17 : den (.int .i64)) (t26 : den (Li64)) (t27 : den (.int .i64)) (t28 : den (.int .i64)) (outo6 : den (LChange)) => loopN (rules_Complete_F7 call n (loopN (rules_Complete_F3 call n ) m)) n (rules_Complete_sh7 st0 t15 t16 t17 t26 t27 t28 outo6)) = rules_Complete_l7 (fun (a0 : den (LChange)) => call.i 33 [.s (.val (LChange) a0)] [] (⟨.row 57 (TChange), []⟩ : Sig)) (fun (a0 : den (PSchema)) (a1 : den (.int .i64)) => call.p 34 [.s (.val (PSchema) a0), .s (.val (.int .i64) a1)] (.one (Li64))) (fun (a0 : den (LChange)) (a1 : den (.int .i64)) => call.p 35 [.s (.val (LChange) a0), .s (.val (.int .i64) a1)] (.two (.int .i64) (.bool))) (fun (a1 : den (.int .i64)) (o0 : den (LChange)) (o1 : den (LChange)) => call.i 36 [.s (.arr 95), .s (.val (.int .i64) a1), .s (.arr 96)] [(95, .arr 57 (TChange) o0), (96, .arr 57 (TChange) o1)] (⟨.row 57 (TChange), [.dead, .dead]⟩ : Sig)) n (fun (st0 : den (PSchema)) (t15 : den (LChange)) (t16 : den (.int .i64)) (t17 : den (.int .i64)) (outo6 : den (LChange)) => (loopN (rules_Complete_F3 call n ) m) (rules_Complete_sh3 st0 t15 t16 t17 outo6)) n := by funext st0 t15 t16 t17 t26 t27 t28 outo6; exact rules_Complete_l7_eq call n (loopN (rules_Complete_F3 call n ) m) n st0 t15 t16 t17 t26 t27 t28 outo6
    have e0 : (fun (st0 : den (PSchema)) (t15 : den (LChange)) (t16 : den (.int .i64)) (t17 : den (.int .i64)) (outo6 : den (LChange)) => loopN (rules_Complete_F3 call n ) m (rules_Complete_sh3 st0 t15 t16 t17 outo6)) = (fun (st0 : den (PSchema)) (t15 : den (LChange)) (t16 : den (.int .i64)) (t17 : den (.int .i64)) (outo6 : den (LChange)) => rules_Complete_l3 (fun (a0 : den (LChange)) => call.i 33 [.s (.val (LChange) a0)] [] (⟨.row 57 (TChange), []⟩ : Sig)) (fun (a0 : den (PSchema)) (a1 : den (.int .i64)) => call.p 34 [.s (.val (PSchema) a0), .s (.val (.int .i64) a1)] (.one (Li64))) (fun (a0 : den (LChange)) (a1 : den (.int .i64)) => call.p 35 [.s (.val (LChange) a0), .s (.val (.int .i64) a1)] (.two (.int .i64) (.bool))) (fun (a1 : den (.int .i64)) (o0 : den (LChange)) (o1 : den (LChange)) => call.i 36 [.s (.arr 95), .s (.val (.int .i64) a1), .s (.arr 96)] [(95, .arr 57 (TChange) o0), (96, .arr 57 (TChange) o1)] (⟨.row 57 (TChange), [.dead, .dead]⟩ : Sig)) n  m st0 t15 t16 t17 outo6) := by funext st0 t15 t16 t17 outo6; exact ih st0 t15 t16 t17 outo6
    rw [h, e7, e0]; rfl
noncomputable def rules_Complete_top (C_slices_Clone_Change : den (LChange) → Option (denS (⟨.row 57 (TChange), []⟩ : Sig))) (C_Schema_Group : den (PSchema) → den (.int .i64) → Option (denR (.one (Li64)))) (C_rules_at : den (LChange) → den (.int .i64) → Option (denR (.two (.int .i64) (.bool)))) (C_slices_Insert_Change : den (.int .i64) → den (LChange) → den (LChange) → Option (denS (⟨.row 57 (TChange), [.dead, .dead]⟩ : Sig))) (LL3 : den (PSchema) → den (LChange) → den (.int .i64) → den (.int .i64) → den (LChange) → Option (denS (⟨.rowv 57 (TChange) (.int .i64), []⟩ : Sig))) (a0 : den (PSchema)) (a1 : den (LChange)) : Option (denS (⟨.rowv 57 (TChange) (.int .i64), []⟩ : Sig)) := ((C_slices_Clone_Change a1).bind fun r1 => LL3 a0 a1 (a1.length : Int) (0 : Int) r1.1)
noncomputable def rules_Complete : Nat → den (PSchema) → den (LChange) → Option (denS (⟨.rowv 57 (TChange) (.int .i64), []⟩ : Sig))
  | 0, _, _ => none
  | n + 1, a0, a1 => rules_Complete_top (slices_Clone_Change n) (Schema_Group n) (rules_at n) (slices_Insert_Change n) (rules_Complete_l3 (slices_Clone_Change n) (Schema_Group n) (rules_at n) (slices_Insert_Change n) n n) a0 a1
theorem rules_Complete_eq (n : Nat) (a0 : den (PSchema)) (a1 : den (LChange)) : (acalls cfg intr intrI n).i 17 [.s (.val (PSchema) a0), .s (.val (LChange) a1)] [] (⟨.rowv 57 (TChange) (.int .i64), []⟩ : Sig) = rules_Complete n a0 a1 := by
  cases n with
  | zero => rfl
  | succ n =>
    have h : (acalls cfg intr intrI (n + 1)).i 17 [.s (.val (PSchema) a0), .s (.val (LChange) a1)] [] (⟨.rowv 57 (TChange) (.int .i64), []⟩ : Sig) = rules_Complete_top (fun (a0 : den (LChange)) => (acalls cfg intr intrI n).i 33 [.s (.val (LChange) a0)] [] (⟨.row 57 (TChange), []⟩ : Sig)) (fun (a0 : den (PSchema)) (a1 : den (.int .i64)) => (acalls cfg intr intrI n).p 34 [.s (.val (PSchema) a0), .s (.val (.int .i64) a1)] (.one (Li64))) (fun (a0 : den (LChange)) (a1 : den (.int .i64)) => (acalls cfg intr intrI n).p 35 [.s (.val (LChange) a0), .s (.val (.int .i64) a1)] (.two (.int .i64) (.bool))) (fun (a1 : den (.int .i64)) (o0 : den (LChange)) (o1 : den (LChange)) => (acalls cfg intr intrI n).i 36 [.s (.arr 95), .s (.val (.int .i64) a1), .s (.arr 96)] [(95, .arr 57 (TChange) o0), (96, .arr 57 (TChange) o1)] (⟨.row 57 (TChange), [.dead, .dead]⟩ : Sig)) (fun (st0 : den (PSchema)) (t15 : den (LChange)) (t16 : den (.int .i64)) (t17 : den (.int .i64)) (outo6 : den (LChange)) => loopN (rules_Complete_F3 (acalls cfg intr intrI n) n) n (rules_Complete_sh3 st0 t15 t16 t17 outo6)) a0 a1 := by kernel_rfl
    have e3 : (fun (st0 : den (PSchema)) (t15 : den (LChange)) (t16 : den (.int .i64)) (t17 : den (.int .i64)) (outo6 : den (LChange)) => loopN (rules_Complete_F3 (acalls cfg intr intrI n) n) n (rules_Complete_sh3 st0 t15 t16 t17 outo6)) = rules_Complete_l3 (fun (a0 : den (LChange)) => (acalls cfg intr intrI n).i 33 [.s (.val (LChange) a0)] [] (⟨.row 57 (TChange), []⟩ : Sig)) (fun (a0 : den (PSchema)) (a1 : den (.int .i64)) => (acalls cfg intr intrI n).p 34 [.s (.val (PSchema) a0), .s (.val (.int .i64) a1)] (.one (Li64))) (fun (a0 : den (LChange)) (a1 : den (.int .i64)) => (acalls cfg intr intrI n).p 35 [.s (.val (LChange) a0), .s (.val (.int .i64) a1)] (.two (.int .i64) (.bool))) (fun (a1 : den (.int .i64)) (o0 : den (LChange)) (o1 : den (LChange)) => (acalls cfg intr intrI n).i 36 [.s (.arr 95), .s (.val (.int .i64) a1), .s (.arr 96)] [(95, .arr 57 (TChange) o0), (96, .arr 57 (TChange) o1)] (⟨.row 57 (TChange), [.dead, .dead]⟩ : Sig)) n n := by funext st0 t15 t16 t17 outo6; exact rules_Complete_l3_eq (acalls cfg intr intrI n) n n st0 t15 t16 t17 outo6
    have c_slices_Clone_Change : (fun (a0 : den (LChange)) => (acalls cfg intr intrI n).i 33 [.s (.val (LChange) a0)] [] (⟨.row 57 (TChange), []⟩ : Sig)) = slices_Clone_Change n := by funext a0; exact slices_Clone_Change_eq n a0
    have c_Schema_Group : (fun (a0 : den (PSchema)) (a1 : den (.int .i64)) => (acalls cfg intr intrI n).p 34 [.s (.val (PSchema) a0), .s (.val (.int .i64) a1)] (.one (Li64))) = Schema_Group n := by funext a0 a1; exact Schema_Group_eq n a0 a1
    have c_rules_at : (fun (a0 : den (LChange)) (a1 : den (.int .i64)) => (acalls cfg intr intrI n).p 35 [.s (.val (LChange) a0), .s (.val (.int .i64) a1)] (.two (.int .i64) (.bool))) = rules_at n := by funext a0 a1; exact rules_at_eq n a0 a1
    have c_slices_Insert_Change : (fun (a1 : den (.int .i64)) (o0 : den (LChange)) (o1 : den (LChange)) => (acalls cfg intr intrI n).i 36 [.s (.arr 95), .s (.val (.int .i64) a1), .s (.arr 96)] [(95, .arr 57 (TChange) o0), (96, .arr 57 (TChange) o1)] (⟨.row 57 (TChange), [.dead, .dead]⟩ : Sig)) = slices_Insert_Change n := by funext a1 o0 o1; exact slices_Insert_Change_eq n a1 o0 o1
    rw [h, e3, c_slices_Clone_Change, c_Schema_Group, c_rules_at, c_slices_Insert_Change]; rfl

noncomputable def attrs_find_1_top (C_cmp_Compare_int : den (.int .i64) → den (.int .i64) → Option (denR (.one (.int .i64))))  (a0 : den (TAttr)) (a1 : den (.int .i64)) : Option (denR (.one (.int .i64))) := ((C_cmp_Compare_int a0.1 a1).bind fun r1 => some r1)
noncomputable def attrs_find_1 : Nat → den (TAttr) → den (.int .i64) → Option (denR (.one (.int .i64)))
  | 0, _, _ => none
  | n + 1, a0, a1 => attrs_find_1_top (cmp_Compare_int n)  a0 a1
theorem attrs_find_1_eq (n : Nat) (a0 : den (TAttr)) (a1 : den (.int .i64)) : (acalls cfg intr intrI n).p 73 [.s (.val (TAttr) a0), .s (.val (.int .i64) a1)] (.one (.int .i64)) = attrs_find_1 n a0 a1 := by
  cases n with
  | zero => rfl
  | succ n =>
    have h : (acalls cfg intr intrI (n + 1)).p 73 [.s (.val (TAttr) a0), .s (.val (.int .i64) a1)] (.one (.int .i64)) = attrs_find_1_top (fun (a0 : den (.int .i64)) (a1 : den (.int .i64)) => (acalls cfg intr intrI n).p 29 [.s (.val (.int .i64) a0), .s (.val (.int .i64) a1)] (.one (.int .i64)))  a0 a1 := by kernel_rfl
    have c_cmp_Compare_int : (fun (a0 : den (.int .i64)) (a1 : den (.int .i64)) => (acalls cfg intr intrI n).p 29 [.s (.val (.int .i64) a0), .s (.val (.int .i64) a1)] (.one (.int .i64))) = cmp_Compare_int n := by funext a0 a1; exact cmp_Compare_int_eq n a0 a1
    rw [h, c_cmp_Compare_int]; rfl

noncomputable def B72 : Code := (Go.Proofs.Try.f72.body).getD .skip
noncomputable def slices_BinarySearchFunc_Attr_int__attrs_find_1_sh3 (xt0 : den (LAttr)) (targett1 : den (.int .i64)) (nt8 : den (.int .i64)) (it9 : den (.int .i64)) (jt10 : den (.int .i64)) : St := ⟨[.s (.val (LAttr) xt0), .s (.val (.int .i64) targett1), .fn 73 [], U, U, U, U, U, .s (.val (.int .i64) nt8), .s (.val (.int .i64) it9), .s (.val (.int .i64) jt10), U, U, U, U, U, U, U, U, U, U, U, U, U, U, U, U, U, U, U, U, U, U, U, U, U, U, U, U, U, U, U, U, U, U, U, U, U, U], []⟩
noncomputable def slices_BinarySearchFunc_Attr_int__attrs_find_1_s3 (C_attrs_find_1 : den (TAttr) → den (.int .i64) → Option (denR (.one (.int .i64))))   (LS3 : den (LAttr) → den (.int .i64) → den (.int .i64) → den (.int .i64) → den (.int .i64) → Option (denR (.two (.int .i64) (.bool)))) (xt0 : den (LAttr)) (targett1 : den (.int .i64)) (nt8 : den (.int .i64)) (it9 : den (.int .i64)) (jt10 : den (.int .i64)) : Option (denR (.two (.int .i64) (.bool))) := (bif (decide (it9 < jt10)) then (bif decide (0 ≤ (IntKind.wrap .i64 (Int.fdiv (IntKind.wrap .u64 (IntKind.wrap .i64 (it9 + jt10))) (2 ^ (min (Int.toNat (1 : Int)) (IntKind.bits .u64)))))) && decide ((IntKind.wrap .i64 (Int.fdiv (IntKind.wrap .u64 (IntKind.wrap .i64 (it9 + jt10))) (2 ^ (min (Int.toNat (1 : Int)) (IntKind.bits .u64))))) < (xt0.length : Int)) then ((C_attrs_find_1 (xt0.getD (Int.toNat (IntKind.wrap .i64 (Int.fdiv (IntKind.wrap .u64 (IntKind.wrap .i64 (it9 + jt10))) (2 ^ (min (Int.toNat (1 : Int)) (IntKind.bits .u64)))))) (dflt (TAttr))) targett1).bind fun r1 => (bif (decide (r1 < (0 : Int))) then LS3 xt0 targett1 nt8 (IntKind.wrap .i64 ((IntKind.wrap .i64 (Int.fdiv (IntKind.wrap .u64 (IntKind.wrap .i64 (it9 + jt10))) (2 ^ (min (Int.toNat (1 : Int)) (IntKind.bits .u64))))) + (1 : Int))) jt10 else LS3 xt0 targett1 nt8 it9 (IntKind.wrap .i64 (Int.fdiv (IntKind.wrap .u64 (IntKind.wrap .i64 (it9 + jt10))) (2 ^ (min (Int.toNat (1 : Int)) (IntKind.bits .u64))))))) else none) else (bif (decide (it9 < nt8)) then (bif decide (0 ≤ it9) && decide (it9 < (xt0.length : Int)) then ((C_attrs_find_1 (xt0.getD (Int.toNat it9) (dflt (TAttr))) targett1).bind fun r2 => some (it9, (decide (r2 = (0 : Int))))) else none) else some (it9, false)))
noncomputable def slices_BinarySearchFunc_Attr_int__attrs_find_1_l3 (C_attrs_find_1 : den (TAttr) → den (.int .i64) → Option (denR (.one (.int .i64)))) (n : Nat)  : Nat → den (LAttr) → den (.int .i64) → den (.int .i64) → den (.int .i64) → den (.int .i64) → Option (denR (.two (.int .i64) (.bool)))
  | 0, _, _, _, _, _ => none
  | m + 1, xt0, targett1, nt8, it9, jt10 => slices_BinarySearchFunc_Attr_int__attrs_find_1_s3 C_attrs_find_1   (fun (xt0 : den (LAttr)) (targett1 : den (.int .i64)) (nt8 : den (.int .i64)) (it9 : den (.int .i64)) (jt10 : den (.int .i64)) => slices_BinarySearchFunc_Attr_int__attrs_find_1_l3 C_attrs_find_1 n  m xt0 targett1 nt8 it9 jt10) xt0 targett1 nt8 it9 jt10
noncomputable def slices_BinarySearchFunc_Attr_int__attrs_find_1_F3 (call : Call0) (n : Nat)  : (St → Option (denR (.two (.int .i64) (.bool)))) → St → Option (denR (.two (.int .i64) (.bool))) := fun rec => exec cfg call n 72 (cat B72 [1, 1, 1, 0, 0, 0]) (kLoop rec (lk2 72 3 cfg.keep) (kBlock 0 (kSq (exec cfg call n 72 (cat B72 [1, 1, 1, 1])) (kret cfg Go.Proofs.Try.f72 (.two (.int .i64) (.bool))))))
theorem slices_BinarySearchFunc_Attr_int__attrs_find_1_l3_eq (call : Call0) (n : Nat)  : ∀ (m : Nat) (xt0 : den (LAttr)) (targett1 : den (.int .i64)) (nt8 : den (.int .i64)) (it9 : den (.int .i64)) (jt10 : den (.int .i64)), loopN (slices_BinarySearchFunc_Attr_int__attrs_find_1_F3 call n ) m (slices_BinarySearchFunc_Attr_int__attrs_find_1_sh3 xt0 targett1 nt8 it9 jt10) = slices_BinarySearchFunc_Attr_int__attrs_find_1_l3 (fun (a0 : den (TAttr)) (a1 : den (.int .i64)) => call.p 73 [.s (.val (TAttr) a0), .s (.val (.int .i64) a1)] (.one (.int .i64))) n  m xt0 targett1 nt8 it9 jt10 := by
  intro m
  induction m with
  | zero => intros; rfl
  | succ m ih =>
    intro xt0 targett1 nt8 it9 jt10
    have h : loopN (slices_BinarySearchFunc_Attr_int__attrs_find_1_F3 call n ) (m + 1) (slices_BinarySearchFunc_Attr_int__attrs_find_1_sh3 xt0 targett1 nt8 it9 jt10) = slices_BinarySearchFunc_Attr_int__attrs_find_1_s3 (fun (a0 : den (TAttr)) (a1 : den (.int .i64)) => call.p 73 [.s (.val (TAttr) a0), .s (.val (.int .i64) a1)] (.one (.int .i64)))   (fun (xt0 : den (LAttr)) (targett1 : den (.int .i64)) (nt8 : den (.int .i64)) (it9 : den (.int .i64)) (jt10 : den (.int .i64)) => loopN (slices_BinarySearchFunc_Attr_int__attrs_find_1_F3 call n ) m (slices_BinarySearchFunc_Attr_int__attrs_find_1_sh3 xt0 targett1 nt8 it9 jt10)) xt0 targett1 nt8 it9 jt10 := by kernel_rfl
    have e0 : (fun (xt0 : den (LAttr)) (targett1 : den (.int .i64)) (nt8 : den (.int .i64)) (it9 : den (.int .i64)) (jt10 : den (.int .i64)) => loopN (slices_BinarySearchFunc_Attr_int__attrs_find_1_F3 call n ) m (slices_BinarySearchFunc_Attr_int__attrs_find_1_sh3 xt0 targett1 nt8 it9 jt10)) = (fun (xt0 : den (LAttr)) (targett1 : den (.int .i64)) (nt8 : den (.int .i64)) (it9 : den (.int .i64)) (jt10 : den (.int .i64)) => slices_BinarySearchFunc_Attr_int__attrs_find_1_l3 (fun (a0 : den (TAttr)) (a1 : den (.int .i64)) => call.p 73 [.s (.val (TAttr) a0), .s (.val (.int .i64) a1)] (.one (.int .i64))) n  m xt0 targett1 nt8 it9 jt10) := by funext xt0 targett1 nt8 it9 jt10; exact ih xt0 targett1 nt8 it9 jt10
    rw [h, e0]; rfl
noncomputable def slices_BinarySearchFunc_Attr_int__attrs_find_1_top (C_attrs_find_1 : den (TAttr) → den (.int .i64) → Option (denR (.one (.int .i64)))) (LL3 : den (LAttr) → den (.int .i64) → den (.int .i64) → den (.int .i64) → den (.int .i64) → Option (denR (.two (.int .i64) (.bool)))) (a0 : den (LAttr)) (a1 : den (.int .i64)) : Option (denR (.two (.int .i64) (.bool))) := LL3 a0 a1 (a0.length : Int) (0 : Int) (a0.length : Int)
noncomputable def slices_BinarySearchFunc_Attr_int__attrs_find_1 : Nat → den (LAttr) → den (.int .i64) → Option (denR (.two (.int .i64) (.bool)))
  | 0, _, _ => none
  | n + 1, a0, a1 => slices_BinarySearchFunc_Attr_int__attrs_find_1_top (attrs_find_1 n) (slices_BinarySearchFunc_Attr_int__attrs_find_1_l3 (attrs_find_1 n) n n) a0 a1
theorem slices_BinarySearchFunc_Attr_int__attrs_find_1_eq (n : Nat) (a0 : den (LAttr)) (a1 : den (.int .i64)) : (acalls cfg intr intrI n).p 72 [.s (.val (LAttr) a0), .s (.val (.int .i64) a1), .fn 73 []] (.two (.int .i64) (.bool)) = slices_BinarySearchFunc_Attr_int__attrs_find_1 n a0 a1 := by
  cases n with
  | zero => rfl
  | succ n =>
    have h : (acalls cfg intr intrI (n + 1)).p 72 [.s (.val (LAttr) a0), .s (.val (.int .i64) a1), .fn 73 []] (.two (.int .i64) (.bool)) = slices_BinarySearchFunc_Attr_int__attrs_find_1_top (fun (a0 : den (TAttr)) (a1 : den (.int .i64)) => (acalls cfg intr intrI n).p 73 [.s (.val (TAttr) a0), .s (.val (.int .i64) a1)] (.one (.int .i64))) (fun (xt0 : den (LAttr)) (targett1 : den (.int .i64)) (nt8 : den (.int .i64)) (it9 : den (.int .i64)) (jt10 : den (.int .i64)) => loopN (slices_BinarySearchFunc_Attr_int__attrs_find_1_F3 (acalls cfg intr intrI n) n) n (slices_BinarySearchFunc_Attr_int__attrs_find_1_sh3 xt0 targett1 nt8 it9 jt10)) a0 a1 := by kernel_rfl
    have e3 : (fun (xt0 : den (LAttr)) (targett1 : den (.int .i64)) (nt8 : den (.int .i64)) (it9 : den (.int .i64)) (jt10 : den (.int .i64)) => loopN (slices_BinarySearchFunc_Attr_int__attrs_find_1_F3 (acalls cfg intr intrI n) n) n (slices_BinarySearchFunc_Attr_int__attrs_find_1_sh3 xt0 targett1 nt8 it9 jt10)) = slices_BinarySearchFunc_Attr_int__attrs_find_1_l3 (fun (a0 : den (TAttr)) (a1 : den (.int .i64)) => (acalls cfg intr intrI n).p 73 [.s (.val (TAttr) a0), .s (.val (.int .i64) a1)] (.one (.int .i64))) n n := by funext xt0 targett1 nt8 it9 jt10; exact slices_BinarySearchFunc_Attr_int__attrs_find_1_l3_eq (acalls cfg intr intrI n) n n xt0 targett1 nt8 it9 jt10
    have c_attrs_find_1 : (fun (a0 : den (TAttr)) (a1 : den (.int .i64)) => (acalls cfg intr intrI n).p 73 [.s (.val (TAttr) a0), .s (.val (.int .i64) a1)] (.one (.int .i64))) = attrs_find_1 n := by funext a0 a1; exact attrs_find_1_eq n a0 a1
    rw [h, e3, c_attrs_find_1]; rfl

noncomputable def attrs_find_top (C_slices_BinarySearchFunc_Attr_int__attrs_find_1 : den (LAttr) → den (.int .i64) → Option (denR (.two (.int .i64) (.bool))))  (a0 : den (LAttr)) (a1 : den (.int .i64)) : Option (denR (.two (.int .i64) (.bool))) := ((C_slices_BinarySearchFunc_Attr_int__attrs_find_1 a0 a1).bind fun r1 => some (r1.1, r1.2))
noncomputable def attrs_find : Nat → den (LAttr) → den (.int .i64) → Option (denR (.two (.int .i64) (.bool)))
  | 0, _, _ => none
  | n + 1, a0, a1 => attrs_find_top (slices_BinarySearchFunc_Attr_int__attrs_find_1 n)  a0 a1
theorem attrs_find_eq (n : Nat) (a0 : den (LAttr)) (a1 : den (.int .i64)) : (acalls cfg intr intrI n).p 52 [.s (.val (LAttr) a0), .s (.val (.int .i64) a1)] (.two (.int .i64) (.bool)) = attrs_find n a0 a1 := by
  cases n with
  | zero => rfl
  | succ n =>
    have h : (acalls cfg intr intrI (n + 1)).p 52 [.s (.val (LAttr) a0), .s (.val (.int .i64) a1)] (.two (.int .i64) (.bool)) = attrs_find_top (fun (a0 : den (LAttr)) (a1 : den (.int .i64)) => (acalls cfg intr intrI n).p 72 [.s (.val (LAttr) a0), .s (.val (.int .i64) a1), .fn 73 []] (.two (.int .i64) (.bool)))  a0 a1 := by kernel_rfl
    have c_slices_BinarySearchFunc_Attr_int__attrs_find_1 : (fun (a0 : den (LAttr)) (a1 : den (.int .i64)) => (acalls cfg intr intrI n).p 72 [.s (.val (LAttr) a0), .s (.val (.int .i64) a1), .fn 73 []] (.two (.int .i64) (.bool))) = slices_BinarySearchFunc_Attr_int__attrs_find_1 n := by funext a0 a1; exact slices_BinarySearchFunc_Attr_int__attrs_find_1_eq n a0 a1
    rw [h, c_slices_BinarySearchFunc_Attr_int__attrs_find_1]; rfl

noncomputable def attrs_Get_top (C_attrs_find : den (LAttr) → den (.int .i64) → Option (denR (.two (.int .i64) (.bool))))  (a0 : den (LAttr)) (a1 : den (.int .i64)) : Option (denR (.two (TValue) (.bool))) := ((C_attrs_find a0 a1).bind fun r1 => (bif (!r1.2) then some (((0 : Int), ((0 : Int), ((0 : Int), ((⟨#[]⟩ : ByteArray), ())))), false) else (bif decide (0 ≤ r1.1) && decide (r1.1 < (a0.length : Int)) then some (((a0.getD (Int.toNat r1.1) (dflt (TAttr))).2).1, true) else none)))
noncomputable def attrs_Get : Nat → den (LAttr) → den (.int .i64) → Option (denR (.two (TValue) (.bool)))
  | 0, _, _ => none
  | n + 1, a0, a1 => attrs_Get_top (attrs_find n)  a0 a1
theorem attrs_Get_eq (n : Nat) (a0 : den (LAttr)) (a1 : den (.int .i64)) : (acalls cfg intr intrI n).p 30 [.s (.val (LAttr) a0), .s (.val (.int .i64) a1)] (.two (TValue) (.bool)) = attrs_Get n a0 a1 := by
  cases n with
  | zero => rfl
  | succ n =>
    have h : (acalls cfg intr intrI (n + 1)).p 30 [.s (.val (LAttr) a0), .s (.val (.int .i64) a1)] (.two (TValue) (.bool)) = attrs_Get_top (fun (a0 : den (LAttr)) (a1 : den (.int .i64)) => (acalls cfg intr intrI n).p 52 [.s (.val (LAttr) a0), .s (.val (.int .i64) a1)] (.two (.int .i64) (.bool)))  a0 a1 := by kernel_rfl
    have c_attrs_find : (fun (a0 : den (LAttr)) (a1 : den (.int .i64)) => (acalls cfg intr intrI n).p 52 [.s (.val (LAttr) a0), .s (.val (.int .i64) a1)] (.two (.int .i64) (.bool))) = attrs_find n := by funext a0 a1; exact attrs_find_eq n a0 a1
    rw [h, c_attrs_find]; rfl

noncomputable def rules_hold_top   (a0 : den (.int .i64)) (a1 : den (.int .i64)) (a2 : den (.int .i64)) : Option (denR (.one (.int .i64))) := some (bif decide (a2 < (bif decide (a0 < a1) then a1 else a0)) then a2 else (bif decide (a0 < a1) then a1 else a0))
noncomputable def rules_hold : Nat → den (.int .i64) → den (.int .i64) → den (.int .i64) → Option (denR (.one (.int .i64)))
  | 0, _, _, _ => none
  | n + 1, a0, a1, a2 => rules_hold_top   a0 a1 a2
theorem rules_hold_eq (n : Nat) (a0 : den (.int .i64)) (a1 : den (.int .i64)) (a2 : den (.int .i64)) : (acalls cfg intr intrI n).p 31 [.s (.val (.int .i64) a0), .s (.val (.int .i64) a1), .s (.val (.int .i64) a2)] (.one (.int .i64)) = rules_hold n a0 a1 a2 := by
  cases n with
  | zero => rfl
  | succ n =>
    have h : (acalls cfg intr intrI (n + 1)).p 31 [.s (.val (.int .i64) a0), .s (.val (.int .i64) a1), .s (.val (.int .i64) a2)] (.one (.int .i64)) = rules_hold_top   a0 a1 a2 := by kernel_rfl
    rw [h]; rfl

noncomputable def B12 : Code := (Go.Proofs.Try.f12.body).getD .skip
noncomputable def patch_Apply_sh6 (t0 : den (LAttr)) (t6 : den (.int .i64)) (t9 : den (LChange)) (t10 : den (.int .i64)) (t11 : den (.int .i64)) (o5 : den (LAttr)) (o8 : den (TChange)) : St := ⟨[.s (.val (LAttr) t0), U, U, U, U, .s (.arr 5), .s (.val (.int .i64) t6), U, .s (.ref 8 []), .s (.val (LChange) t9), .s (.val (.int .i64) t10), .s (.val (.int .i64) t11), U, U, U, U, U, U, U, U, U, U, U, U, U, U, U, U, U, U, U, U, U, U, U, U, U, U, U, U, U, U, U, U, U, U, U, U, U, U, U, U, U, U, U, U, U, U, U, U, U, U, U, U, U, U, U, U, U, U, U, U, U, U, U, U], [(5, .arr 60 (TAttr) o5), (8, .box (TChange) o8)]⟩
noncomputable def patch_Apply_sh4 (t0 : den (LAttr)) (t6 : den (.int .i64)) (t9 : den (LChange)) (t10 : den (.int .i64)) (t11 : den (.int .i64)) (o5 : den (LAttr)) : St := ⟨[.s (.val (LAttr) t0), U, U, U, U, .s (.arr 5), .s (.val (.int .i64) t6), U, U, .s (.val (LChange) t9), .s (.val (.int .i64) t10), .s (.val (.int .i64) t11), U, U, U, U, U, U, U, U, U, U, U, U, U, U, U, U, U, U, U, U, U, U, U, U, U, U, U, U, U, U, U, U, U, U, U, U, U, U, U, U, U, U, U, U, U, U, U, U, U, U, U, U, U, U, U, U, U, U, U, U, U, U, U, U], [(5, .arr 60 (TAttr) o5)]⟩
noncomputable def patch_Apply_s6   (LS4 : den (LAttr) → den (.int .i64) → den (LChange) → den (.int .i64) → den (.int .i64) → den (LAttr) → Option (denR (.one (LAttr)))) (LS6 : den (LAttr) → den (.int .i64) → den (LChange) → den (.int .i64) → den (.int .i64) → den (LAttr) → den (TChange) → Option (denR (.one (LAttr)))) (t0 : den (LAttr)) (t6 : den (.int .i64)) (t9 : den (LChange)) (t10 : den (.int .i64)) (t11 : den (.int .i64)) (o5 : den (LAttr)) (o8 : den (TChange)) : Option (denR (.one (LAttr))) := (bif (decide (t6 < (t0.length : Int))) then (bif decide (0 ≤ t6) && decide (t6 < (t0.length : Int)) then (bif (decide ((t0.getD (Int.toNat t6) (dflt (TAttr))).1 < o8.1)) then (bif decide (0 ≤ t6) && decide (t6 < (t0.length : Int)) then (bif decide ((o5.length + ([(t0.getD (Int.toNat t6) (dflt (TAttr)))] : List (den (TAttr))).length) * 48 ≤ 140737488355328) then LS6 t0 (IntKind.wrap .i64 (t6 + (1 : Int))) t9 t10 t11 (o5 ++ ([(t0.getD (Int.toNat t6) (dflt (TAttr)))] : List (den (TAttr)))) o8 else none) else none) else (bif decide (0 ≤ t6) && decide (t6 < (t0.length : Int)) then (bif (decide ((t0.getD (Int.toNat t6) (dflt (TAttr))).1 = o8.1)) then (bif (!o8.2.1) then (bif decide ((o5.length + ([(o8.1, (o8.2.2.1, ()))] : List (den (TAttr))).length) * 48 ≤ 140737488355328) then LS4 t0 (IntKind.wrap .i64 (t6 + (1 : Int))) t9 t10 (IntKind.wrap .i64 (t11 + (1 : Int))) (o5 ++ ([(o8.1, (o8.2.2.1, ()))] : List (den (TAttr)))) else none) else LS4 t0 (IntKind.wrap .i64 (t6 + (1 : Int))) t9 t10 (IntKind.wrap .i64 (t11 + (1 : Int))) o5) else (bif (!o8.2.1) then (bif decide ((o5.length + ([(o8.1, (o8.2.2.1, ()))] : List (den (TAttr))).length) * 48 ≤ 140737488355328) then LS4 t0 t6 t9 t10 (IntKind.wrap .i64 (t11 + (1 : Int))) (o5 ++ ([(o8.1, (o8.2.2.1, ()))] : List (den (TAttr)))) else none) else LS4 t0 t6 t9 t10 (IntKind.wrap .i64 (t11 + (1 : Int))) o5)) else none)) else none) else (bif (!o8.2.1) then (bif decide ((o5.length + ([(o8.1, (o8.2.2.1, ()))] : List (den (TAttr))).length) * 48 ≤ 140737488355328) then LS4 t0 t6 t9 t10 (IntKind.wrap .i64 (t11 + (1 : Int))) (o5 ++ ([(o8.1, (o8.2.2.1, ()))] : List (den (TAttr)))) else none) else LS4 t0 t6 t9 t10 (IntKind.wrap .i64 (t11 + (1 : Int))) o5))
noncomputable def patch_Apply_l6  (n : Nat) (LS4 : den (LAttr) → den (.int .i64) → den (LChange) → den (.int .i64) → den (.int .i64) → den (LAttr) → Option (denR (.one (LAttr)))) : Nat → den (LAttr) → den (.int .i64) → den (LChange) → den (.int .i64) → den (.int .i64) → den (LAttr) → den (TChange) → Option (denR (.one (LAttr)))
  | 0, _, _, _, _, _, _, _ => none
  | m + 1, t0, t6, t9, t10, t11, o5, o8 => patch_Apply_s6   LS4 (fun (t0 : den (LAttr)) (t6 : den (.int .i64)) (t9 : den (LChange)) (t10 : den (.int .i64)) (t11 : den (.int .i64)) (o5 : den (LAttr)) (o8 : den (TChange)) => patch_Apply_l6  n LS4 m t0 t6 t9 t10 t11 o5 o8) t0 t6 t9 t10 t11 o5 o8
noncomputable def patch_Apply_g6   (LS4 : den (LAttr) → den (.int .i64) → den (LChange) → den (.int .i64) → den (.int .i64) → den (LAttr) → Option (denR (.one (LAttr)))) : List (den (TAttr)) → den (LAttr) → den (.int .i64) → den (LChange) → den (.int .i64) → den (.int .i64) → den (LAttr) → den (TChange) → Option (denR (.one (LAttr)))
  | [], t0, t6, t9, t10, t11, o5, o8 => (bif (!o8.2.1) then (bif decide ((o5.length + ([(o8.1, (o8.2.2.1, ()))] : List (den (TAttr))).length) * 48 ≤ 140737488355328) then LS4 t0 t6 t9 t10 (IntKind.wrap .i64 (t11 + (1 : Int))) (o5 ++ ([(o8.1, (o8.2.2.1, ()))] : List (den (TAttr)))) else none) else LS4 t0 t6 t9 t10 (IntKind.wrap .i64 (t11 + (1 : Int))) o5)
  | x :: r, t0, t6, t9, t10, t11, o5, o8 => (bif (decide (x.1 < o8.1)) then (bif decide ((o5.length + ([x] : List (den (TAttr))).length) * 48 ≤ 140737488355328) then patch_Apply_g6   LS4 r t0 (t6 + (1 : Int)) t9 t10 t11 (o5 ++ ([x] : List (den (TAttr)))) o8 else none) else (bif (decide (x.1 = o8.1)) then (bif (!o8.2.1) then (bif decide ((o5.length + ([(o8.1, (o8.2.2.1, ()))] : List (den (TAttr))).length) * 48 ≤ 140737488355328) then LS4 t0 (t6 + (1 : Int)) t9 t10 (IntKind.wrap .i64 (t11 + (1 : Int))) (o5 ++ ([(o8.1, (o8.2.2.1, ()))] : List (den (TAttr)))) else none) else LS4 t0 (t6 + (1 : Int)) t9 t10 (IntKind.wrap .i64 (t11 + (1 : Int))) o5) else (bif (!o8.2.1) then (bif decide ((o5.length + ([(o8.1, (o8.2.2.1, ()))] : List (den (TAttr))).length) * 48 ≤ 140737488355328) then LS4 t0 t6 t9 t10 (IntKind.wrap .i64 (t11 + (1 : Int))) (o5 ++ ([(o8.1, (o8.2.2.1, ()))] : List (den (TAttr)))) else none) else LS4 t0 t6 t9 t10 (IntKind.wrap .i64 (t11 + (1 : Int))) o5)))
theorem patch_Apply_l6_list  (n : Nat) (LS4 : den (LAttr) → den (.int .i64) → den (LChange) → den (.int .i64) → den (.int .i64) → den (LAttr) → Option (denR (.one (LAttr)))) : ∀ (m i : Nat) (t0 : den (LAttr)) (t9 : den (LChange)) (t10 : den (.int .i64)) (t11 : den (.int .i64)) (o5 : den (LAttr)) (o8 : den (TChange)), t0.length - i < m → i ≤ t0.length → t0.length < 4611686018427387904 → patch_Apply_l6  n LS4 m t0 (i : Int) t9 t10 t11 o5 o8 = patch_Apply_g6   LS4 (t0.drop i) t0 (i : Int) t9 t10 t11 o5 o8 := by
  intro m
  induction m with
  | zero => intro i t0 t9 t10 t11 o5 o8 h1; omega
  | succ m ih =>
    intro i t0 t9 t10 t11 o5 o8 h1 h2 h3
    show patch_Apply_s6   LS4 (fun (t0 : den (LAttr)) (t6 : den (.int .i64)) (t9 : den (LChange)) (t10 : den (.int .i64)) (t11 : den (.int .i64)) (o5 : den (LAttr)) (o8 : den (TChange)) => patch_Apply_l6  n LS4 m t0 t6 t9 t10 t11 o5 o8) t0 (i : Int) t9 t10 t11 o5 o8 = _
    unfold patch_Apply_s6
    have b0 : decide ((0 : Int) ≤ (i : Int)) = true := decide_eq_true (by omega)
    rcases Nat.lt_or_ge i t0.length with hi | hi
    · have b1 : decide ((i : Int) < (t0.length : Int)) = true := decide_eq_true (by omega)
      have bw : IntKind.i64.wrap ((i : Int) + (1 : Int)) = ((i + 1 : Nat) : Int) := w64s (by omega)
      have ih' : ∀ (t9 : den (LChange)) (t10 : den (.int .i64)) (t11 : den (.int .i64)) (o5 : den (LAttr)) (o8 : den (TChange)), patch_Apply_l6  n LS4 m t0 ((i + 1 : Nat) : Int) t9 t10 t11 o5 o8 = patch_Apply_g6   LS4 (t0.drop (i + 1)) t0 ((i + 1 : Nat) : Int) t9 t10 t11 o5 o8 := fun t9 t10 t11 o5 o8 => ih (i + 1) t0 t9 t10 t11 o5 o8 (by omega) (by omega) h3
      simp only [b0, b1, bw, Bool.and_true, Bool.true_and, cond_true, Int.toNat_natCast, ih']
      rw [drop_getD hi (dflt (TAttr))]
      rfl
    · have b1 : decide ((i : Int) < (t0.length : Int)) = false := decide_eq_false (by omega)
      simp only [b1, cond_false]
      rw [List.drop_eq_nil_of_le hi]
      rfl
noncomputable def patch_Apply_F6 (call : Call0) (n : Nat) (r4 : St → Option (denR (.one (LAttr)))) : (St → Option (denR (.one (LAttr)))) → St → Option (denR (.one (LAttr))) := fun rec => exec cfg call n 12 (cat B12 [1, 0, 1, 1, 1, 0, 1, 0, 0, 1, 1, 0, 0, 1, 0, 0, 0]) (kLoop rec (lk2 12 6 cfg.keep) (kBlock 2 (kSq (exec cfg call n 12 (cat B12 [1, 0, 1, 1, 1, 0, 1, 0, 0, 1, 1, 0, 0, 1, 1])) (kBlock 1 (kSq (exec cfg call n 12 (cat B12 [1, 0, 1, 1, 1, 0, 1, 0, 0, 1, 1, 1])) (kLoop r4 (lk2 12 4 cfg.keep) (kBlock 0 (kSq (exec cfg call n 12 (cat B12 [1, 0, 1, 1, 1, 1])) (kret cfg Go.Proofs.Try.f12 (.one (LAttr)))))))))))
theorem patch_Apply_l6_eq (call : Call0) (n : Nat) (r4 : St → Option (denR (.one (LAttr)))) : ∀ (m : Nat) (t0 : den (LAttr)) (t6 : den (.int .i64)) (t9 : den (LChange)) (t10 : den (.int .i64)) (t11 : den (.int .i64)) (o5 : den (LAttr)) (o8 : den (TChange)), loopN (patch_Apply_F6 call n r4) m (patch_Apply_sh6 t0 t6 t9 t10 t11 o5 o8) = patch_Apply_l6  n (fun (t0 : den (LAttr)) (t6 : den (.int .i64)) (t9 : den (LChange)) (t10 : den (.int .i64)) (t11 : den (.int .i64)) (o5 : den (LAttr)) => r4 (patch_Apply_sh4 t0 t6 t9 t10 t11 o5)) m t0 t6 t9 t10 t11 o5 o8 := by
  intro m
  induction m with
  | zero => intros; rfl
  | succ m ih =>
    intro t0 t6 t9 t10 t11 o5 o8
    have h : loopN (patch_Apply_F6 call n r4) (m + 1) (patch_Apply_sh6 t0 t6 t9 t10 t11 o5 o8) = patch_Apply_s6   (fun (t0 : den (LAttr)) (t6 : den (.int .i64)) (t9 : den (LChange)) (t10 : den (.int .i64)) (t11 : den (.int .i64)) (o5 : den (LAttr)) => r4 (patch_Apply_sh4 t0 t6 t9 t10 t11 o5)) (fun (t0 : den (LAttr)) (t6 : den (.int .i64)) (t9 : den (LChange)) (t10 : den (.int .i64)) (t11 : den (.int .i64)) (o5 : den (LAttr)) (o8 : den (TChange)) => loopN (patch_Apply_F6 call n r4) m (patch_Apply_sh6 t0 t6 t9 t10 t11 o5 o8)) t0 t6 t9 t10 t11 o5 o8 := by kernel_rfl
    have e0 : (fun (t0 : den (LAttr)) (t6 : den (.int .i64)) (t9 : den (LChange)) (t10 : den (.int .i64)) (t11 : den (.int .i64)) (o5 : den (LAttr)) (o8 : den (TChange)) => loopN (patch_Apply_F6 call n r4) m (patch_Apply_sh6 t0 t6 t9 t10 t11 o5 o8)) = (fun (t0 : den (LAttr)) (t6 : den (.int .i64)) (t9 : den (LChange)) (t10 : den (.int .i64)) (t11 : den (.int .i64)) (o5 : den (LAttr)) (o8 : den (TChange)) => patch_Apply_l6  n (fun (t0 : den (LAttr)) (t6 : den (.int .i64)) (t9 : den (LChange)) (t10 : den (.int .i64)) (t11 : den (.int .i64)) (o5 : den (LAttr)) => r4 (patch_Apply_sh4 t0 t6 t9 t10 t11 o5)) m t0 t6 t9 t10 t11 o5 o8) := by funext t0 t6 t9 t10 t11 o5 o8; exact ih t0 t6 t9 t10 t11 o5 o8
    rw [h, e0]; rfl
noncomputable def patch_Apply_s4  (LL6 : den (LAttr) → den (.int .i64) → den (LChange) → den (.int .i64) → den (.int .i64) → den (LAttr) → den (TChange) → Option (denR (.one (LAttr))))  (LS4 : den (LAttr) → den (.int .i64) → den (LChange) → den (.int .i64) → den (.int .i64) → den (LAttr) → Option (denR (.one (LAttr)))) (t0 : den (LAttr)) (t6 : den (.int .i64)) (t9 : den (LChange)) (t10 : den (.int .i64)) (t11 : den (.int .i64)) (o5 : den (LAttr)) : Option (denR (.one (LAttr))) := (bif (decide (t11 < t10)) then (bif decide (0 ≤ t11) && decide (t11 < (t9.length : Int)) then LL6 t0 t6 t9 t10 t11 o5 (t9.getD (Int.toNat t11) (dflt (TChange))) else none) else (bif decide (0 ≤ t6) && decide (t6 ≤ (t0.length : Int)) && decide ((t0.length : Int) ≤ (t0.length : Int)) then (bif decide ((o5.length + (t0.drop (Int.toNat t6)).length) * 48 ≤ 140737488355328) then some (o5 ++ (t0.drop (Int.toNat t6))) else none) else none))
noncomputable def patch_Apply_l4  (n : Nat)  : Nat → den (LAttr) → den (.int .i64) → den (LChange) → den (.int .i64) → den (.int .i64) → den (LAttr) → Option (denR (.one (LAttr)))
  | 0, _, _, _, _, _, _ => none
  | m + 1, t0, t6, t9, t10, t11, o5 => patch_Apply_s4  (patch_Apply_l6  n (fun (t0 : den (LAttr)) (t6 : den (.int .i64)) (t9 : den (LChange)) (t10 : den (.int .i64)) (t11 : den (.int .i64)) (o5 : den (LAttr)) => patch_Apply_l4  n  m t0 t6 t9 t10 t11 o5) n)  (fun (t0 : den (LAttr)) (t6 : den (.int .i64)) (t9 : den (LChange)) (t10 : den (.int .i64)) (t11 : den (.int .i64)) (o5 : den (LAttr)) => patch_Apply_l4  n  m t0 t6 t9 t10 t11 o5) t0 t6 t9 t10 t11 o5
noncomputable def patch_Apply_F4 (call : Call0) (n : Nat)  : (St → Option (denR (.one (LAttr)))) → St → Option (denR (.one (LAttr))) := fun rec => exec cfg call n 12 (cat B12 [1, 0, 1, 1, 1, 0, 1, 0, 0]) (kLoop rec (lk2 12 4 cfg.keep) (kBlock 0 (kSq (exec cfg call n 12 (cat B12 [1, 0, 1, 1, 1, 1])) (kret cfg Go.Proofs.Try.f12 (.one (LAttr))))))
theorem patch_Apply_l4_eq (call : Call0) (n : Nat)  : ∀ (m : Nat) (t0 : den (LAttr)) (t6 : den (.int .i64)) (t9 : den (LChange)) (t10 : den (.int .i64)) (t11 : den (.int .i64)) (o5 : den (LAttr)), loopN (patch_Apply_F4 call n ) m (patch_Apply_sh4 t0 t6 t9 t10 t11 o5) = patch_Apply_l4  n  m t0 t6 t9 t10 t11 o5 := by
  intro m
  induction m with
  | zero => intros; rfl
  | succ m ih =>
    intro t0 t6 t9 t10 t11 o5
    have h : loopN (patch_Apply_F4 call n ) (m + 1) (patch_Apply_sh4 t0 t6 t9 t10 t11 o5) = patch_Apply_s4  (fun (t0 : den (LAttr)) (t6 : den (.int .i64)) (t9 : den (LChange)) (t10 : den (.int .i64)) (t11 : den (.int .i64)) (o5 : den (LAttr)) (o8 : den (TChange)) => loopN (patch_Apply_F6 call n (loopN (patch_Apply_F4 call n ) m)) n (patch_Apply_sh6 t0 t6 t9 t10 t11 o5 o8))  (fun (t0 : den (LAttr)) (t6 : den (.int .i64)) (t9 : den (LChange)) (t10 : den (.int .i64)) (t11 : den (.int .i64)) (o5 : den (LAttr)) => loopN (patch_Apply_F4 call n ) m (patch_Apply_sh4 t0 t6 t9 t10 t11 o5)) t0 t6 t9 t10 t11 o5 := by kernel_rfl
    have e6 : (fun (t0 : den (LAttr)) (t6 : den (.int .i64)) (t9 : den (LChange)) (t10 : den (.int .i64)) (t11 : den (.int .i64)) (o5 : den (LAttr)) (o8 : den (TChange)) => loopN (patch_Apply_F6 call n (loopN (patch_Apply_F4 call n ) m)) n (patch_Apply_sh6 t0 t6 t9 t10 t11 o5 o8)) = patch_Apply_l6  n (fun (t0 : den (LAttr)) (t6 : den (.int .i64)) (t9 : den (LChange)) (t10 : den (.int .i64)) (t11 : den (.int .i64)) (o5 : den (LAttr)) => (loopN (patch_Apply_F4 call n ) m) (patch_Apply_sh4 t0 t6 t9 t10 t11 o5)) n := by funext t0 t6 t9 t10 t11 o5 o8; exact patch_Apply_l6_eq call n (loopN (patch_Apply_F4 call n ) m) n t0 t6 t9 t10 t11 o5 o8
    have e0 : (fun (t0 : den (LAttr)) (t6 : den (.int .i64)) (t9 : den (LChange)) (t10 : den (.int .i64)) (t11 : den (.int .i64)) (o5 : den (LAttr)) => loopN (patch_Apply_F4 call n ) m (patch_Apply_sh4 t0 t6 t9 t10 t11 o5)) = (fun (t0 : den (LAttr)) (t6 : den (.int .i64)) (t9 : den (LChange)) (t10 : den (.int .i64)) (t11 : den (.int .i64)) (o5 : den (LAttr)) => patch_Apply_l4  n  m t0 t6 t9 t10 t11 o5) := by funext t0 t6 t9 t10 t11 o5; exact ih t0 t6 t9 t10 t11 o5
    rw [h, e6, e0]; rfl
noncomputable def patch_Apply_top  (LL4 : den (LAttr) → den (.int .i64) → den (LChange) → den (.int .i64) → den (.int .i64) → den (LAttr) → Option (denR (.one (LAttr)))) (a0 : den (LAttr)) (a1 : den (LChange)) : Option (denR (.one (LAttr))) := LL4 a0 (0 : Int) a1 (a1.length : Int) (0 : Int) []
noncomputable def patch_Apply : Nat → den (LAttr) → den (LChange) → Option (denR (.one (LAttr)))
  | 0, _, _ => none
  | n + 1, a0, a1 => patch_Apply_top  (patch_Apply_l4  n n) a0 a1
theorem patch_Apply_eq (n : Nat) (a0 : den (LAttr)) (a1 : den (LChange)) : (acalls cfg intr intrI n).p 12 [.s (.val (LAttr) a0), .s (.val (LChange) a1)] (.one (LAttr)) = patch_Apply n a0 a1 := by
  cases n with
  | zero => rfl
  | succ n =>
    have h : (acalls cfg intr intrI (n + 1)).p 12 [.s (.val (LAttr) a0), .s (.val (LChange) a1)] (.one (LAttr)) = patch_Apply_top  (fun (t0 : den (LAttr)) (t6 : den (.int .i64)) (t9 : den (LChange)) (t10 : den (.int .i64)) (t11 : den (.int .i64)) (o5 : den (LAttr)) => loopN (patch_Apply_F4 (acalls cfg intr intrI n) n) n (patch_Apply_sh4 t0 t6 t9 t10 t11 o5)) a0 a1 := by kernel_rfl
    have e4 : (fun (t0 : den (LAttr)) (t6 : den (.int .i64)) (t9 : den (LChange)) (t10 : den (.int .i64)) (t11 : den (.int .i64)) (o5 : den (LAttr)) => loopN (patch_Apply_F4 (acalls cfg intr intrI n) n) n (patch_Apply_sh4 t0 t6 t9 t10 t11 o5)) = patch_Apply_l4  n n := by funext t0 t6 t9 t10 t11 o5; exact patch_Apply_l4_eq (acalls cfg intr intrI n) n n t0 t6 t9 t10 t11 o5
    rw [h, e4]; rfl

noncomputable def B53 : Code := (Go.Proofs.Try.f53.body).getD .skip
noncomputable def slices_Equal_Attr_sh4 (s1t0 : den (LAttr)) (s2t1 : den (LAttr)) (t12 : den (.int .i64)) (t13 : den (.int .i64)) : St := ⟨[.s (.val (LAttr) s1t0), .s (.val (LAttr) s2t1), U, U, U, U, U, U, U, U, U, U, .s (.val (.int .i64) t12), .s (.val (.int .i64) t13), U, U, U, U, U, U, U, U, U, U, U, U], []⟩
noncomputable def slices_Equal_Attr_s4    (LS4 : den (LAttr) → den (LAttr) → den (.int .i64) → den (.int .i64) → Option (denR (.one (.bool)))) (s1t0 : den (LAttr)) (s2t1 : den (LAttr)) (t12 : den (.int .i64)) (t13 : den (.int .i64)) : Option (denR (.one (.bool))) := (bif (decide (t13 < t12)) then (bif decide (0 ≤ t13) && decide (t13 < (s1t0.length : Int)) then (bif decide (0 ≤ t13) && decide (t13 < (s2t1.length : Int)) then (bif (!eqT (TAttr) (s1t0.getD (Int.toNat t13) (dflt (TAttr))) (s2t1.getD (Int.toNat t13) (dflt (TAttr)))) then some false else LS4 s1t0 s2t1 t12 (IntKind.wrap .i64 (t13 + (1 : Int)))) else none) else none) else some true)
noncomputable def slices_Equal_Attr_l4  (n : Nat)  : Nat → den (LAttr) → den (LAttr) → den (.int .i64) → den (.int .i64) → Option (denR (.one (.bool)))
  | 0, _, _, _, _ => none
  | m + 1, s1t0, s2t1, t12, t13 => slices_Equal_Attr_s4    (fun (s1t0 : den (LAttr)) (s2t1 : den (LAttr)) (t12 : den (.int .i64)) (t13 : den (.int .i64)) => slices_Equal_Attr_l4  n  m s1t0 s2t1 t12 t13) s1t0 s2t1 t12 t13
noncomputable def slices_Equal_Attr_g4    : List (den (TAttr)) → den (LAttr) → den (.int .i64) → Option (denR (.one (.bool)))
  | [], s2t1, t13 => some true
  | x :: r, s2t1, t13 => (bif decide (0 ≤ t13) && decide (t13 < (s2t1.length : Int)) then (bif (!eqT (TAttr) x (s2t1.getD (Int.toNat t13) (dflt (TAttr)))) then some false else slices_Equal_Attr_g4    r s2t1 (t13 + (1 : Int))) else none)
theorem slices_Equal_Attr_l4_list  (n : Nat)  : ∀ (m i : Nat) (s1t0 : den (LAttr)) (s2t1 : den (LAttr)), s1t0.length - i < m → i ≤ s1t0.length → s1t0.length < 4611686018427387904 → slices_Equal_Attr_l4  n  m s1t0 s2t1 (s1t0.length : Int) (i : Int) = slices_Equal_Attr_g4    (s1t0.drop i) s2t1 (i : Int) := by
  intro m
  induction m with
  | zero => intro i s1t0 s2t1 h1; omega
  | succ m ih =>
    intro i s1t0 s2t1 h1 h2 h3
    show slices_Equal_Attr_s4    (fun (s1t0 : den (LAttr)) (s2t1 : den (LAttr)) (t12 : den (.int .i64)) (t13 : den (.int .i64)) => slices_Equal_Attr_l4  n  m s1t0 s2t1 t12 t13) s1t0 s2t1 (s1t0.length : Int) (i : Int) = _
    unfold slices_Equal_Attr_s4
    have b0 : decide ((0 : Int) ≤ (i : Int)) = true := decide_eq_true (by omega)
    rcases Nat.lt_or_ge i s1t0.length with hi | hi
    · have b1 : decide ((i : Int) < (s1t0.length : Int)) = true := decide_eq_true (by omega)
      have bw : IntKind.i64.wrap ((i : Int) + (1 : Int)) = ((i + 1 : Nat) : Int) := w64s (by omega)
      have ih' : ∀ (s2t1 : den (LAttr)), slices_Equal_Attr_l4  n  m s1t0 s2t1 (s1t0.length : Int) ((i + 1 : Nat) : Int) = slices_Equal_Attr_g4    (s1t0.drop (i + 1)) s2t1 ((i + 1 : Nat) : Int) := fun s2t1 => ih (i + 1) s1t0 s2t1 (by omega) (by omega) h3
      simp only [b0, b1, bw, Bool.and_true, Bool.true_and, cond_true, Int.toNat_natCast, ih']
      rw [drop_getD hi (dflt (TAttr))]
      rfl
    · have b1 : decide ((i : Int) < (s1t0.length : Int)) = false := decide_eq_false (by omega)
      simp only [b1, cond_false]
      rw [List.drop_eq_nil_of_le hi]
      rfl
noncomputable def slices_Equal_Attr_F4 (call : Call0) (n : Nat)  : (St → Option (denR (.one (.bool)))) → St → Option (denR (.one (.bool))) := fun rec => exec cfg call n 53 (cat B53 [1, 1, 0, 1, 0, 0]) (kLoop rec (lk2 53 4 cfg.keep) (kBlock 0 (kSq (exec cfg call n 53 (cat B53 [1, 1, 1])) (kret cfg Go.Proofs.Try.f53 (.one (.bool))))))
theorem slices_Equal_Attr_l4_eq (call : Call0) (n : Nat)  : ∀ (m : Nat) (s1t0 : den (LAttr)) (s2t1 : den (LAttr)) (t12 : den (.int .i64)) (t13 : den (.int .i64)), loopN (slices_Equal_Attr_F4 call n ) m (slices_Equal_Attr_sh4 s1t0 s2t1 t12 t13) = slices_Equal_Attr_l4  n  m s1t0 s2t1 t12 t13 := by
  intro m
  induction m with
  | zero => intros; rfl
  | succ m ih =>
    intro s1t0 s2t1 t12 t13
    have h : loopN (slices_Equal_Attr_F4 call n ) (m + 1) (slices_Equal_Attr_sh4 s1t0 s2t1 t12 t13) = slices_Equal_Attr_s4    (fun (s1t0 : den (LAttr)) (s2t1 : den (LAttr)) (t12 : den (.int .i64)) (t13 : den (.int .i64)) => loopN (slices_Equal_Attr_F4 call n ) m (slices_Equal_Attr_sh4 s1t0 s2t1 t12 t13)) s1t0 s2t1 t12 t13 := by kernel_rfl
    have e0 : (fun (s1t0 : den (LAttr)) (s2t1 : den (LAttr)) (t12 : den (.int .i64)) (t13 : den (.int .i64)) => loopN (slices_Equal_Attr_F4 call n ) m (slices_Equal_Attr_sh4 s1t0 s2t1 t12 t13)) = (fun (s1t0 : den (LAttr)) (s2t1 : den (LAttr)) (t12 : den (.int .i64)) (t13 : den (.int .i64)) => slices_Equal_Attr_l4  n  m s1t0 s2t1 t12 t13) := by funext s1t0 s2t1 t12 t13; exact ih s1t0 s2t1 t12 t13
    rw [h, e0]; rfl
noncomputable def slices_Equal_Attr_top  (LL4 : den (LAttr) → den (LAttr) → den (.int .i64) → den (.int .i64) → Option (denR (.one (.bool)))) (a0 : den (LAttr)) (a1 : den (LAttr)) : Option (denR (.one (.bool))) := (bif ((!decide ((a0.length : Int) = (a1.length : Int)))) then some false else LL4 a0 a1 (a0.length : Int) (0 : Int))
noncomputable def slices_Equal_Attr : Nat → den (LAttr) → den (LAttr) → Option (denR (.one (.bool)))
  | 0, _, _ => none
  | n + 1, a0, a1 => slices_Equal_Attr_top  (slices_Equal_Attr_l4  n n) a0 a1
theorem slices_Equal_Attr_eq (n : Nat) (a0 : den (LAttr)) (a1 : den (LAttr)) : (acalls cfg intr intrI n).p 53 [.s (.val (LAttr) a0), .s (.val (LAttr) a1)] (.one (.bool)) = slices_Equal_Attr n a0 a1 := by
  cases n with
  | zero => rfl
  | succ n =>
    have h : (acalls cfg intr intrI (n + 1)).p 53 [.s (.val (LAttr) a0), .s (.val (LAttr) a1)] (.one (.bool)) = slices_Equal_Attr_top  (fun (s1t0 : den (LAttr)) (s2t1 : den (LAttr)) (t12 : den (.int .i64)) (t13 : den (.int .i64)) => loopN (slices_Equal_Attr_F4 (acalls cfg intr intrI n) n) n (slices_Equal_Attr_sh4 s1t0 s2t1 t12 t13)) a0 a1 := by kernel_rfl
    have e4 : (fun (s1t0 : den (LAttr)) (s2t1 : den (LAttr)) (t12 : den (.int .i64)) (t13 : den (.int .i64)) => loopN (slices_Equal_Attr_F4 (acalls cfg intr intrI n) n) n (slices_Equal_Attr_sh4 s1t0 s2t1 t12 t13)) = slices_Equal_Attr_l4  n n := by funext s1t0 s2t1 t12 t13; exact slices_Equal_Attr_l4_eq (acalls cfg intr intrI n) n n s1t0 s2t1 t12 t13
    rw [h, e4]; rfl

noncomputable def attrs_Same_top (C_slices_Equal_Attr : den (LAttr) → den (LAttr) → Option (denR (.one (.bool))))  (a0 : den (LAttr)) (a1 : den (LAttr)) : Option (denR (.one (.bool))) := ((C_slices_Equal_Attr a0 a1).bind fun r1 => some r1)
noncomputable def attrs_Same : Nat → den (LAttr) → den (LAttr) → Option (denR (.one (.bool)))
  | 0, _, _ => none
  | n + 1, a0, a1 => attrs_Same_top (slices_Equal_Attr n)  a0 a1
theorem attrs_Same_eq (n : Nat) (a0 : den (LAttr)) (a1 : den (LAttr)) : (acalls cfg intr intrI n).p 32 [.s (.val (LAttr) a0), .s (.val (LAttr) a1)] (.one (.bool)) = attrs_Same n a0 a1 := by
  cases n with
  | zero => rfl
  | succ n =>
    have h : (acalls cfg intr intrI (n + 1)).p 32 [.s (.val (LAttr) a0), .s (.val (LAttr) a1)] (.one (.bool)) = attrs_Same_top (fun (a0 : den (LAttr)) (a1 : den (LAttr)) => (acalls cfg intr intrI n).p 53 [.s (.val (LAttr) a0), .s (.val (LAttr) a1)] (.one (.bool)))  a0 a1 := by kernel_rfl
    have c_slices_Equal_Attr : (fun (a0 : den (LAttr)) (a1 : den (LAttr)) => (acalls cfg intr intrI n).p 53 [.s (.val (LAttr) a0), .s (.val (LAttr) a1)] (.one (.bool))) = slices_Equal_Attr n := by funext a0 a1; exact slices_Equal_Attr_eq n a0 a1
    rw [h, c_slices_Equal_Attr]; rfl

noncomputable def rules_Step_top (C_Schema_Find : den (PSchema) → den (.int .i64) → Option (denR (.two (TKey) (.bool)))) (C_attrs_Get : den (LAttr) → den (.int .i64) → Option (denR (.two (TValue) (.bool)))) (C_rules_hold : den (.int .i64) → den (.int .i64) → den (.int .i64) → Option (denR (.one (.int .i64)))) (C_rules_Complete : den (PSchema) → den (LChange) → Option (denS (⟨.rowv 57 (TChange) (.int .i64), []⟩ : Sig))) (C_patch_Apply : den (LAttr) → den (LChange) → Option (denR (.one (LAttr)))) (C_attrs_Same : den (LAttr) → den (LAttr) → Option (denR (.one (.bool))))  (a0 : den (PSchema)) (a1 : den (LAttr)) (a2 : den (.int .i64)) (a3 : den (.int .i64)) : Option (denR (.two (LChange) (.int .i64))) := ((C_Schema_Find a0 a2).bind fun r1 => (bif (!r1.2) then some ([], (4 : Int)) else (bif ((!decide (r1.1.2.2.1 = (2 : Int)))) then some ([], (4 : Int)) else (bif (!r1.1.2.1) then some ([], (7 : Int)) else ((C_attrs_Get a1 a2).bind fun r2 => (bif r2.2 then (bif (decide (r2.1.1 = (2 : Int))) then ((C_rules_hold r2.1.2.1 (0 : Int) (8 : Int)).bind fun r3 => ((C_rules_hold a3 (-8 : Int) (8 : Int)).bind fun r4 => ((C_rules_hold (IntKind.wrap .i64 (r3 + r4)) (0 : Int) (8 : Int)).bind fun r5 => (bif ((!decide (r5 = (0 : Int)))) then ((C_rules_Complete a0 ([(a2, (false, (((2 : Int), (r5, ((0 : Int), ((⟨#[]⟩ : ByteArray), ())))), ())))] : den (LChange))).bind fun r6 => ((C_patch_Apply a1 r6.1.1).bind fun r7 => ((C_attrs_Same r7 a1).bind fun r8 => (bif r8 then some ([], (0 : Int)) else some (r6.1.1, (0 : Int)))))) else ((C_patch_Apply a1 ([(a2, (true, (((0 : Int), ((0 : Int), ((0 : Int), ((⟨#[]⟩ : ByteArray), ())))), ())))] : den (LChange))).bind fun r9 => ((C_attrs_Same r9 a1).bind fun r10 => (bif r10 then some ([], (0 : Int)) else some ([(a2, (true, (((0 : Int), ((0 : Int), ((0 : Int), ((⟨#[]⟩ : ByteArray), ())))), ())))], (0 : Int))))))))) else ((C_rules_hold (0 : Int) (0 : Int) (8 : Int)).bind fun r11 => ((C_rules_hold a3 (-8 : Int) (8 : Int)).bind fun r12 => ((C_rules_hold (IntKind.wrap .i64 (r11 + r12)) (0 : Int) (8 : Int)).bind fun r13 => (bif ((!decide (r13 = (0 : Int)))) then ((C_rules_Complete a0 ([(a2, (false, (((2 : Int), (r13, ((0 : Int), ((⟨#[]⟩ : ByteArray), ())))), ())))] : den (LChange))).bind fun r14 => ((C_patch_Apply a1 r14.1.1).bind fun r15 => ((C_attrs_Same r15 a1).bind fun r16 => (bif r16 then some ([], (0 : Int)) else some (r14.1.1, (0 : Int)))))) else ((C_patch_Apply a1 ([(a2, (true, (((0 : Int), ((0 : Int), ((0 : Int), ((⟨#[]⟩ : ByteArray), ())))), ())))] : den (LChange))).bind fun r17 => ((C_attrs_Same r17 a1).bind fun r18 => (bif r18 then some ([], (0 : Int)) else some ([(a2, (true, (((0 : Int), ((0 : Int), ((0 : Int), ((⟨#[]⟩ : ByteArray), ())))), ())))], (0 : Int)))))))))) else ((C_rules_hold (0 : Int) (0 : Int) (8 : Int)).bind fun r19 => ((C_rules_hold a3 (-8 : Int) (8 : Int)).bind fun r20 => ((C_rules_hold (IntKind.wrap .i64 (r19 + r20)) (0 : Int) (8 : Int)).bind fun r21 => (bif ((!decide (r21 = (0 : Int)))) then ((C_rules_Complete a0 ([(a2, (false, (((2 : Int), (r21, ((0 : Int), ((⟨#[]⟩ : ByteArray), ())))), ())))] : den (LChange))).bind fun r22 => ((C_patch_Apply a1 r22.1.1).bind fun r23 => ((C_attrs_Same r23 a1).bind fun r24 => (bif r24 then some ([], (0 : Int)) else some (r22.1.1, (0 : Int)))))) else ((C_patch_Apply a1 ([(a2, (true, (((0 : Int), ((0 : Int), ((0 : Int), ((⟨#[]⟩ : ByteArray), ())))), ())))] : den (LChange))).bind fun r25 => ((C_attrs_Same r25 a1).bind fun r26 => (bif r26 then some ([], (0 : Int)) else some ([(a2, (true, (((0 : Int), ((0 : Int), ((0 : Int), ((⟨#[]⟩ : ByteArray), ())))), ())))], (0 : Int)))))))))))))))
noncomputable def rules_Step : Nat → den (PSchema) → den (LAttr) → den (.int .i64) → den (.int .i64) → Option (denR (.two (LChange) (.int .i64)))
  | 0, _, _, _, _ => none
  | n + 1, a0, a1, a2, a3 => rules_Step_top (Schema_Find n) (attrs_Get n) (rules_hold n) (rules_Complete n) (patch_Apply n) (attrs_Same n)  a0 a1 a2 a3
theorem rules_Step_eq (n : Nat) (a0 : den (PSchema)) (a1 : den (LAttr)) (a2 : den (.int .i64)) (a3 : den (.int .i64)) : (acalls cfg intr intrI n).p 11 [.s (.val (PSchema) a0), .s (.val (LAttr) a1), .s (.val (.int .i64) a2), .s (.val (.int .i64) a3)] (.two (LChange) (.int .i64)) = rules_Step n a0 a1 a2 a3 := by
  cases n with
  | zero => rfl
  | succ n =>
    have h : (acalls cfg intr intrI (n + 1)).p 11 [.s (.val (PSchema) a0), .s (.val (LAttr) a1), .s (.val (.int .i64) a2), .s (.val (.int .i64) a3)] (.two (LChange) (.int .i64)) = rules_Step_top (fun (a0 : den (PSchema)) (a1 : den (.int .i64)) => (acalls cfg intr intrI n).p 10 [.s (.val (PSchema) a0), .s (.val (.int .i64) a1)] (.two (TKey) (.bool))) (fun (a0 : den (LAttr)) (a1 : den (.int .i64)) => (acalls cfg intr intrI n).p 30 [.s (.val (LAttr) a0), .s (.val (.int .i64) a1)] (.two (TValue) (.bool))) (fun (a0 : den (.int .i64)) (a1 : den (.int .i64)) (a2 : den (.int .i64)) => (acalls cfg intr intrI n).p 31 [.s (.val (.int .i64) a0), .s (.val (.int .i64) a1), .s (.val (.int .i64) a2)] (.one (.int .i64))) (fun (a0 : den (PSchema)) (a1 : den (LChange)) => (acalls cfg intr intrI n).i 17 [.s (.val (PSchema) a0), .s (.val (LChange) a1)] [] (⟨.rowv 57 (TChange) (.int .i64), []⟩ : Sig)) (fun (a0 : den (LAttr)) (a1 : den (LChange)) => (acalls cfg intr intrI n).p 12 [.s (.val (LAttr) a0), .s (.val (LChange) a1)] (.one (LAttr))) (fun (a0 : den (LAttr)) (a1 : den (LAttr)) => (acalls cfg intr intrI n).p 32 [.s (.val (LAttr) a0), .s (.val (LAttr) a1)] (.one (.bool)))  a0 a1 a2 a3 := by kernel_rfl
    have c_Schema_Find : (fun (a0 : den (PSchema)) (a1 : den (.int .i64)) => (acalls cfg intr intrI n).p 10 [.s (.val (PSchema) a0), .s (.val (.int .i64) a1)] (.two (TKey) (.bool))) = Schema_Find n := by funext a0 a1; exact Schema_Find_eq n a0 a1
    have c_attrs_Get : (fun (a0 : den (LAttr)) (a1 : den (.int .i64)) => (acalls cfg intr intrI n).p 30 [.s (.val (LAttr) a0), .s (.val (.int .i64) a1)] (.two (TValue) (.bool))) = attrs_Get n := by funext a0 a1; exact attrs_Get_eq n a0 a1
    have c_rules_hold : (fun (a0 : den (.int .i64)) (a1 : den (.int .i64)) (a2 : den (.int .i64)) => (acalls cfg intr intrI n).p 31 [.s (.val (.int .i64) a0), .s (.val (.int .i64) a1), .s (.val (.int .i64) a2)] (.one (.int .i64))) = rules_hold n := by funext a0 a1 a2; exact rules_hold_eq n a0 a1 a2
    have c_rules_Complete : (fun (a0 : den (PSchema)) (a1 : den (LChange)) => (acalls cfg intr intrI n).i 17 [.s (.val (PSchema) a0), .s (.val (LChange) a1)] [] (⟨.rowv 57 (TChange) (.int .i64), []⟩ : Sig)) = rules_Complete n := by funext a0 a1; exact rules_Complete_eq n a0 a1
    have c_patch_Apply : (fun (a0 : den (LAttr)) (a1 : den (LChange)) => (acalls cfg intr intrI n).p 12 [.s (.val (LAttr) a0), .s (.val (LChange) a1)] (.one (LAttr))) = patch_Apply n := by funext a0 a1; exact patch_Apply_eq n a0 a1
    have c_attrs_Same : (fun (a0 : den (LAttr)) (a1 : den (LAttr)) => (acalls cfg intr intrI n).p 32 [.s (.val (LAttr) a0), .s (.val (LAttr) a1)] (.one (.bool))) = attrs_Same n := by funext a0 a1; exact attrs_Same_eq n a0 a1
    rw [h, c_Schema_Find, c_attrs_Get, c_rules_hold, c_rules_Complete, c_patch_Apply, c_attrs_Same]; rfl

noncomputable def law14_known_top (C_schema_New : den (LKey) → Option (denR (.two (PSchema) (.int .i64)))) (C_rules_Complete : den (PSchema) → den (LChange) → Option (denS (⟨.rowv 57 (TChange) (.int .i64), []⟩ : Sig))) (C_rules_Step : den (PSchema) → den (LAttr) → den (.int .i64) → den (.int .i64) → Option (denR (.two (LChange) (.int .i64))))   : Option (denR (.one (.bool))) := ((C_schema_New ([((11 : Int), (true, ((2 : Int), (false, (false, ((1 : Int), ())))))), ((12 : Int), (true, ((4 : Int), (false, (false, ((1 : Int), ())))))), ((13 : Int), (true, ((2 : Int), (false, (false, ((1 : Int), ()))))))] : den (LKey))).bind fun r1 => ((C_rules_Complete r1.1 ([((12 : Int), (false, (((4 : Int), ((0 : Int), ((0 : Int), ((⟨#[97]⟩ : ByteArray), ())))), ())))] : den (LChange))).bind fun r2 => ((C_rules_Step r1.1 ([((11 : Int), (((2 : Int), ((7 : Int), ((0 : Int), ((⟨#[]⟩ : ByteArray), ())))), ()))] : den (LAttr)) (11 : Int) (5 : Int)).bind fun r3 => (bif (decide (r1.2 = (0 : Int))) then (bif (decide (r2.1.2 = (0 : Int))) then (bif (decide ((r2.1.1.length : Int) = (3 : Int))) then (bif decide (0 ≤ (0 : Int)) && decide ((0 : Int) < (r2.1.1.length : Int)) then (bif ((r2.1.1.getD (Int.toNat (0 : Int)) (dflt (TChange))).2).1 then (bif decide (0 ≤ (1 : Int)) && decide ((1 : Int) < (r2.1.1.length : Int)) then (bif (eqT (TValue) ((((r2.1.1.getD (Int.toNat (1 : Int)) (dflt (TChange))).2).2).1) ((4 : Int), ((0 : Int), ((0 : Int), ((⟨#[97]⟩ : ByteArray), ()))))) then (bif decide (0 ≤ (2 : Int)) && decide ((2 : Int) < (r2.1.1.length : Int)) then (bif ((r2.1.1.getD (Int.toNat (2 : Int)) (dflt (TChange))).2).1 then (bif (decide (r3.2 = (0 : Int))) then (bif (decide ((r3.1.length : Int) = (3 : Int))) then (bif decide (0 ≤ (0 : Int)) && decide ((0 : Int) < (r3.1.length : Int)) then some (decide ((((((r3.1.getD (Int.toNat (0 : Int)) (dflt (TChange))).2).2).1).2).1 = (8 : Int))) else none) else some false) else some false) else some false) else none) else some false) else none) else some false) else none) else some false) else some false) else some false))))
noncomputable def law14_known : Nat → Option (denR (.one (.bool)))
  | 0 => none
  | n + 1 => law14_known_top (schema_New n) (rules_Complete n) (rules_Step n)  
theorem law14_known_eq (n : Nat)  : (acalls cfg intr intrI n).p 8 [] (.one (.bool)) = law14_known n  := by
  cases n with
  | zero => rfl
  | succ n =>
    have h : (acalls cfg intr intrI (n + 1)).p 8 [] (.one (.bool)) = law14_known_top (fun (a0 : den (LKey)) => (acalls cfg intr intrI n).p 9 [.s (.val (LKey) a0)] (.two (PSchema) (.int .i64))) (fun (a0 : den (PSchema)) (a1 : den (LChange)) => (acalls cfg intr intrI n).i 17 [.s (.val (PSchema) a0), .s (.val (LChange) a1)] [] (⟨.rowv 57 (TChange) (.int .i64), []⟩ : Sig)) (fun (a0 : den (PSchema)) (a1 : den (LAttr)) (a2 : den (.int .i64)) (a3 : den (.int .i64)) => (acalls cfg intr intrI n).p 11 [.s (.val (PSchema) a0), .s (.val (LAttr) a1), .s (.val (.int .i64) a2), .s (.val (.int .i64) a3)] (.two (LChange) (.int .i64)))   := by kernel_rfl
    have c_schema_New : (fun (a0 : den (LKey)) => (acalls cfg intr intrI n).p 9 [.s (.val (LKey) a0)] (.two (PSchema) (.int .i64))) = schema_New n := by funext a0; exact schema_New_eq n a0
    have c_rules_Complete : (fun (a0 : den (PSchema)) (a1 : den (LChange)) => (acalls cfg intr intrI n).i 17 [.s (.val (PSchema) a0), .s (.val (LChange) a1)] [] (⟨.rowv 57 (TChange) (.int .i64), []⟩ : Sig)) = rules_Complete n := by funext a0 a1; exact rules_Complete_eq n a0 a1
    have c_rules_Step : (fun (a0 : den (PSchema)) (a1 : den (LAttr)) (a2 : den (.int .i64)) (a3 : den (.int .i64)) => (acalls cfg intr intrI n).p 11 [.s (.val (PSchema) a0), .s (.val (LAttr) a1), .s (.val (.int .i64) a2), .s (.val (.int .i64) a3)] (.two (LChange) (.int .i64))) = rules_Step n := by funext a0 a1 a2 a3; exact rules_Step_eq n a0 a1 a2 a3
    rw [h, c_schema_New, c_rules_Complete, c_rules_Step]; rfl

noncomputable def B7 : Code := (Go.Proofs.Try.f7.body).getD .skip
noncomputable def ref05_Rising_sh2 (sett0 : den (LAttr)) (it3 : den (.int .i64)) : St := ⟨[.s (.val (LAttr) sett0), U, U, .s (.val (.int .i64) it3), U, U, U, U, U, U, U, U, U, U, U, U, U, U, U, U, U, U], []⟩
noncomputable def ref05_Rising_s2    (LS2 : den (LAttr) → den (.int .i64) → Option (denR (.one (.bool)))) (sett0 : den (LAttr)) (it3 : den (.int .i64)) : Option (denR (.one (.bool))) := (bif (decide (it3 < (sett0.length : Int))) then (bif decide (0 ≤ (IntKind.wrap .i64 (it3 - (1 : Int)))) && decide ((IntKind.wrap .i64 (it3 - (1 : Int))) < (sett0.length : Int)) then (bif decide (0 ≤ it3) && decide (it3 < (sett0.length : Int)) then (bif (decide ((sett0.getD (Int.toNat it3) (dflt (TAttr))).1 ≤ (sett0.getD (Int.toNat (IntKind.wrap .i64 (it3 - (1 : Int)))) (dflt (TAttr))).1)) then some false else LS2 sett0 (IntKind.wrap .i64 (it3 + (1 : Int)))) else none) else none) else some true)
noncomputable def ref05_Rising_l2  (n : Nat)  : Nat → den (LAttr) → den (.int .i64) → Option (denR (.one (.bool)))
  | 0, _, _ => none
  | m + 1, sett0, it3 => ref05_Rising_s2    (fun (sett0 : den (LAttr)) (it3 : den (.int .i64)) => ref05_Rising_l2  n  m sett0 it3) sett0 it3
noncomputable def ref05_Rising_g2    : List (den (TAttr)) → den (LAttr) → den (.int .i64) → Option (denR (.one (.bool)))
  | [], sett0, it3 => some true
  | x :: r, sett0, it3 => (bif decide (0 ≤ (IntKind.wrap .i64 (it3 - (1 : Int)))) && decide ((IntKind.wrap .i64 (it3 - (1 : Int))) < (sett0.length : Int)) then (bif (decide (x.1 ≤ (sett0.getD (Int.toNat (IntKind.wrap .i64 (it3 - (1 : Int)))) (dflt (TAttr))).1)) then some false else ref05_Rising_g2    r sett0 (it3 + (1 : Int))) else none)
theorem ref05_Rising_l2_list  (n : Nat)  : ∀ (m i : Nat) (sett0 : den (LAttr)), sett0.length - i < m → i ≤ sett0.length → sett0.length < 4611686018427387904 → ref05_Rising_l2  n  m sett0 (i : Int) = ref05_Rising_g2    (sett0.drop i) sett0 (i : Int) := by
  intro m
  induction m with
  | zero => intro i sett0 h1; omega
  | succ m ih =>
    intro i sett0 h1 h2 h3
    show ref05_Rising_s2    (fun (sett0 : den (LAttr)) (it3 : den (.int .i64)) => ref05_Rising_l2  n  m sett0 it3) sett0 (i : Int) = _
    unfold ref05_Rising_s2
    have b0 : decide ((0 : Int) ≤ (i : Int)) = true := decide_eq_true (by omega)
    rcases Nat.lt_or_ge i sett0.length with hi | hi
    · have b1 : decide ((i : Int) < (sett0.length : Int)) = true := decide_eq_true (by omega)
      have bw : IntKind.i64.wrap ((i : Int) + (1 : Int)) = ((i + 1 : Nat) : Int) := w64s (by omega)
      have ih' : ∀ (_u : Unit), ref05_Rising_l2  n  m sett0 ((i + 1 : Nat) : Int) = ref05_Rising_g2    (sett0.drop (i + 1)) sett0 ((i + 1 : Nat) : Int) := fun _u => ih (i + 1) sett0 (by omega) (by omega) h3
      simp only [b0, b1, bw, Bool.and_true, Bool.true_and, cond_true, Int.toNat_natCast, ih' ()]
      rw [drop_getD hi (dflt (TAttr))]
      rfl
    · have b1 : decide ((i : Int) < (sett0.length : Int)) = false := decide_eq_false (by omega)
      simp only [b1, cond_false]
      rw [List.drop_eq_nil_of_le hi]
      rfl
noncomputable def ref05_Rising_F2 (call : Call0) (n : Nat)  : (St → Option (denR (.one (.bool)))) → St → Option (denR (.one (.bool))) := fun rec => exec cfg call n 7 (cat B7 [1, 0, 1, 0, 0]) (kLoop rec (lk2 7 2 cfg.keep) (kBlock 0 (kSq (exec cfg call n 7 (cat B7 [1, 1])) (kret cfg Go.Proofs.Try.f7 (.one (.bool))))))
theorem ref05_Rising_l2_eq (call : Call0) (n : Nat)  : ∀ (m : Nat) (sett0 : den (LAttr)) (it3 : den (.int .i64)), loopN (ref05_Rising_F2 call n ) m (ref05_Rising_sh2 sett0 it3) = ref05_Rising_l2  n  m sett0 it3 := by
  intro m
  induction m with
  | zero => intros; rfl
  | succ m ih =>
    intro sett0 it3
    have h : loopN (ref05_Rising_F2 call n ) (m + 1) (ref05_Rising_sh2 sett0 it3) = ref05_Rising_s2    (fun (sett0 : den (LAttr)) (it3 : den (.int .i64)) => loopN (ref05_Rising_F2 call n ) m (ref05_Rising_sh2 sett0 it3)) sett0 it3 := by kernel_rfl
    have e0 : (fun (sett0 : den (LAttr)) (it3 : den (.int .i64)) => loopN (ref05_Rising_F2 call n ) m (ref05_Rising_sh2 sett0 it3)) = (fun (sett0 : den (LAttr)) (it3 : den (.int .i64)) => ref05_Rising_l2  n  m sett0 it3) := by funext sett0 it3; exact ih sett0 it3
    rw [h, e0]; rfl
noncomputable def ref05_Rising_top  (LL2 : den (LAttr) → den (.int .i64) → Option (denR (.one (.bool)))) (a0 : den (LAttr)) : Option (denR (.one (.bool))) := LL2 a0 (1 : Int)
noncomputable def ref05_Rising : Nat → den (LAttr) → Option (denR (.one (.bool)))
  | 0, _ => none
  | n + 1, a0 => ref05_Rising_top  (ref05_Rising_l2  n n) a0
theorem ref05_Rising_eq (n : Nat) (a0 : den (LAttr)) : (acalls cfg intr intrI n).p 7 [.s (.val (LAttr) a0)] (.one (.bool)) = ref05_Rising n a0 := by
  cases n with
  | zero => rfl
  | succ n =>
    have h : (acalls cfg intr intrI (n + 1)).p 7 [.s (.val (LAttr) a0)] (.one (.bool)) = ref05_Rising_top  (fun (sett0 : den (LAttr)) (it3 : den (.int .i64)) => loopN (ref05_Rising_F2 (acalls cfg intr intrI n) n) n (ref05_Rising_sh2 sett0 it3)) a0 := by kernel_rfl
    have e2 : (fun (sett0 : den (LAttr)) (it3 : den (.int .i64)) => loopN (ref05_Rising_F2 (acalls cfg intr intrI n) n) n (ref05_Rising_sh2 sett0 it3)) = ref05_Rising_l2  n n := by funext sett0 it3; exact ref05_Rising_l2_eq (acalls cfg intr intrI n) n n sett0 it3
    rw [h, e2]; rfl

noncomputable def B13 : Code := (Go.Proofs.Try.f13.body).getD .skip
noncomputable def ref05_Get_sh2 (sett0 : den (LAttr)) (keyt1 : den (.int .i64)) (it6 : den (.int .i64)) (o4 : den (TValue)) : St := ⟨[.s (.val (LAttr) sett0), .s (.val (.int .i64) keyt1), U, U, .s (.ref 4 []), U, .s (.val (.int .i64) it6), U, U, U, U, U, U, U, U, U, U, U, U, U, U, U, U, U, U, U], [(4, .box (TValue) o4)]⟩
noncomputable def ref05_Get_s2    (LS2 : den (LAttr) → den (.int .i64) → den (.int .i64) → den (TValue) → Option (denR (.two (TValue) (.bool)))) (sett0 : den (LAttr)) (keyt1 : den (.int .i64)) (it6 : den (.int .i64)) (o4 : den (TValue)) : Option (denR (.two (TValue) (.bool))) := (bif (decide (it6 < (sett0.length : Int))) then (bif decide (0 ≤ it6) && decide (it6 < (sett0.length : Int)) then (bif (decide ((sett0.getD (Int.toNat it6) (dflt (TAttr))).1 = keyt1)) then (bif decide (0 ≤ it6) && decide (it6 < (sett0.length : Int)) then some (((sett0.getD (Int.toNat it6) (dflt (TAttr))).2).1, true) else none) else LS2 sett0 keyt1 (IntKind.wrap .i64 (it6 + (1 : Int))) o4) else none) else some (((0 : Int), ((0 : Int), ((0 : Int), ((⟨#[]⟩ : ByteArray), ())))), false))
noncomputable def ref05_Get_l2  (n : Nat)  : Nat → den (LAttr) → den (.int .i64) → den (.int .i64) → den (TValue) → Option (denR (.two (TValue) (.bool)))
  | 0, _, _, _, _ => none
  | m + 1, sett0, keyt1, it6, o4 => ref05_Get_s2    (fun (sett0 : den (LAttr)) (keyt1 : den (.int .i64)) (it6 : den (.int .i64)) (o4 : den (TValue)) => ref05_Get_l2  n  m sett0 keyt1 it6 o4) sett0 keyt1 it6 o4
noncomputable def ref05_Get_g2    : List (den (TAttr)) → den (.int .i64) → den (TValue) → Option (denR (.two (TValue) (.bool)))
  | [], keyt1, o4 => some (((0 : Int), ((0 : Int), ((0 : Int), ((⟨#[]⟩ : ByteArray), ())))), false)
  | x :: r, keyt1, o4 => (bif (decide (x.1 = keyt1)) then some (x.2.1, true) else ref05_Get_g2    r keyt1 o4)
theorem ref05_Get_l2_list  (n : Nat)  : ∀ (m i : Nat) (sett0 : den (LAttr)) (keyt1 : den (.int .i64)) (o4 : den (TValue)), sett0.length - i < m → i ≤ sett0.length → sett0.length < 4611686018427387904 → ref05_Get_l2  n  m sett0 keyt1 (i : Int) o4 = ref05_Get_g2    (sett0.drop i) keyt1 o4 := by
  intro m
  induction m with
  | zero => intro i sett0 keyt1 o4 h1; omega
  | succ m ih =>
    intro i sett0 keyt1 o4 h1 h2 h3
    show ref05_Get_s2    (fun (sett0 : den (LAttr)) (keyt1 : den (.int .i64)) (it6 : den (.int .i64)) (o4 : den (TValue)) => ref05_Get_l2  n  m sett0 keyt1 it6 o4) sett0 keyt1 (i : Int) o4 = _
    unfold ref05_Get_s2
    have b0 : decide ((0 : Int) ≤ (i : Int)) = true := decide_eq_true (by omega)
    rcases Nat.lt_or_ge i sett0.length with hi | hi
    · have b1 : decide ((i : Int) < (sett0.length : Int)) = true := decide_eq_true (by omega)
      have bw : IntKind.i64.wrap ((i : Int) + (1 : Int)) = ((i + 1 : Nat) : Int) := w64s (by omega)
      have ih' : ∀ (keyt1 : den (.int .i64)) (o4 : den (TValue)), ref05_Get_l2  n  m sett0 keyt1 ((i + 1 : Nat) : Int) o4 = ref05_Get_g2    (sett0.drop (i + 1)) keyt1 o4 := fun keyt1 o4 => ih (i + 1) sett0 keyt1 o4 (by omega) (by omega) h3
      simp only [b0, b1, bw, Bool.and_true, Bool.true_and, cond_true, Int.toNat_natCast, ih']
      rw [drop_getD hi (dflt (TAttr))]
      rfl
    · have b1 : decide ((i : Int) < (sett0.length : Int)) = false := decide_eq_false (by omega)
      simp only [b1, cond_false]
      rw [List.drop_eq_nil_of_le hi]
      rfl
noncomputable def ref05_Get_F2 (call : Call0) (n : Nat)  : (St → Option (denR (.two (TValue) (.bool)))) → St → Option (denR (.two (TValue) (.bool))) := fun rec => exec cfg call n 13 (cat B13 [1, 0, 1, 0, 0]) (kLoop rec (lk2 13 2 cfg.keep) (kBlock 0 (kSq (exec cfg call n 13 (cat B13 [1, 1])) (kret cfg Go.Proofs.Try.f13 (.two (TValue) (.bool))))))
theorem ref05_Get_l2_eq (call : Call0) (n : Nat)  : ∀ (m : Nat) (sett0 : den (LAttr)) (keyt1 : den (.int .i64)) (it6 : den (.int .i64)) (o4 : den (TValue)), loopN (ref05_Get_F2 call n ) m (ref05_Get_sh2 sett0 keyt1 it6 o4) = ref05_Get_l2  n  m sett0 keyt1 it6 o4 := by
  intro m
  induction m with
  | zero => intros; rfl
  | succ m ih =>
    intro sett0 keyt1 it6 o4
    have h : loopN (ref05_Get_F2 call n ) (m + 1) (ref05_Get_sh2 sett0 keyt1 it6 o4) = ref05_Get_s2    (fun (sett0 : den (LAttr)) (keyt1 : den (.int .i64)) (it6 : den (.int .i64)) (o4 : den (TValue)) => loopN (ref05_Get_F2 call n ) m (ref05_Get_sh2 sett0 keyt1 it6 o4)) sett0 keyt1 it6 o4 := by kernel_rfl
    have e0 : (fun (sett0 : den (LAttr)) (keyt1 : den (.int .i64)) (it6 : den (.int .i64)) (o4 : den (TValue)) => loopN (ref05_Get_F2 call n ) m (ref05_Get_sh2 sett0 keyt1 it6 o4)) = (fun (sett0 : den (LAttr)) (keyt1 : den (.int .i64)) (it6 : den (.int .i64)) (o4 : den (TValue)) => ref05_Get_l2  n  m sett0 keyt1 it6 o4) := by funext sett0 keyt1 it6 o4; exact ih sett0 keyt1 it6 o4
    rw [h, e0]; rfl
noncomputable def ref05_Get_top  (LL2 : den (LAttr) → den (.int .i64) → den (.int .i64) → den (TValue) → Option (denR (.two (TValue) (.bool)))) (a0 : den (LAttr)) (a1 : den (.int .i64)) : Option (denR (.two (TValue) (.bool))) := LL2 a0 a1 (0 : Int) ((0 : Int), ((0 : Int), ((0 : Int), ((⟨#[]⟩ : ByteArray), ()))))
noncomputable def ref05_Get : Nat → den (LAttr) → den (.int .i64) → Option (denR (.two (TValue) (.bool)))
  | 0, _, _ => none
  | n + 1, a0, a1 => ref05_Get_top  (ref05_Get_l2  n n) a0 a1
theorem ref05_Get_eq (n : Nat) (a0 : den (LAttr)) (a1 : den (.int .i64)) : (acalls cfg intr intrI n).p 13 [.s (.val (LAttr) a0), .s (.val (.int .i64) a1)] (.two (TValue) (.bool)) = ref05_Get n a0 a1 := by
  cases n with
  | zero => rfl
  | succ n =>
    have h : (acalls cfg intr intrI (n + 1)).p 13 [.s (.val (LAttr) a0), .s (.val (.int .i64) a1)] (.two (TValue) (.bool)) = ref05_Get_top  (fun (sett0 : den (LAttr)) (keyt1 : den (.int .i64)) (it6 : den (.int .i64)) (o4 : den (TValue)) => loopN (ref05_Get_F2 (acalls cfg intr intrI n) n) n (ref05_Get_sh2 sett0 keyt1 it6 o4)) a0 a1 := by kernel_rfl
    have e2 : (fun (sett0 : den (LAttr)) (keyt1 : den (.int .i64)) (it6 : den (.int .i64)) (o4 : den (TValue)) => loopN (ref05_Get_F2 (acalls cfg intr intrI n) n) n (ref05_Get_sh2 sett0 keyt1 it6 o4)) = ref05_Get_l2  n n := by funext sett0 keyt1 it6 o4; exact ref05_Get_l2_eq (acalls cfg intr intrI n) n n sett0 keyt1 it6 o4
    rw [h, e2]; rfl

noncomputable def B14 : Code := (Go.Proofs.Try.f14.body).getD .skip
noncomputable def ref05_Same_sh4 (at0 : den (LAttr)) (bt1 : den (LAttr)) (it5 : den (.int .i64)) : St := ⟨[.s (.val (LAttr) at0), .s (.val (LAttr) bt1), U, U, U, .s (.val (.int .i64) it5), U, U, U, U, U, U, U, U, U, U, U, U, U, U, U, U, U, U, U, U], []⟩
noncomputable def ref05_Same_s4    (LS4 : den (LAttr) → den (LAttr) → den (.int .i64) → Option (denR (.one (.bool)))) (at0 : den (LAttr)) (bt1 : den (LAttr)) (it5 : den (.int .i64)) : Option (denR (.one (.bool))) := (bif (decide (it5 < (at0.length : Int))) then (bif decide (0 ≤ it5) && decide (it5 < (at0.length : Int)) then (bif decide (0 ≤ it5) && decide (it5 < (bt1.length : Int)) then (bif (!eqT (TAttr) (at0.getD (Int.toNat it5) (dflt (TAttr))) (bt1.getD (Int.toNat it5) (dflt (TAttr)))) then some false else LS4 at0 bt1 (IntKind.wrap .i64 (it5 + (1 : Int)))) else none) else none) else some true)
noncomputable def ref05_Same_l4  (n : Nat)  : Nat → den (LAttr) → den (LAttr) → den (.int .i64) → Option (denR (.one (.bool)))
  | 0, _, _, _ => none
  | m + 1, at0, bt1, it5 => ref05_Same_s4    (fun (at0 : den (LAttr)) (bt1 : den (LAttr)) (it5 : den (.int .i64)) => ref05_Same_l4  n  m at0 bt1 it5) at0 bt1 it5
noncomputable def ref05_Same_g4    : List (den (TAttr)) → den (LAttr) → den (.int .i64) → Option (denR (.one (.bool)))
  | [], bt1, it5 => some true
  | x :: r, bt1, it5 => (bif decide (0 ≤ it5) && decide (it5 < (bt1.length : Int)) then (bif (!eqT (TAttr) x (bt1.getD (Int.toNat it5) (dflt (TAttr)))) then some false else ref05_Same_g4    r bt1 (it5 + (1 : Int))) else none)
theorem ref05_Same_l4_list  (n : Nat)  : ∀ (m i : Nat) (at0 : den (LAttr)) (bt1 : den (LAttr)), at0.length - i < m → i ≤ at0.length → at0.length < 4611686018427387904 → ref05_Same_l4  n  m at0 bt1 (i : Int) = ref05_Same_g4    (at0.drop i) bt1 (i : Int) := by
  intro m
  induction m with
  | zero => intro i at0 bt1 h1; omega
  | succ m ih =>
    intro i at0 bt1 h1 h2 h3
    show ref05_Same_s4    (fun (at0 : den (LAttr)) (bt1 : den (LAttr)) (it5 : den (.int .i64)) => ref05_Same_l4  n  m at0 bt1 it5) at0 bt1 (i : Int) = _
    unfold ref05_Same_s4
    have b0 : decide ((0 : Int) ≤ (i : Int)) = true := decide_eq_true (by omega)
    rcases Nat.lt_or_ge i at0.length with hi | hi
    · have b1 : decide ((i : Int) < (at0.length : Int)) = true := decide_eq_true (by omega)
      have bw : IntKind.i64.wrap ((i : Int) + (1 : Int)) = ((i + 1 : Nat) : Int) := w64s (by omega)
      have ih' : ∀ (bt1 : den (LAttr)), ref05_Same_l4  n  m at0 bt1 ((i + 1 : Nat) : Int) = ref05_Same_g4    (at0.drop (i + 1)) bt1 ((i + 1 : Nat) : Int) := fun bt1 => ih (i + 1) at0 bt1 (by omega) (by omega) h3
      simp only [b0, b1, bw, Bool.and_true, Bool.true_and, cond_true, Int.toNat_natCast, ih']
      rw [drop_getD hi (dflt (TAttr))]
      rfl
    · have b1 : decide ((i : Int) < (at0.length : Int)) = false := decide_eq_false (by omega)
      simp only [b1, cond_false]
      rw [List.drop_eq_nil_of_le hi]
      rfl
noncomputable def ref05_Same_F4 (call : Call0) (n : Nat)  : (St → Option (denR (.one (.bool)))) → St → Option (denR (.one (.bool))) := fun rec => exec cfg call n 14 (cat B14 [1, 1, 0, 1, 0, 0]) (kLoop rec (lk2 14 4 cfg.keep) (kBlock 0 (kSq (exec cfg call n 14 (cat B14 [1, 1, 1])) (kret cfg Go.Proofs.Try.f14 (.one (.bool))))))
theorem ref05_Same_l4_eq (call : Call0) (n : Nat)  : ∀ (m : Nat) (at0 : den (LAttr)) (bt1 : den (LAttr)) (it5 : den (.int .i64)), loopN (ref05_Same_F4 call n ) m (ref05_Same_sh4 at0 bt1 it5) = ref05_Same_l4  n  m at0 bt1 it5 := by
  intro m
  induction m with
  | zero => intros; rfl
  | succ m ih =>
    intro at0 bt1 it5
    have h : loopN (ref05_Same_F4 call n ) (m + 1) (ref05_Same_sh4 at0 bt1 it5) = ref05_Same_s4    (fun (at0 : den (LAttr)) (bt1 : den (LAttr)) (it5 : den (.int .i64)) => loopN (ref05_Same_F4 call n ) m (ref05_Same_sh4 at0 bt1 it5)) at0 bt1 it5 := by kernel_rfl
    have e0 : (fun (at0 : den (LAttr)) (bt1 : den (LAttr)) (it5 : den (.int .i64)) => loopN (ref05_Same_F4 call n ) m (ref05_Same_sh4 at0 bt1 it5)) = (fun (at0 : den (LAttr)) (bt1 : den (LAttr)) (it5 : den (.int .i64)) => ref05_Same_l4  n  m at0 bt1 it5) := by funext at0 bt1 it5; exact ih at0 bt1 it5
    rw [h, e0]; rfl
noncomputable def ref05_Same_top  (LL4 : den (LAttr) → den (LAttr) → den (.int .i64) → Option (denR (.one (.bool)))) (a0 : den (LAttr)) (a1 : den (LAttr)) : Option (denR (.one (.bool))) := (bif ((!decide ((a0.length : Int) = (a1.length : Int)))) then some false else LL4 a0 a1 (0 : Int))
noncomputable def ref05_Same : Nat → den (LAttr) → den (LAttr) → Option (denR (.one (.bool)))
  | 0, _, _ => none
  | n + 1, a0, a1 => ref05_Same_top  (ref05_Same_l4  n n) a0 a1
theorem ref05_Same_eq (n : Nat) (a0 : den (LAttr)) (a1 : den (LAttr)) : (acalls cfg intr intrI n).p 14 [.s (.val (LAttr) a0), .s (.val (LAttr) a1)] (.one (.bool)) = ref05_Same n a0 a1 := by
  cases n with
  | zero => rfl
  | succ n =>
    have h : (acalls cfg intr intrI (n + 1)).p 14 [.s (.val (LAttr) a0), .s (.val (LAttr) a1)] (.one (.bool)) = ref05_Same_top  (fun (at0 : den (LAttr)) (bt1 : den (LAttr)) (it5 : den (.int .i64)) => loopN (ref05_Same_F4 (acalls cfg intr intrI n) n) n (ref05_Same_sh4 at0 bt1 it5)) a0 a1 := by kernel_rfl
    have e4 : (fun (at0 : den (LAttr)) (bt1 : den (LAttr)) (it5 : den (.int .i64)) => loopN (ref05_Same_F4 (acalls cfg intr intrI n) n) n (ref05_Same_sh4 at0 bt1 it5)) = ref05_Same_l4  n n := by funext at0 bt1 it5; exact ref05_Same_l4_eq (acalls cfg intr intrI n) n n at0 bt1 it5
    rw [h, e4]; rfl

noncomputable def law14_RulesSteps_top (C_law14_great : den (LKey) → den (LChange) → den (LLAttr) → Option (denR (.one (.bool)))) (C_law14_known : Option (denR (.one (.bool)))) (C_ref05_Rising : den (LAttr) → Option (denR (.one (.bool)))) (C_schema_New : den (LKey) → Option (denR (.two (PSchema) (.int .i64)))) (C_Schema_Find : den (PSchema) → den (.int .i64) → Option (denR (.two (TKey) (.bool)))) (C_rules_Step : den (PSchema) → den (LAttr) → den (.int .i64) → den (.int .i64) → Option (denR (.two (LChange) (.int .i64)))) (C_patch_Apply : den (LAttr) → den (LChange) → Option (denR (.one (LAttr)))) (C_ref05_Get : den (LAttr) → den (.int .i64) → Option (denR (.two (TValue) (.bool)))) (C_ref05_Same : den (LAttr) → den (LAttr) → Option (denR (.one (.bool))))  (a0 : den (LKey)) (a1 : den (LAttr)) (a2 : den (.int .i64)) (a3 : den (.int .i64)) : Option (denR (.one (.bool))) := ((C_law14_great a0 ([] : den (LChange)) ([a1] : den (LLAttr))).bind fun r1 => (bif r1 then ((C_law14_known).bind fun r2 => some r2) else ((C_ref05_Rising a1).bind fun r3 => (bif (!r3) then ((C_law14_known).bind fun r4 => some r4) else ((C_schema_New a0).bind fun r5 => (bif ((!decide (r5.2 = (0 : Int)))) then ((C_law14_known).bind fun r6 => some r6) else ((C_Schema_Find r5.1 a2).bind fun r7 => ((C_rules_Step r5.1 a1 a2 a3).bind fun r8 => (bif (!r7.2) then (bif ((!decide (r8.2 = (0 : Int)))) then (bif (decide ((r8.1.length : Int) = (0 : Int))) then ((C_law14_known).bind fun r9 => some r9) else some false) else some false) else (bif ((!decide (r7.1.2.2.1 = (2 : Int)))) then (bif ((!decide (r8.2 = (0 : Int)))) then (bif (decide ((r8.1.length : Int) = (0 : Int))) then ((C_law14_known).bind fun r10 => some r10) else some false) else some false) else (bif (!r7.1.2.1) then (bif ((!decide (r8.2 = (0 : Int)))) then (bif (decide ((r8.1.length : Int) = (0 : Int))) then ((C_law14_known).bind fun r11 => some r11) else some false) else some false) else (bif ((!decide (r8.2 = (0 : Int)))) then some false else ((C_patch_Apply a1 r8.1).bind fun r12 => ((C_ref05_Get r12 a2).bind fun r13 => (bif r13.2 then (bif ((!decide (r13.1.1 = (2 : Int)))) then some false else (bif (decide (r13.1.2.1 < (1 : Int))) then some false else (bif (decide ((8 : Int) < r13.1.2.1)) then some false else ((C_rules_Step r5.1 r12 a2 (0 : Int)).bind fun r14 => (bif (decide (r14.2 = (0 : Int))) then (bif (decide ((r14.1.length : Int) = (0 : Int))) then ((C_patch_Apply r12 r14.1).bind fun r15 => ((C_ref05_Same r15 r12).bind fun r16 => (bif r16 then ((C_law14_known).bind fun r17 => some r17) else some false))) else (bif (!r13.2) then ((C_patch_Apply r12 r14.1).bind fun r18 => ((C_ref05_Same r18 r12).bind fun r19 => (bif r19 then ((C_law14_known).bind fun r20 => some r20) else some false))) else some false)) else some false))))) else ((C_rules_Step r5.1 r12 a2 (0 : Int)).bind fun r21 => (bif (decide (r21.2 = (0 : Int))) then (bif (decide ((r21.1.length : Int) = (0 : Int))) then ((C_patch_Apply r12 r21.1).bind fun r22 => ((C_ref05_Same r22 r12).bind fun r23 => (bif r23 then ((C_law14_known).bind fun r24 => some r24) else some false))) else (bif (!r13.2) then ((C_patch_Apply r12 r21.1).bind fun r25 => ((C_ref05_Same r25 r12).bind fun r26 => (bif r26 then ((C_law14_known).bind fun r27 => some r27) else some false))) else some false)) else some false)))))))))))))))))
noncomputable def law14_RulesSteps : Nat → den (LKey) → den (LAttr) → den (.int .i64) → den (.int .i64) → Option (denR (.one (.bool)))
  | 0, _, _, _, _ => none
  | n + 1, a0, a1, a2, a3 => law14_RulesSteps_top (law14_great n) (law14_known n) (ref05_Rising n) (schema_New n) (Schema_Find n) (rules_Step n) (patch_Apply n) (ref05_Get n) (ref05_Same n)  a0 a1 a2 a3
theorem law14_RulesSteps_eq (n : Nat) (a0 : den (LKey)) (a1 : den (LAttr)) (a2 : den (.int .i64)) (a3 : den (.int .i64)) : (acalls cfg intr intrI n).p 3 [.s (.val (LKey) a0), .s (.val (LAttr) a1), .s (.val (.int .i64) a2), .s (.val (.int .i64) a3)] (.one (.bool)) = law14_RulesSteps n a0 a1 a2 a3 := by
  cases n with
  | zero => rfl
  | succ n =>
    have h : (acalls cfg intr intrI (n + 1)).p 3 [.s (.val (LKey) a0), .s (.val (LAttr) a1), .s (.val (.int .i64) a2), .s (.val (.int .i64) a3)] (.one (.bool)) = law14_RulesSteps_top (fun (a0 : den (LKey)) (a1 : den (LChange)) (a2 : den (LLAttr)) => (acalls cfg intr intrI n).p 6 [.s (.val (LKey) a0), .s (.val (LChange) a1), .s (.val (LLAttr) a2)] (.one (.bool))) ((acalls cfg intr intrI n).p 8 [] (.one (.bool))) (fun (a0 : den (LAttr)) => (acalls cfg intr intrI n).p 7 [.s (.val (LAttr) a0)] (.one (.bool))) (fun (a0 : den (LKey)) => (acalls cfg intr intrI n).p 9 [.s (.val (LKey) a0)] (.two (PSchema) (.int .i64))) (fun (a0 : den (PSchema)) (a1 : den (.int .i64)) => (acalls cfg intr intrI n).p 10 [.s (.val (PSchema) a0), .s (.val (.int .i64) a1)] (.two (TKey) (.bool))) (fun (a0 : den (PSchema)) (a1 : den (LAttr)) (a2 : den (.int .i64)) (a3 : den (.int .i64)) => (acalls cfg intr intrI n).p 11 [.s (.val (PSchema) a0), .s (.val (LAttr) a1), .s (.val (.int .i64) a2), .s (.val (.int .i64) a3)] (.two (LChange) (.int .i64))) (fun (a0 : den (LAttr)) (a1 : den (LChange)) => (acalls cfg intr intrI n).p 12 [.s (.val (LAttr) a0), .s (.val (LChange) a1)] (.one (LAttr))) (fun (a0 : den (LAttr)) (a1 : den (.int .i64)) => (acalls cfg intr intrI n).p 13 [.s (.val (LAttr) a0), .s (.val (.int .i64) a1)] (.two (TValue) (.bool))) (fun (a0 : den (LAttr)) (a1 : den (LAttr)) => (acalls cfg intr intrI n).p 14 [.s (.val (LAttr) a0), .s (.val (LAttr) a1)] (.one (.bool)))  a0 a1 a2 a3 := by kernel_rfl
    have c_law14_great : (fun (a0 : den (LKey)) (a1 : den (LChange)) (a2 : den (LLAttr)) => (acalls cfg intr intrI n).p 6 [.s (.val (LKey) a0), .s (.val (LChange) a1), .s (.val (LLAttr) a2)] (.one (.bool))) = law14_great n := by funext a0 a1 a2; exact law14_great_eq n a0 a1 a2
    have c_law14_known : ((acalls cfg intr intrI n).p 8 [] (.one (.bool))) = law14_known n := law14_known_eq n
    have c_ref05_Rising : (fun (a0 : den (LAttr)) => (acalls cfg intr intrI n).p 7 [.s (.val (LAttr) a0)] (.one (.bool))) = ref05_Rising n := by funext a0; exact ref05_Rising_eq n a0
    have c_schema_New : (fun (a0 : den (LKey)) => (acalls cfg intr intrI n).p 9 [.s (.val (LKey) a0)] (.two (PSchema) (.int .i64))) = schema_New n := by funext a0; exact schema_New_eq n a0
    have c_Schema_Find : (fun (a0 : den (PSchema)) (a1 : den (.int .i64)) => (acalls cfg intr intrI n).p 10 [.s (.val (PSchema) a0), .s (.val (.int .i64) a1)] (.two (TKey) (.bool))) = Schema_Find n := by funext a0 a1; exact Schema_Find_eq n a0 a1
    have c_rules_Step : (fun (a0 : den (PSchema)) (a1 : den (LAttr)) (a2 : den (.int .i64)) (a3 : den (.int .i64)) => (acalls cfg intr intrI n).p 11 [.s (.val (PSchema) a0), .s (.val (LAttr) a1), .s (.val (.int .i64) a2), .s (.val (.int .i64) a3)] (.two (LChange) (.int .i64))) = rules_Step n := by funext a0 a1 a2 a3; exact rules_Step_eq n a0 a1 a2 a3
    have c_patch_Apply : (fun (a0 : den (LAttr)) (a1 : den (LChange)) => (acalls cfg intr intrI n).p 12 [.s (.val (LAttr) a0), .s (.val (LChange) a1)] (.one (LAttr))) = patch_Apply n := by funext a0 a1; exact patch_Apply_eq n a0 a1
    have c_ref05_Get : (fun (a0 : den (LAttr)) (a1 : den (.int .i64)) => (acalls cfg intr intrI n).p 13 [.s (.val (LAttr) a0), .s (.val (.int .i64) a1)] (.two (TValue) (.bool))) = ref05_Get n := by funext a0 a1; exact ref05_Get_eq n a0 a1
    have c_ref05_Same : (fun (a0 : den (LAttr)) (a1 : den (LAttr)) => (acalls cfg intr intrI n).p 14 [.s (.val (LAttr) a0), .s (.val (LAttr) a1)] (.one (.bool))) = ref05_Same n := by funext a0 a1; exact ref05_Same_eq n a0 a1
    rw [h, c_law14_great, c_law14_known, c_ref05_Rising, c_schema_New, c_Schema_Find, c_rules_Step, c_patch_Apply, c_ref05_Get, c_ref05_Same]; rfl

noncomputable def B15 : Code := (Go.Proofs.Try.f15.body).getD .skip
noncomputable def ref04_May_sh10 (t0 : den (LKey)) (t3 : den (.int .i64)) (t5 : den (.int .i64)) (o4 : den (TKey)) : St := ⟨[.s (.val (LKey) t0), U, U, .s (.val (.int .i64) t3), .s (.ref 4 []), .s (.val (.int .i64) t5), U, U, U, U, U, U, U, U, U, U, U, U, U, U, U, U, U, U, U, U, U, U, U, U, U, U, U, U, U, U, U, U, U, U, U, U, U, U, U, U, U, U, U, U, U, U, U, U, U, U, U, U, U, U, U, U, U, U, U, U, U, U, U, U, U, U, U, U, U, U, U, U], [(4, .box (TKey) o4)]⟩
noncomputable def ref04_May_sh4 (t0 : den (LKey)) (t3 : den (.int .i64)) : St := ⟨[.s (.val (LKey) t0), U, U, .s (.val (.int .i64) t3), U, U, U, U, U, U, U, U, U, U, U, U, U, U, U, U, U, U, U, U, U, U, U, U, U, U, U, U, U, U, U, U, U, U, U, U, U, U, U, U, U, U, U, U, U, U, U, U, U, U, U, U, U, U, U, U, U, U, U, U, U, U, U, U, U, U, U, U, U, U, U, U, U, U], []⟩
noncomputable def ref04_May_s10   (LS4 : den (LKey) → den (.int .i64) → Option (denR (.one (.bool)))) (LS10 : den (LKey) → den (.int .i64) → den (.int .i64) → den (TKey) → Option (denR (.one (.bool)))) (t0 : den (LKey)) (t3 : den (.int .i64)) (t5 : den (.int .i64)) (o4 : den (TKey)) : Option (denR (.one (.bool))) := (bif (decide (t5 < t3)) then (bif decide (0 ≤ t5) && decide (t5 < (t0.length : Int)) then (bif (decide ((t0.getD (Int.toNat t5) (dflt (TKey))).1 = o4.1)) then some false else LS10 t0 t3 (IntKind.wrap .i64 (t5 + (1 : Int))) o4) else none) else LS4 t0 (IntKind.wrap .i64 (t3 + (1 : Int))))
noncomputable def ref04_May_l10  (n : Nat) (LS4 : den (LKey) → den (.int .i64) → Option (denR (.one (.bool)))) : Nat → den (LKey) → den (.int .i64) → den (.int .i64) → den (TKey) → Option (denR (.one (.bool)))
  | 0, _, _, _, _ => none
  | m + 1, t0, t3, t5, o4 => ref04_May_s10   LS4 (fun (t0 : den (LKey)) (t3 : den (.int .i64)) (t5 : den (.int .i64)) (o4 : den (TKey)) => ref04_May_l10  n LS4 m t0 t3 t5 o4) t0 t3 t5 o4
noncomputable def ref04_May_F10 (call : Call0) (n : Nat) (r4 : St → Option (denR (.one (.bool)))) : (St → Option (denR (.one (.bool)))) → St → Option (denR (.one (.bool))) := fun rec => exec cfg call n 15 (cat B15 [1, 1, 0, 1, 0, 0, 1, 0, 0, 1, 1, 1, 0, 0]) (kLoop rec (lk2 15 10 cfg.keep) (kBlock 2 (kBlock 1 (kSq (exec cfg call n 15 (cat B15 [1, 1, 0, 1, 0, 0, 1, 1])) (kLoop r4 (lk2 15 4 cfg.keep) (kBlock 0 (kSq (exec cfg call n 15 (cat B15 [1, 1, 1])) (kret cfg Go.Proofs.Try.f15 (.one (.bool))))))))))
theorem ref04_May_l10_eq (call : Call0) (n : Nat) (r4 : St → Option (denR (.one (.bool)))) : ∀ (m : Nat) (t0 : den (LKey)) (t3 : den (.int .i64)) (t5 : den (.int .i64)) (o4 : den (TKey)), loopN (ref04_May_F10 call n r4) m (ref04_May_sh10 t0 t3 t5 o4) = ref04_May_l10  n (fun (t0 : den (LKey)) (t3 : den (.int .i64)) => r4 (ref04_May_sh4 t0 t3)) m t0 t3 t5 o4 := by
  intro m
  induction m with
  | zero => intros; rfl
  | succ m ih =>
    intro t0 t3 t5 o4
    have h : loopN (ref04_May_F10 call n r4) (m + 1) (ref04_May_sh10 t0 t3 t5 o4) = ref04_May_s10   (fun (t0 : den (LKey)) (t3 : den (.int .i64)) => r4 (ref04_May_sh4 t0 t3)) (fun (t0 : den (LKey)) (t3 : den (.int .i64)) (t5 : den (.int .i64)) (o4 : den (TKey)) => loopN (ref04_May_F10 call n r4) m (ref04_May_sh10 t0 t3 t5 o4)) t0 t3 t5 o4 := by kernel_rfl
    have e0 : (fun (t0 : den (LKey)) (t3 : den (.int .i64)) (t5 : den (.int .i64)) (o4 : den (TKey)) => loopN (ref04_May_F10 call n r4) m (ref04_May_sh10 t0 t3 t5 o4)) = (fun (t0 : den (LKey)) (t3 : den (.int .i64)) (t5 : den (.int .i64)) (o4 : den (TKey)) => ref04_May_l10  n (fun (t0 : den (LKey)) (t3 : den (.int .i64)) => r4 (ref04_May_sh4 t0 t3)) m t0 t3 t5 o4) := by funext t0 t3 t5 o4; exact ih t0 t3 t5 o4
    rw [h, e0]; rfl
noncomputable def ref04_May_s4  (LL10 : den (LKey) → den (.int .i64) → den (.int .i64) → den (TKey) → Option (denR (.one (.bool))))  (LS4 : den (LKey) → den (.int .i64) → Option (denR (.one (.bool)))) (t0 : den (LKey)) (t3 : den (.int .i64)) : Option (denR (.one (.bool))) := (bif (decide (t3 < (t0.length : Int))) then (bif decide (0 ≤ t3) && decide (t3 < (t0.length : Int)) then (bif (decide ((t0.getD (Int.toNat t3) (dflt (TKey))).1 < (1 : Int))) then some false else (bif (decide ((1000 : Int) < (t0.getD (Int.toNat t3) (dflt (TKey))).1)) then some false else (bif (decide ((((t0.getD (Int.toNat t3) (dflt (TKey))).2).2).1 < (1 : Int))) then some false else (bif (decide ((4 : Int) < (((t0.getD (Int.toNat t3) (dflt (TKey))).2).2).1)) then some false else (bif (decide (((((((t0.getD (Int.toNat t3) (dflt (TKey))).2).2).2).2).2).1 < (0 : Int))) then some false else (bif (decide ((8 : Int) < ((((((t0.getD (Int.toNat t3) (dflt (TKey))).2).2).2).2).2).1)) then some false else (bif (!((t0.getD (Int.toNat t3) (dflt (TKey))).2).1) then (bif ((!decide (((((((t0.getD (Int.toNat t3) (dflt (TKey))).2).2).2).2).2).1 = (0 : Int)))) then some false else (bif ((t0.getD (Int.toNat t3) (dflt (TKey))).2).1 then (bif (((((t0.getD (Int.toNat t3) (dflt (TKey))).2).2).2).2).1 then some false else LL10 t0 t3 (0 : Int) (t0.getD (Int.toNat t3) (dflt (TKey)))) else LL10 t0 t3 (0 : Int) (t0.getD (Int.toNat t3) (dflt (TKey))))) else (bif ((t0.getD (Int.toNat t3) (dflt (TKey))).2).1 then (bif (((((t0.getD (Int.toNat t3) (dflt (TKey))).2).2).2).2).1 then some false else LL10 t0 t3 (0 : Int) (t0.getD (Int.toNat t3) (dflt (TKey)))) else LL10 t0 t3 (0 : Int) (t0.getD (Int.toNat t3) (dflt (TKey))))))))))) else none) else some true)
noncomputable def ref04_May_l4  (n : Nat)  : Nat → den (LKey) → den (.int .i64) → Option (denR (.one (.bool)))
  | 0, _, _ => none
  | m + 1, t0, t3 => ref04_May_s4  (ref04_May_l10  n (fun (t0 : den (LKey)) (t3 : den (.int .i64)) => ref04_May_l4  n  m t0 t3) n)  (fun (t0 : den (LKey)) (t3 : den (.int .i64)) => ref04_May_l4  n  m t0 t3) t0 t3
noncomputable def ref04_May_F4 (call : Call0) (n : Nat)  : (St → Option (denR (.one (.bool)))) → St → Option (denR (.one (.bool))) := fun rec => exec cfg call n 15 (cat B15 [1, 1, 0, 1, 0, 0]) (kLoop rec (lk2 15 4 cfg.keep) (kBlock 0 (kSq (exec cfg call n 15 (cat B15 [1, 1, 1])) (kret cfg Go.Proofs.Try.f15 (.one (.bool))))))
theorem ref04_May_l4_eq (call : Call0) (n : Nat)  : ∀ (m : Nat) (t0 : den (LKey)) (t3 : den (.int .i64)), loopN (ref04_May_F4 call n ) m (ref04_May_sh4 t0 t3) = ref04_May_l4  n  m t0 t3 := by
  intro m
  induction m with
  | zero => intros; rfl
  | succ m ih =>
    intro t0 t3
    have h : loopN (ref04_May_F4 call n ) (m + 1) (ref04_May_sh4 t0 t3) = ref04_May_s4  (fun (t0 : den (LKey)) (t3 : den (.int .i64)) (t5 : den (.int .i64)) (o4 : den (TKey)) => loopN (ref04_May_F10 call n (loopN (ref04_May_F4 call n ) m)) n (ref04_May_sh10 t0 t3 t5 o4))  (fun (t0 : den (LKey)) (t3 : den (.int .i64)) => loopN (ref04_May_F4 call n ) m (ref04_May_sh4 t0 t3)) t0 t3 := by kernel_rfl
    have e10 : (fun (t0 : den (LKey)) (t3 : den (.int .i64)) (t5 : den (.int .i64)) (o4 : den (TKey)) => loopN (ref04_May_F10 call n (loopN (ref04_May_F4 call n ) m)) n (ref04_May_sh10 t0 t3 t5 o4)) = ref04_May_l10  n (fun (t0 : den (LKey)) (t3 : den (.int .i64)) => (loopN (ref04_May_F4 call n ) m) (ref04_May_sh4 t0 t3)) n := by funext t0 t3 t5 o4; exact ref04_May_l10_eq call n (loopN (ref04_May_F4 call n ) m) n t0 t3 t5 o4
    have e0 : (fun (t0 : den (LKey)) (t3 : den (.int .i64)) => loopN (ref04_May_F4 call n ) m (ref04_May_sh4 t0 t3)) = (fun (t0 : den (LKey)) (t3 : den (.int .i64)) => ref04_May_l4  n  m t0 t3) := by funext t0 t3; exact ih t0 t3
    rw [h, e10, e0]; rfl
noncomputable def ref04_May_top  (LL4 : den (LKey) → den (.int .i64) → Option (denR (.one (.bool)))) (a0 : den (LKey)) : Option (denR (.one (.bool))) := (bif (decide ((64 : Int) < (a0.length : Int))) then some false else LL4 a0 (0 : Int))
noncomputable def ref04_May : Nat → den (LKey) → Option (denR (.one (.bool)))
  | 0, _ => none
  | n + 1, a0 => ref04_May_top  (ref04_May_l4  n n) a0
theorem ref04_May_eq (n : Nat) (a0 : den (LKey)) : (acalls cfg intr intrI n).p 15 [.s (.val (LKey) a0)] (.one (.bool)) = ref04_May n a0 := by
  cases n with
  | zero => rfl
  | succ n =>
    have h : (acalls cfg intr intrI (n + 1)).p 15 [.s (.val (LKey) a0)] (.one (.bool)) = ref04_May_top  (fun (t0 : den (LKey)) (t3 : den (.int .i64)) => loopN (ref04_May_F4 (acalls cfg intr intrI n) n) n (ref04_May_sh4 t0 t3)) a0 := by kernel_rfl
    have e4 : (fun (t0 : den (LKey)) (t3 : den (.int .i64)) => loopN (ref04_May_F4 (acalls cfg intr intrI n) n) n (ref04_May_sh4 t0 t3)) = ref04_May_l4  n n := by funext t0 t3; exact ref04_May_l4_eq (acalls cfg intr intrI n) n n t0 t3
    rw [h, e4]; rfl

noncomputable def B16 : Code := (Go.Proofs.Try.f16.body).getD .skip
noncomputable def ref06_Rising_sh2 (pt0 : den (LChange)) (it3 : den (.int .i64)) : St := ⟨[.s (.val (LChange) pt0), U, U, .s (.val (.int .i64) it3), U, U, U, U, U, U, U, U, U, U, U, U, U, U, U, U, U, U], []⟩
noncomputable def ref06_Rising_s2    (LS2 : den (LChange) → den (.int .i64) → Option (denR (.one (.bool)))) (pt0 : den (LChange)) (it3 : den (.int .i64)) : Option (denR (.one (.bool))) := (bif (decide (it3 < (pt0.length : Int))) then (bif decide (0 ≤ (IntKind.wrap .i64 (it3 - (1 : Int)))) && decide ((IntKind.wrap .i64 (it3 - (1 : Int))) < (pt0.length : Int)) then (bif decide (0 ≤ it3) && decide (it3 < (pt0.length : Int)) then (bif (decide ((pt0.getD (Int.toNat it3) (dflt (TChange))).1 ≤ (pt0.getD (Int.toNat (IntKind.wrap .i64 (it3 - (1 : Int)))) (dflt (TChange))).1)) then some false else LS2 pt0 (IntKind.wrap .i64 (it3 + (1 : Int)))) else none) else none) else some true)
noncomputable def ref06_Rising_l2  (n : Nat)  : Nat → den (LChange) → den (.int .i64) → Option (denR (.one (.bool)))
  | 0, _, _ => none
  | m + 1, pt0, it3 => ref06_Rising_s2    (fun (pt0 : den (LChange)) (it3 : den (.int .i64)) => ref06_Rising_l2  n  m pt0 it3) pt0 it3
noncomputable def ref06_Rising_g2    : List (den (TChange)) → den (LChange) → den (.int .i64) → Option (denR (.one (.bool)))
  | [], pt0, it3 => some true
  | x :: r, pt0, it3 => (bif decide (0 ≤ (IntKind.wrap .i64 (it3 - (1 : Int)))) && decide ((IntKind.wrap .i64 (it3 - (1 : Int))) < (pt0.length : Int)) then (bif (decide (x.1 ≤ (pt0.getD (Int.toNat (IntKind.wrap .i64 (it3 - (1 : Int)))) (dflt (TChange))).1)) then some false else ref06_Rising_g2    r pt0 (it3 + (1 : Int))) else none)
theorem ref06_Rising_l2_list  (n : Nat)  : ∀ (m i : Nat) (pt0 : den (LChange)), pt0.length - i < m → i ≤ pt0.length → pt0.length < 4611686018427387904 → ref06_Rising_l2  n  m pt0 (i : Int) = ref06_Rising_g2    (pt0.drop i) pt0 (i : Int) := by
  intro m
  induction m with
  | zero => intro i pt0 h1; omega
  | succ m ih =>
    intro i pt0 h1 h2 h3
    show ref06_Rising_s2    (fun (pt0 : den (LChange)) (it3 : den (.int .i64)) => ref06_Rising_l2  n  m pt0 it3) pt0 (i : Int) = _
    unfold ref06_Rising_s2
    have b0 : decide ((0 : Int) ≤ (i : Int)) = true := decide_eq_true (by omega)
    rcases Nat.lt_or_ge i pt0.length with hi | hi
    · have b1 : decide ((i : Int) < (pt0.length : Int)) = true := decide_eq_true (by omega)
      have bw : IntKind.i64.wrap ((i : Int) + (1 : Int)) = ((i + 1 : Nat) : Int) := w64s (by omega)
      have ih' : ∀ (_u : Unit), ref06_Rising_l2  n  m pt0 ((i + 1 : Nat) : Int) = ref06_Rising_g2    (pt0.drop (i + 1)) pt0 ((i + 1 : Nat) : Int) := fun _u => ih (i + 1) pt0 (by omega) (by omega) h3
      simp only [b0, b1, bw, Bool.and_true, Bool.true_and, cond_true, Int.toNat_natCast, ih' ()]
      rw [drop_getD hi (dflt (TChange))]
      rfl
    · have b1 : decide ((i : Int) < (pt0.length : Int)) = false := decide_eq_false (by omega)
      simp only [b1, cond_false]
      rw [List.drop_eq_nil_of_le hi]
      rfl
noncomputable def ref06_Rising_F2 (call : Call0) (n : Nat)  : (St → Option (denR (.one (.bool)))) → St → Option (denR (.one (.bool))) := fun rec => exec cfg call n 16 (cat B16 [1, 0, 1, 0, 0]) (kLoop rec (lk2 16 2 cfg.keep) (kBlock 0 (kSq (exec cfg call n 16 (cat B16 [1, 1])) (kret cfg Go.Proofs.Try.f16 (.one (.bool))))))
theorem ref06_Rising_l2_eq (call : Call0) (n : Nat)  : ∀ (m : Nat) (pt0 : den (LChange)) (it3 : den (.int .i64)), loopN (ref06_Rising_F2 call n ) m (ref06_Rising_sh2 pt0 it3) = ref06_Rising_l2  n  m pt0 it3 := by
  intro m
  induction m with
  | zero => intros; rfl
  | succ m ih =>
    intro pt0 it3
    have h : loopN (ref06_Rising_F2 call n ) (m + 1) (ref06_Rising_sh2 pt0 it3) = ref06_Rising_s2    (fun (pt0 : den (LChange)) (it3 : den (.int .i64)) => loopN (ref06_Rising_F2 call n ) m (ref06_Rising_sh2 pt0 it3)) pt0 it3 := by kernel_rfl
    have e0 : (fun (pt0 : den (LChange)) (it3 : den (.int .i64)) => loopN (ref06_Rising_F2 call n ) m (ref06_Rising_sh2 pt0 it3)) = (fun (pt0 : den (LChange)) (it3 : den (.int .i64)) => ref06_Rising_l2  n  m pt0 it3) := by funext pt0 it3; exact ih pt0 it3
    rw [h, e0]; rfl
noncomputable def ref06_Rising_top  (LL2 : den (LChange) → den (.int .i64) → Option (denR (.one (.bool)))) (a0 : den (LChange)) : Option (denR (.one (.bool))) := LL2 a0 (1 : Int)
noncomputable def ref06_Rising : Nat → den (LChange) → Option (denR (.one (.bool)))
  | 0, _ => none
  | n + 1, a0 => ref06_Rising_top  (ref06_Rising_l2  n n) a0
theorem ref06_Rising_eq (n : Nat) (a0 : den (LChange)) : (acalls cfg intr intrI n).p 16 [.s (.val (LChange) a0)] (.one (.bool)) = ref06_Rising n a0 := by
  cases n with
  | zero => rfl
  | succ n =>
    have h : (acalls cfg intr intrI (n + 1)).p 16 [.s (.val (LChange) a0)] (.one (.bool)) = ref06_Rising_top  (fun (pt0 : den (LChange)) (it3 : den (.int .i64)) => loopN (ref06_Rising_F2 (acalls cfg intr intrI n) n) n (ref06_Rising_sh2 pt0 it3)) a0 := by kernel_rfl
    have e2 : (fun (pt0 : den (LChange)) (it3 : den (.int .i64)) => loopN (ref06_Rising_F2 (acalls cfg intr intrI n) n) n (ref06_Rising_sh2 pt0 it3)) = ref06_Rising_l2  n n := by funext pt0 it3; exact ref06_Rising_l2_eq (acalls cfg intr intrI n) n n pt0 it3
    rw [h, e2]; rfl

noncomputable def rules_Split_1_top   (a0 : den (TKey)) : Option (denR (.one (.bool))) := (bif a0.2.1 then some a0.2.2.2.1 else some false)
noncomputable def rules_Split_1 : Nat → den (TKey) → Option (denR (.one (.bool)))
  | 0, _ => none
  | n + 1, a0 => rules_Split_1_top   a0
theorem rules_Split_1_eq (n : Nat) (a0 : den (TKey)) : (acalls cfg intr intrI n).p 38 [.s (.val (TKey) a0)] (.one (.bool)) = rules_Split_1 n a0 := by
  cases n with
  | zero => rfl
  | succ n =>
    have h : (acalls cfg intr intrI (n + 1)).p 38 [.s (.val (TKey) a0)] (.one (.bool)) = rules_Split_1_top   a0 := by kernel_rfl
    rw [h]; rfl

noncomputable def B37 : Code := (Go.Proofs.Try.f37.body).getD .skip
noncomputable def rules_sift__rules_Split_1_sh3 (st0 : den (PSchema)) (t12 : den (LAttr)) (t13 : den (.int .i64)) (t14 : den (.int .i64)) (lo7 : den (LAttr)) : St := ⟨[.s (.val (PSchema) st0), U, .fn 38 [], U, U, U, U, .s (.arr 7), U, U, U, U, .s (.val (LAttr) t12), .s (.val (.int .i64) t13), .s (.val (.int .i64) t14), U, U, U, U, U, U, U, U, U, U, U, U, U, U, U, U, U, U, U, U, U, U], [(7, .arr 60 (TAttr) lo7)]⟩
noncomputable def rules_sift__rules_Split_1_s3 (C_Schema_Find : den (PSchema) → den (.int .i64) → Option (denR (.two (TKey) (.bool)))) (C_rules_Split_1 : den (TKey) → Option (denR (.one (.bool))))   (LS3 : den (PSchema) → den (LAttr) → den (.int .i64) → den (.int .i64) → den (LAttr) → Option (denR (.one (LAttr)))) (st0 : den (PSchema)) (t12 : den (LAttr)) (t13 : den (.int .i64)) (t14 : den (.int .i64)) (lo7 : den (LAttr)) : Option (denR (.one (LAttr))) := (bif (decide (t14 < t13)) then (bif decide (0 ≤ t14) && decide (t14 < (t12.length : Int)) then ((C_Schema_Find st0 ((t12.getD (Int.toNat t14) (dflt (TAttr))).1)).bind fun r1 => (bif r1.2 then ((C_rules_Split_1 r1.1).bind fun r2 => (bif r2 then (bif decide ((lo7.length + ([(t12.getD (Int.toNat t14) (dflt (TAttr)))] : List (den (TAttr))).length) * 48 ≤ 140737488355328) then LS3 st0 t12 t13 (IntKind.wrap .i64 (t14 + (1 : Int))) (lo7 ++ ([(t12.getD (Int.toNat t14) (dflt (TAttr)))] : List (den (TAttr)))) else none) else LS3 st0 t12 t13 (IntKind.wrap .i64 (t14 + (1 : Int))) lo7)) else LS3 st0 t12 t13 (IntKind.wrap .i64 (t14 + (1 : Int))) lo7)) else none) else some lo7)
noncomputable def rules_sift__rules_Split_1_l3 (C_Schema_Find : den (PSchema) → den (.int .i64) → Option (denR (.two (TKey) (.bool)))) (C_rules_Split_1 : den (TKey) → Option (denR (.one (.bool)))) (n : Nat)  : Nat → den (PSchema) → den (LAttr) → den (.int .i64) → den (.int .i64) → den (LAttr) → Option (denR (.one (LAttr)))
  | 0, _, _, _, _, _ => none
  | m + 1, st0, t12, t13, t14, lo7 => rules_sift__rules_Split_1_s3 C_Schema_Find C_rules_Split_1   (fun (st0 : den (PSchema)) (t12 : den (LAttr)) (t13 : den (.int .i64)) (t14 : den (.int .i64)) (lo7 : den (LAttr)) => rules_sift__rules_Split_1_l3 C_Schema_Find C_rules_Split_1 n  m st0 t12 t13 t14 lo7) st0 t12 t13 t14 lo7
noncomputable def rules_sift__rules_Split_1_g3 (C_Schema_Find : den (PSchema) → den (.int .i64) → Option (denR (.two (TKey) (.bool)))) (C_rules_Split_1 : den (TKey) → Option (denR (.one (.bool))))   : List (den (TAttr)) → den (PSchema) → den (LAttr) → Option (denR (.one (LAttr)))
  | [], st0, lo7 => some lo7
  | x :: r, st0, lo7 => ((C_Schema_Find st0 x.1).bind fun r3 => (bif r3.2 then ((C_rules_Split_1 r3.1).bind fun r4 => (bif r4 then (bif decide ((lo7.length + ([x] : List (den (TAttr))).length) * 48 ≤ 140737488355328) then rules_sift__rules_Split_1_g3 C_Schema_Find C_rules_Split_1   r st0 (lo7 ++ ([x] : List (den (TAttr)))) else none) else rules_sift__rules_Split_1_g3 C_Schema_Find C_rules_Split_1   r st0 lo7)) else rules_sift__rules_Split_1_g3 C_Schema_Find C_rules_Split_1   r st0 lo7))
theorem rules_sift__rules_Split_1_l3_list (C_Schema_Find : den (PSchema) → den (.int .i64) → Option (denR (.two (TKey) (.bool)))) (C_rules_Split_1 : den (TKey) → Option (denR (.one (.bool)))) (n : Nat)  : ∀ (m i : Nat) (st0 : den (PSchema)) (t12 : den (LAttr)) (lo7 : den (LAttr)), t12.length - i < m → i ≤ t12.length → t12.length < 4611686018427387904 → rules_sift__rules_Split_1_l3 C_Schema_Find C_rules_Split_1 n  m st0 t12 (t12.length : Int) (i : Int) lo7 = rules_sift__rules_Split_1_g3 C_Schema_Find C_rules_Split_1   (t12.drop i) st0 lo7 := by
  intro m
  induction m with
  | zero => intro i st0 t12 lo7 h1; omega
  | succ m ih =>
    intro i st0 t12 lo7 h1 h2 h3
    show rules_sift__rules_Split_1_s3 C_Schema_Find C_rules_Split_1   (fun (st0 : den (PSchema)) (t12 : den (LAttr)) (t13 : den (.int .i64)) (t14 : den (.int .i64)) (lo7 : den (LAttr)) => rules_sift__rules_Split_1_l3 C_Schema_Find C_rules_Split_1 n  m st0 t12 t13 t14 lo7) st0 t12 (t12.length : Int) (i : Int) lo7 = _
    unfold rules_sift__rules_Split_1_s3
    have b0 : decide ((0 : Int) ≤ (i : Int)) = true := decide_eq_true (by omega)
    rcases Nat.lt_or_ge i t12.length with hi | hi
    · have b1 : decide ((i : Int) < (t12.length : Int)) = true := decide_eq_true (by omega)
      have bw : IntKind.i64.wrap ((i : Int) + (1 : Int)) = ((i + 1 : Nat) : Int) := w64s (by omega)
      have ih' : ∀ (st0 : den (PSchema)) (lo7 : den (LAttr)), rules_sift__rules_Split_1_l3 C_Schema_Find C_rules_Split_1 n  m st0 t12 (t12.length : Int) ((i + 1 : Nat) : Int) lo7 = rules_sift__rules_Split_1_g3 C_Schema_Find C_rules_Split_1   (t12.drop (i + 1)) st0 lo7 := fun st0 lo7 => ih (i + 1) st0 t12 lo7 (by omega) (by omega) h3
      simp only [b0, b1, bw, Bool.and_true, Bool.true_and, cond_true, Int.toNat_natCast, ih']
      rw [drop_getD hi (dflt (TAttr))]
      rfl
    · have b1 : decide ((i : Int) < (t12.length : Int)) = false := decide_eq_false (by omega)
      simp only [b1, cond_false]
      rw [List.drop_eq_nil_of_le hi]
      rfl
noncomputable def rules_sift__rules_Split_1_F3 (call : Call0) (n : Nat)  : (St → Option (denR (.one (LAttr)))) → St → Option (denR (.one (LAttr))) := fun rec => exec cfg call n 37 (cat B37 [1, 1, 0, 1, 0, 0]) (kLoop rec (lk2 37 3 cfg.keep) (kBlock 0 (kSq (exec cfg call n 37 (cat B37 [1, 1, 1])) (kret cfg Go.Proofs.Try.f37 (.one (LAttr))))))
theorem rules_sift__rules_Split_1_l3_eq (call : Call0) (n : Nat)  : ∀ (m : Nat) (st0 : den (PSchema)) (t12 : den (LAttr)) (t13 : den (.int .i64)) (t14 : den (.int .i64)) (lo7 : den (LAttr)), loopN (rules_sift__rules_Split_1_F3 call n ) m (rules_sift__rules_Split_1_sh3 st0 t12 t13 t14 lo7) = rules_sift__rules_Split_1_l3 (fun (a0 : den (PSchema)) (a1 : den (.int .i64)) => call.p 10 [.s (.val (PSchema) a0), .s (.val (.int .i64) a1)] (.two (TKey) (.bool))) (fun (a0 : den (TKey)) => call.p 38 [.s (.val (TKey) a0)] (.one (.bool))) n  m st0 t12 t13 t14 lo7 := by
  intro m
  induction m with
  | zero => intros; rfl
  | succ m ih =>
    intro st0 t12 t13 t14 lo7
    have h : loopN (rules_sift__rules_Split_1_F3 call n ) (m + 1) (rules_sift__rules_Split_1_sh3 st0 t12 t13 t14 lo7) = rules_sift__rules_Split_1_s3 (fun (a0 : den (PSchema)) (a1 : den (.int .i64)) => call.p 10 [.s (.val (PSchema) a0), .s (.val (.int .i64) a1)] (.two (TKey) (.bool))) (fun (a0 : den (TKey)) => call.p 38 [.s (.val (TKey) a0)] (.one (.bool)))   (fun (st0 : den (PSchema)) (t12 : den (LAttr)) (t13 : den (.int .i64)) (t14 : den (.int .i64)) (lo7 : den (LAttr)) => loopN (rules_sift__rules_Split_1_F3 call n ) m (rules_sift__rules_Split_1_sh3 st0 t12 t13 t14 lo7)) st0 t12 t13 t14 lo7 := by kernel_rfl
    have e0 : (fun (st0 : den (PSchema)) (t12 : den (LAttr)) (t13 : den (.int .i64)) (t14 : den (.int .i64)) (lo7 : den (LAttr)) => loopN (rules_sift__rules_Split_1_F3 call n ) m (rules_sift__rules_Split_1_sh3 st0 t12 t13 t14 lo7)) = (fun (st0 : den (PSchema)) (t12 : den (LAttr)) (t13 : den (.int .i64)) (t14 : den (.int .i64)) (lo7 : den (LAttr)) => rules_sift__rules_Split_1_l3 (fun (a0 : den (PSchema)) (a1 : den (.int .i64)) => call.p 10 [.s (.val (PSchema) a0), .s (.val (.int .i64) a1)] (.two (TKey) (.bool))) (fun (a0 : den (TKey)) => call.p 38 [.s (.val (TKey) a0)] (.one (.bool))) n  m st0 t12 t13 t14 lo7) := by funext st0 t12 t13 t14 lo7; exact ih st0 t12 t13 t14 lo7
    rw [h, e0]; rfl
noncomputable def rules_sift__rules_Split_1_top (C_Schema_Find : den (PSchema) → den (.int .i64) → Option (denR (.two (TKey) (.bool)))) (C_rules_Split_1 : den (TKey) → Option (denR (.one (.bool)))) (LL3 : den (PSchema) → den (LAttr) → den (.int .i64) → den (.int .i64) → den (LAttr) → Option (denR (.one (LAttr)))) (a0 : den (PSchema)) (a1 : den (LAttr)) : Option (denR (.one (LAttr))) := LL3 a0 a1 (a1.length : Int) (0 : Int) []
noncomputable def rules_sift__rules_Split_1 : Nat → den (PSchema) → den (LAttr) → Option (denR (.one (LAttr)))
  | 0, _, _ => none
  | n + 1, a0, a1 => rules_sift__rules_Split_1_top (Schema_Find n) (rules_Split_1 n) (rules_sift__rules_Split_1_l3 (Schema_Find n) (rules_Split_1 n) n n) a0 a1
theorem rules_sift__rules_Split_1_eq (n : Nat) (a0 : den (PSchema)) (a1 : den (LAttr)) : (acalls cfg intr intrI n).p 37 [.s (.val (PSchema) a0), .s (.val (LAttr) a1), .fn 38 []] (.one (LAttr)) = rules_sift__rules_Split_1 n a0 a1 := by
  cases n with
  | zero => rfl
  | succ n =>
    have h : (acalls cfg intr intrI (n + 1)).p 37 [.s (.val (PSchema) a0), .s (.val (LAttr) a1), .fn 38 []] (.one (LAttr)) = rules_sift__rules_Split_1_top (fun (a0 : den (PSchema)) (a1 : den (.int .i64)) => (acalls cfg intr intrI n).p 10 [.s (.val (PSchema) a0), .s (.val (.int .i64) a1)] (.two (TKey) (.bool))) (fun (a0 : den (TKey)) => (acalls cfg intr intrI n).p 38 [.s (.val (TKey) a0)] (.one (.bool))) (fun (st0 : den (PSchema)) (t12 : den (LAttr)) (t13 : den (.int .i64)) (t14 : den (.int .i64)) (lo7 : den (LAttr)) => loopN (rules_sift__rules_Split_1_F3 (acalls cfg intr intrI n) n) n (rules_sift__rules_Split_1_sh3 st0 t12 t13 t14 lo7)) a0 a1 := by kernel_rfl
    have e3 : (fun (st0 : den (PSchema)) (t12 : den (LAttr)) (t13 : den (.int .i64)) (t14 : den (.int .i64)) (lo7 : den (LAttr)) => loopN (rules_sift__rules_Split_1_F3 (acalls cfg intr intrI n) n) n (rules_sift__rules_Split_1_sh3 st0 t12 t13 t14 lo7)) = rules_sift__rules_Split_1_l3 (fun (a0 : den (PSchema)) (a1 : den (.int .i64)) => (acalls cfg intr intrI n).p 10 [.s (.val (PSchema) a0), .s (.val (.int .i64) a1)] (.two (TKey) (.bool))) (fun (a0 : den (TKey)) => (acalls cfg intr intrI n).p 38 [.s (.val (TKey) a0)] (.one (.bool))) n n := by funext st0 t12 t13 t14 lo7; exact rules_sift__rules_Split_1_l3_eq (acalls cfg intr intrI n) n n st0 t12 t13 t14 lo7
    have c_Schema_Find : (fun (a0 : den (PSchema)) (a1 : den (.int .i64)) => (acalls cfg intr intrI n).p 10 [.s (.val (PSchema) a0), .s (.val (.int .i64) a1)] (.two (TKey) (.bool))) = Schema_Find n := by funext a0 a1; exact Schema_Find_eq n a0 a1
    have c_rules_Split_1 : (fun (a0 : den (TKey)) => (acalls cfg intr intrI n).p 38 [.s (.val (TKey) a0)] (.one (.bool))) = rules_Split_1 n := by funext a0; exact rules_Split_1_eq n a0
    rw [h, e3, c_Schema_Find, c_rules_Split_1]; rfl

noncomputable def rules_Split_top (C_rules_sift__rules_Split_1 : den (PSchema) → den (LAttr) → Option (denR (.one (LAttr))))  (a0 : den (PSchema)) (a1 : den (LAttr)) : Option (denR (.one (LAttr))) := ((C_rules_sift__rules_Split_1 a0 a1).bind fun r1 => some r1)
noncomputable def rules_Split : Nat → den (PSchema) → den (LAttr) → Option (denR (.one (LAttr)))
  | 0, _, _ => none
  | n + 1, a0, a1 => rules_Split_top (rules_sift__rules_Split_1 n)  a0 a1
theorem rules_Split_eq (n : Nat) (a0 : den (PSchema)) (a1 : den (LAttr)) : (acalls cfg intr intrI n).p 18 [.s (.val (PSchema) a0), .s (.val (LAttr) a1)] (.one (LAttr)) = rules_Split n a0 a1 := by
  cases n with
  | zero => rfl
  | succ n =>
    have h : (acalls cfg intr intrI (n + 1)).p 18 [.s (.val (PSchema) a0), .s (.val (LAttr) a1)] (.one (LAttr)) = rules_Split_top (fun (a0 : den (PSchema)) (a1 : den (LAttr)) => (acalls cfg intr intrI n).p 37 [.s (.val (PSchema) a0), .s (.val (LAttr) a1), .fn 38 []] (.one (LAttr)))  a0 a1 := by kernel_rfl
    have c_rules_sift__rules_Split_1 : (fun (a0 : den (PSchema)) (a1 : den (LAttr)) => (acalls cfg intr intrI n).p 37 [.s (.val (PSchema) a0), .s (.val (LAttr) a1), .fn 38 []] (.one (LAttr))) = rules_sift__rules_Split_1 n := by funext a0 a1; exact rules_sift__rules_Split_1_eq n a0 a1
    rw [h, c_rules_sift__rules_Split_1]; rfl

noncomputable def rules_Typed_1_top   (a0 : den (TKey)) : Option (denR (.one (.bool))) := (bif (!a0.2.1) then some a0.2.2.2.1 else some false)
noncomputable def rules_Typed_1 : Nat → den (TKey) → Option (denR (.one (.bool)))
  | 0, _ => none
  | n + 1, a0 => rules_Typed_1_top   a0
theorem rules_Typed_1_eq (n : Nat) (a0 : den (TKey)) : (acalls cfg intr intrI n).p 39 [.s (.val (TKey) a0)] (.one (.bool)) = rules_Typed_1 n a0 := by
  cases n with
  | zero => rfl
  | succ n =>
    have h : (acalls cfg intr intrI (n + 1)).p 39 [.s (.val (TKey) a0)] (.one (.bool)) = rules_Typed_1_top   a0 := by kernel_rfl
    rw [h]; rfl

noncomputable def rules_sift__rules_Typed_1_sh3 (st0 : den (PSchema)) (t12 : den (LAttr)) (t13 : den (.int .i64)) (t14 : den (.int .i64)) (lo7 : den (LAttr)) : St := ⟨[.s (.val (PSchema) st0), U, .fn 39 [], U, U, U, U, .s (.arr 7), U, U, U, U, .s (.val (LAttr) t12), .s (.val (.int .i64) t13), .s (.val (.int .i64) t14), U, U, U, U, U, U, U, U, U, U, U, U, U, U, U, U, U, U, U, U, U, U], [(7, .arr 60 (TAttr) lo7)]⟩
noncomputable def rules_sift__rules_Typed_1_s3 (C_Schema_Find : den (PSchema) → den (.int .i64) → Option (denR (.two (TKey) (.bool)))) (C_rules_Typed_1 : den (TKey) → Option (denR (.one (.bool))))   (LS3 : den (PSchema) → den (LAttr) → den (.int .i64) → den (.int .i64) → den (LAttr) → Option (denR (.one (LAttr)))) (st0 : den (PSchema)) (t12 : den (LAttr)) (t13 : den (.int .i64)) (t14 : den (.int .i64)) (lo7 : den (LAttr)) : Option (denR (.one (LAttr))) := (bif (decide (t14 < t13)) then (bif decide (0 ≤ t14) && decide (t14 < (t12.length : Int)) then ((C_Schema_Find st0 ((t12.getD (Int.toNat t14) (dflt (TAttr))).1)).bind fun r1 => (bif r1.2 then ((C_rules_Typed_1 r1.1).bind fun r2 => (bif r2 then (bif decide ((lo7.length + ([(t12.getD (Int.toNat t14) (dflt (TAttr)))] : List (den (TAttr))).length) * 48 ≤ 140737488355328) then LS3 st0 t12 t13 (IntKind.wrap .i64 (t14 + (1 : Int))) (lo7 ++ ([(t12.getD (Int.toNat t14) (dflt (TAttr)))] : List (den (TAttr)))) else none) else LS3 st0 t12 t13 (IntKind.wrap .i64 (t14 + (1 : Int))) lo7)) else LS3 st0 t12 t13 (IntKind.wrap .i64 (t14 + (1 : Int))) lo7)) else none) else some lo7)
noncomputable def rules_sift__rules_Typed_1_l3 (C_Schema_Find : den (PSchema) → den (.int .i64) → Option (denR (.two (TKey) (.bool)))) (C_rules_Typed_1 : den (TKey) → Option (denR (.one (.bool)))) (n : Nat)  : Nat → den (PSchema) → den (LAttr) → den (.int .i64) → den (.int .i64) → den (LAttr) → Option (denR (.one (LAttr)))
  | 0, _, _, _, _, _ => none
  | m + 1, st0, t12, t13, t14, lo7 => rules_sift__rules_Typed_1_s3 C_Schema_Find C_rules_Typed_1   (fun (st0 : den (PSchema)) (t12 : den (LAttr)) (t13 : den (.int .i64)) (t14 : den (.int .i64)) (lo7 : den (LAttr)) => rules_sift__rules_Typed_1_l3 C_Schema_Find C_rules_Typed_1 n  m st0 t12 t13 t14 lo7) st0 t12 t13 t14 lo7
noncomputable def rules_sift__rules_Typed_1_g3 (C_Schema_Find : den (PSchema) → den (.int .i64) → Option (denR (.two (TKey) (.bool)))) (C_rules_Typed_1 : den (TKey) → Option (denR (.one (.bool))))   : List (den (TAttr)) → den (PSchema) → den (LAttr) → Option (denR (.one (LAttr)))
  | [], st0, lo7 => some lo7
  | x :: r, st0, lo7 => ((C_Schema_Find st0 x.1).bind fun r3 => (bif r3.2 then ((C_rules_Typed_1 r3.1).bind fun r4 => (bif r4 then (bif decide ((lo7.length + ([x] : List (den (TAttr))).length) * 48 ≤ 140737488355328) then rules_sift__rules_Typed_1_g3 C_Schema_Find C_rules_Typed_1   r st0 (lo7 ++ ([x] : List (den (TAttr)))) else none) else rules_sift__rules_Typed_1_g3 C_Schema_Find C_rules_Typed_1   r st0 lo7)) else rules_sift__rules_Typed_1_g3 C_Schema_Find C_rules_Typed_1   r st0 lo7))
theorem rules_sift__rules_Typed_1_l3_list (C_Schema_Find : den (PSchema) → den (.int .i64) → Option (denR (.two (TKey) (.bool)))) (C_rules_Typed_1 : den (TKey) → Option (denR (.one (.bool)))) (n : Nat)  : ∀ (m i : Nat) (st0 : den (PSchema)) (t12 : den (LAttr)) (lo7 : den (LAttr)), t12.length - i < m → i ≤ t12.length → t12.length < 4611686018427387904 → rules_sift__rules_Typed_1_l3 C_Schema_Find C_rules_Typed_1 n  m st0 t12 (t12.length : Int) (i : Int) lo7 = rules_sift__rules_Typed_1_g3 C_Schema_Find C_rules_Typed_1   (t12.drop i) st0 lo7 := by
  intro m
  induction m with
  | zero => intro i st0 t12 lo7 h1; omega
  | succ m ih =>
    intro i st0 t12 lo7 h1 h2 h3
    show rules_sift__rules_Typed_1_s3 C_Schema_Find C_rules_Typed_1   (fun (st0 : den (PSchema)) (t12 : den (LAttr)) (t13 : den (.int .i64)) (t14 : den (.int .i64)) (lo7 : den (LAttr)) => rules_sift__rules_Typed_1_l3 C_Schema_Find C_rules_Typed_1 n  m st0 t12 t13 t14 lo7) st0 t12 (t12.length : Int) (i : Int) lo7 = _
    unfold rules_sift__rules_Typed_1_s3
    have b0 : decide ((0 : Int) ≤ (i : Int)) = true := decide_eq_true (by omega)
    rcases Nat.lt_or_ge i t12.length with hi | hi
    · have b1 : decide ((i : Int) < (t12.length : Int)) = true := decide_eq_true (by omega)
      have bw : IntKind.i64.wrap ((i : Int) + (1 : Int)) = ((i + 1 : Nat) : Int) := w64s (by omega)
      have ih' : ∀ (st0 : den (PSchema)) (lo7 : den (LAttr)), rules_sift__rules_Typed_1_l3 C_Schema_Find C_rules_Typed_1 n  m st0 t12 (t12.length : Int) ((i + 1 : Nat) : Int) lo7 = rules_sift__rules_Typed_1_g3 C_Schema_Find C_rules_Typed_1   (t12.drop (i + 1)) st0 lo7 := fun st0 lo7 => ih (i + 1) st0 t12 lo7 (by omega) (by omega) h3
      simp only [b0, b1, bw, Bool.and_true, Bool.true_and, cond_true, Int.toNat_natCast, ih']
      rw [drop_getD hi (dflt (TAttr))]
      rfl
    · have b1 : decide ((i : Int) < (t12.length : Int)) = false := decide_eq_false (by omega)
      simp only [b1, cond_false]
      rw [List.drop_eq_nil_of_le hi]
      rfl
noncomputable def rules_sift__rules_Typed_1_F3 (call : Call0) (n : Nat)  : (St → Option (denR (.one (LAttr)))) → St → Option (denR (.one (LAttr))) := fun rec => exec cfg call n 37 (cat B37 [1, 1, 0, 1, 0, 0]) (kLoop rec (lk2 37 3 cfg.keep) (kBlock 0 (kSq (exec cfg call n 37 (cat B37 [1, 1, 1])) (kret cfg Go.Proofs.Try.f37 (.one (LAttr))))))
theorem rules_sift__rules_Typed_1_l3_eq (call : Call0) (n : Nat)  : ∀ (m : Nat) (st0 : den (PSchema)) (t12 : den (LAttr)) (t13 : den (.int .i64)) (t14 : den (.int .i64)) (lo7 : den (LAttr)), loopN (rules_sift__rules_Typed_1_F3 call n ) m (rules_sift__rules_Typed_1_sh3 st0 t12 t13 t14 lo7) = rules_sift__rules_Typed_1_l3 (fun (a0 : den (PSchema)) (a1 : den (.int .i64)) => call.p 10 [.s (.val (PSchema) a0), .s (.val (.int .i64) a1)] (.two (TKey) (.bool))) (fun (a0 : den (TKey)) => call.p 39 [.s (.val (TKey) a0)] (.one (.bool))) n  m st0 t12 t13 t14 lo7 := by
  intro m
  induction m with
  | zero => intros; rfl
  | succ m ih =>
    intro st0 t12 t13 t14 lo7
    have h : loopN (rules_sift__rules_Typed_1_F3 call n ) (m + 1) (rules_sift__rules_Typed_1_sh3 st0 t12 t13 t14 lo7) = rules_sift__rules_Typed_1_s3 (fun (a0 : den (PSchema)) (a1 : den (.int .i64)) => call.p 10 [.s (.val (PSchema) a0), .s (.val (.int .i64) a1)] (.two (TKey) (.bool))) (fun (a0 : den (TKey)) => call.p 39 [.s (.val (TKey) a0)] (.one (.bool)))   (fun (st0 : den (PSchema)) (t12 : den (LAttr)) (t13 : den (.int .i64)) (t14 : den (.int .i64)) (lo7 : den (LAttr)) => loopN (rules_sift__rules_Typed_1_F3 call n ) m (rules_sift__rules_Typed_1_sh3 st0 t12 t13 t14 lo7)) st0 t12 t13 t14 lo7 := by kernel_rfl
    have e0 : (fun (st0 : den (PSchema)) (t12 : den (LAttr)) (t13 : den (.int .i64)) (t14 : den (.int .i64)) (lo7 : den (LAttr)) => loopN (rules_sift__rules_Typed_1_F3 call n ) m (rules_sift__rules_Typed_1_sh3 st0 t12 t13 t14 lo7)) = (fun (st0 : den (PSchema)) (t12 : den (LAttr)) (t13 : den (.int .i64)) (t14 : den (.int .i64)) (lo7 : den (LAttr)) => rules_sift__rules_Typed_1_l3 (fun (a0 : den (PSchema)) (a1 : den (.int .i64)) => call.p 10 [.s (.val (PSchema) a0), .s (.val (.int .i64) a1)] (.two (TKey) (.bool))) (fun (a0 : den (TKey)) => call.p 39 [.s (.val (TKey) a0)] (.one (.bool))) n  m st0 t12 t13 t14 lo7) := by funext st0 t12 t13 t14 lo7; exact ih st0 t12 t13 t14 lo7
    rw [h, e0]; rfl
noncomputable def rules_sift__rules_Typed_1_top (C_Schema_Find : den (PSchema) → den (.int .i64) → Option (denR (.two (TKey) (.bool)))) (C_rules_Typed_1 : den (TKey) → Option (denR (.one (.bool)))) (LL3 : den (PSchema) → den (LAttr) → den (.int .i64) → den (.int .i64) → den (LAttr) → Option (denR (.one (LAttr)))) (a0 : den (PSchema)) (a1 : den (LAttr)) : Option (denR (.one (LAttr))) := LL3 a0 a1 (a1.length : Int) (0 : Int) []
noncomputable def rules_sift__rules_Typed_1 : Nat → den (PSchema) → den (LAttr) → Option (denR (.one (LAttr)))
  | 0, _, _ => none
  | n + 1, a0, a1 => rules_sift__rules_Typed_1_top (Schema_Find n) (rules_Typed_1 n) (rules_sift__rules_Typed_1_l3 (Schema_Find n) (rules_Typed_1 n) n n) a0 a1
theorem rules_sift__rules_Typed_1_eq (n : Nat) (a0 : den (PSchema)) (a1 : den (LAttr)) : (acalls cfg intr intrI n).p 37 [.s (.val (PSchema) a0), .s (.val (LAttr) a1), .fn 39 []] (.one (LAttr)) = rules_sift__rules_Typed_1 n a0 a1 := by
  cases n with
  | zero => rfl
  | succ n =>
    have h : (acalls cfg intr intrI (n + 1)).p 37 [.s (.val (PSchema) a0), .s (.val (LAttr) a1), .fn 39 []] (.one (LAttr)) = rules_sift__rules_Typed_1_top (fun (a0 : den (PSchema)) (a1 : den (.int .i64)) => (acalls cfg intr intrI n).p 10 [.s (.val (PSchema) a0), .s (.val (.int .i64) a1)] (.two (TKey) (.bool))) (fun (a0 : den (TKey)) => (acalls cfg intr intrI n).p 39 [.s (.val (TKey) a0)] (.one (.bool))) (fun (st0 : den (PSchema)) (t12 : den (LAttr)) (t13 : den (.int .i64)) (t14 : den (.int .i64)) (lo7 : den (LAttr)) => loopN (rules_sift__rules_Typed_1_F3 (acalls cfg intr intrI n) n) n (rules_sift__rules_Typed_1_sh3 st0 t12 t13 t14 lo7)) a0 a1 := by kernel_rfl
    have e3 : (fun (st0 : den (PSchema)) (t12 : den (LAttr)) (t13 : den (.int .i64)) (t14 : den (.int .i64)) (lo7 : den (LAttr)) => loopN (rules_sift__rules_Typed_1_F3 (acalls cfg intr intrI n) n) n (rules_sift__rules_Typed_1_sh3 st0 t12 t13 t14 lo7)) = rules_sift__rules_Typed_1_l3 (fun (a0 : den (PSchema)) (a1 : den (.int .i64)) => (acalls cfg intr intrI n).p 10 [.s (.val (PSchema) a0), .s (.val (.int .i64) a1)] (.two (TKey) (.bool))) (fun (a0 : den (TKey)) => (acalls cfg intr intrI n).p 39 [.s (.val (TKey) a0)] (.one (.bool))) n n := by funext st0 t12 t13 t14 lo7; exact rules_sift__rules_Typed_1_l3_eq (acalls cfg intr intrI n) n n st0 t12 t13 t14 lo7
    have c_Schema_Find : (fun (a0 : den (PSchema)) (a1 : den (.int .i64)) => (acalls cfg intr intrI n).p 10 [.s (.val (PSchema) a0), .s (.val (.int .i64) a1)] (.two (TKey) (.bool))) = Schema_Find n := by funext a0 a1; exact Schema_Find_eq n a0 a1
    have c_rules_Typed_1 : (fun (a0 : den (TKey)) => (acalls cfg intr intrI n).p 39 [.s (.val (TKey) a0)] (.one (.bool))) = rules_Typed_1 n := by funext a0; exact rules_Typed_1_eq n a0
    rw [h, e3, c_Schema_Find, c_rules_Typed_1]; rfl

noncomputable def rules_Typed_2_top   (a0 : den (TKey)) : Option (denR (.one (.bool))) := (bif (!a0.2.1) then some a0.2.2.2.2.1 else some false)
noncomputable def rules_Typed_2 : Nat → den (TKey) → Option (denR (.one (.bool)))
  | 0, _ => none
  | n + 1, a0 => rules_Typed_2_top   a0
theorem rules_Typed_2_eq (n : Nat) (a0 : den (TKey)) : (acalls cfg intr intrI n).p 40 [.s (.val (TKey) a0)] (.one (.bool)) = rules_Typed_2 n a0 := by
  cases n with
  | zero => rfl
  | succ n =>
    have h : (acalls cfg intr intrI (n + 1)).p 40 [.s (.val (TKey) a0)] (.one (.bool)) = rules_Typed_2_top   a0 := by kernel_rfl
    rw [h]; rfl

noncomputable def rules_sift__rules_Typed_2_sh3 (st0 : den (PSchema)) (t12 : den (LAttr)) (t13 : den (.int .i64)) (t14 : den (.int .i64)) (lo7 : den (LAttr)) : St := ⟨[.s (.val (PSchema) st0), U, .fn 40 [], U, U, U, U, .s (.arr 7), U, U, U, U, .s (.val (LAttr) t12), .s (.val (.int .i64) t13), .s (.val (.int .i64) t14), U, U, U, U, U, U, U, U, U, U, U, U, U, U, U, U, U, U, U, U, U, U], [(7, .arr 60 (TAttr) lo7)]⟩
noncomputable def rules_sift__rules_Typed_2_s3 (C_Schema_Find : den (PSchema) → den (.int .i64) → Option (denR (.two (TKey) (.bool)))) (C_rules_Typed_2 : den (TKey) → Option (denR (.one (.bool))))   (LS3 : den (PSchema) → den (LAttr) → den (.int .i64) → den (.int .i64) → den (LAttr) → Option (denR (.one (LAttr)))) (st0 : den (PSchema)) (t12 : den (LAttr)) (t13 : den (.int .i64)) (t14 : den (.int .i64)) (lo7 : den (LAttr)) : Option (denR (.one (LAttr))) := (bif (decide (t14 < t13)) then (bif decide (0 ≤ t14) && decide (t14 < (t12.length : Int)) then ((C_Schema_Find st0 ((t12.getD (Int.toNat t14) (dflt (TAttr))).1)).bind fun r1 => (bif r1.2 then ((C_rules_Typed_2 r1.1).bind fun r2 => (bif r2 then (bif decide ((lo7.length + ([(t12.getD (Int.toNat t14) (dflt (TAttr)))] : List (den (TAttr))).length) * 48 ≤ 140737488355328) then LS3 st0 t12 t13 (IntKind.wrap .i64 (t14 + (1 : Int))) (lo7 ++ ([(t12.getD (Int.toNat t14) (dflt (TAttr)))] : List (den (TAttr)))) else none) else LS3 st0 t12 t13 (IntKind.wrap .i64 (t14 + (1 : Int))) lo7)) else LS3 st0 t12 t13 (IntKind.wrap .i64 (t14 + (1 : Int))) lo7)) else none) else some lo7)
noncomputable def rules_sift__rules_Typed_2_l3 (C_Schema_Find : den (PSchema) → den (.int .i64) → Option (denR (.two (TKey) (.bool)))) (C_rules_Typed_2 : den (TKey) → Option (denR (.one (.bool)))) (n : Nat)  : Nat → den (PSchema) → den (LAttr) → den (.int .i64) → den (.int .i64) → den (LAttr) → Option (denR (.one (LAttr)))
  | 0, _, _, _, _, _ => none
  | m + 1, st0, t12, t13, t14, lo7 => rules_sift__rules_Typed_2_s3 C_Schema_Find C_rules_Typed_2   (fun (st0 : den (PSchema)) (t12 : den (LAttr)) (t13 : den (.int .i64)) (t14 : den (.int .i64)) (lo7 : den (LAttr)) => rules_sift__rules_Typed_2_l3 C_Schema_Find C_rules_Typed_2 n  m st0 t12 t13 t14 lo7) st0 t12 t13 t14 lo7
noncomputable def rules_sift__rules_Typed_2_g3 (C_Schema_Find : den (PSchema) → den (.int .i64) → Option (denR (.two (TKey) (.bool)))) (C_rules_Typed_2 : den (TKey) → Option (denR (.one (.bool))))   : List (den (TAttr)) → den (PSchema) → den (LAttr) → Option (denR (.one (LAttr)))
  | [], st0, lo7 => some lo7
  | x :: r, st0, lo7 => ((C_Schema_Find st0 x.1).bind fun r3 => (bif r3.2 then ((C_rules_Typed_2 r3.1).bind fun r4 => (bif r4 then (bif decide ((lo7.length + ([x] : List (den (TAttr))).length) * 48 ≤ 140737488355328) then rules_sift__rules_Typed_2_g3 C_Schema_Find C_rules_Typed_2   r st0 (lo7 ++ ([x] : List (den (TAttr)))) else none) else rules_sift__rules_Typed_2_g3 C_Schema_Find C_rules_Typed_2   r st0 lo7)) else rules_sift__rules_Typed_2_g3 C_Schema_Find C_rules_Typed_2   r st0 lo7))
theorem rules_sift__rules_Typed_2_l3_list (C_Schema_Find : den (PSchema) → den (.int .i64) → Option (denR (.two (TKey) (.bool)))) (C_rules_Typed_2 : den (TKey) → Option (denR (.one (.bool)))) (n : Nat)  : ∀ (m i : Nat) (st0 : den (PSchema)) (t12 : den (LAttr)) (lo7 : den (LAttr)), t12.length - i < m → i ≤ t12.length → t12.length < 4611686018427387904 → rules_sift__rules_Typed_2_l3 C_Schema_Find C_rules_Typed_2 n  m st0 t12 (t12.length : Int) (i : Int) lo7 = rules_sift__rules_Typed_2_g3 C_Schema_Find C_rules_Typed_2   (t12.drop i) st0 lo7 := by
  intro m
  induction m with
  | zero => intro i st0 t12 lo7 h1; omega
  | succ m ih =>
    intro i st0 t12 lo7 h1 h2 h3
    show rules_sift__rules_Typed_2_s3 C_Schema_Find C_rules_Typed_2   (fun (st0 : den (PSchema)) (t12 : den (LAttr)) (t13 : den (.int .i64)) (t14 : den (.int .i64)) (lo7 : den (LAttr)) => rules_sift__rules_Typed_2_l3 C_Schema_Find C_rules_Typed_2 n  m st0 t12 t13 t14 lo7) st0 t12 (t12.length : Int) (i : Int) lo7 = _
    unfold rules_sift__rules_Typed_2_s3
    have b0 : decide ((0 : Int) ≤ (i : Int)) = true := decide_eq_true (by omega)
    rcases Nat.lt_or_ge i t12.length with hi | hi
    · have b1 : decide ((i : Int) < (t12.length : Int)) = true := decide_eq_true (by omega)
      have bw : IntKind.i64.wrap ((i : Int) + (1 : Int)) = ((i + 1 : Nat) : Int) := w64s (by omega)
      have ih' : ∀ (st0 : den (PSchema)) (lo7 : den (LAttr)), rules_sift__rules_Typed_2_l3 C_Schema_Find C_rules_Typed_2 n  m st0 t12 (t12.length : Int) ((i + 1 : Nat) : Int) lo7 = rules_sift__rules_Typed_2_g3 C_Schema_Find C_rules_Typed_2   (t12.drop (i + 1)) st0 lo7 := fun st0 lo7 => ih (i + 1) st0 t12 lo7 (by omega) (by omega) h3
      simp only [b0, b1, bw, Bool.and_true, Bool.true_and, cond_true, Int.toNat_natCast, ih']
      rw [drop_getD hi (dflt (TAttr))]
      rfl
    · have b1 : decide ((i : Int) < (t12.length : Int)) = false := decide_eq_false (by omega)
      simp only [b1, cond_false]
      rw [List.drop_eq_nil_of_le hi]
      rfl
noncomputable def rules_sift__rules_Typed_2_F3 (call : Call0) (n : Nat)  : (St → Option (denR (.one (LAttr)))) → St → Option (denR (.one (LAttr))) := fun rec => exec cfg call n 37 (cat B37 [1, 1, 0, 1, 0, 0]) (kLoop rec (lk2 37 3 cfg.keep) (kBlock 0 (kSq (exec cfg call n 37 (cat B37 [1, 1, 1])) (kret cfg Go.Proofs.Try.f37 (.one (LAttr))))))
theorem rules_sift__rules_Typed_2_l3_eq (call : Call0) (n : Nat)  : ∀ (m : Nat) (st0 : den (PSchema)) (t12 : den (LAttr)) (t13 : den (.int .i64)) (t14 : den (.int .i64)) (lo7 : den (LAttr)), loopN (rules_sift__rules_Typed_2_F3 call n ) m (rules_sift__rules_Typed_2_sh3 st0 t12 t13 t14 lo7) = rules_sift__rules_Typed_2_l3 (fun (a0 : den (PSchema)) (a1 : den (.int .i64)) => call.p 10 [.s (.val (PSchema) a0), .s (.val (.int .i64) a1)] (.two (TKey) (.bool))) (fun (a0 : den (TKey)) => call.p 40 [.s (.val (TKey) a0)] (.one (.bool))) n  m st0 t12 t13 t14 lo7 := by
  intro m
  induction m with
  | zero => intros; rfl
  | succ m ih =>
    intro st0 t12 t13 t14 lo7
    have h : loopN (rules_sift__rules_Typed_2_F3 call n ) (m + 1) (rules_sift__rules_Typed_2_sh3 st0 t12 t13 t14 lo7) = rules_sift__rules_Typed_2_s3 (fun (a0 : den (PSchema)) (a1 : den (.int .i64)) => call.p 10 [.s (.val (PSchema) a0), .s (.val (.int .i64) a1)] (.two (TKey) (.bool))) (fun (a0 : den (TKey)) => call.p 40 [.s (.val (TKey) a0)] (.one (.bool)))   (fun (st0 : den (PSchema)) (t12 : den (LAttr)) (t13 : den (.int .i64)) (t14 : den (.int .i64)) (lo7 : den (LAttr)) => loopN (rules_sift__rules_Typed_2_F3 call n ) m (rules_sift__rules_Typed_2_sh3 st0 t12 t13 t14 lo7)) st0 t12 t13 t14 lo7 := by kernel_rfl
    have e0 : (fun (st0 : den (PSchema)) (t12 : den (LAttr)) (t13 : den (.int .i64)) (t14 : den (.int .i64)) (lo7 : den (LAttr)) => loopN (rules_sift__rules_Typed_2_F3 call n ) m (rules_sift__rules_Typed_2_sh3 st0 t12 t13 t14 lo7)) = (fun (st0 : den (PSchema)) (t12 : den (LAttr)) (t13 : den (.int .i64)) (t14 : den (.int .i64)) (lo7 : den (LAttr)) => rules_sift__rules_Typed_2_l3 (fun (a0 : den (PSchema)) (a1 : den (.int .i64)) => call.p 10 [.s (.val (PSchema) a0), .s (.val (.int .i64) a1)] (.two (TKey) (.bool))) (fun (a0 : den (TKey)) => call.p 40 [.s (.val (TKey) a0)] (.one (.bool))) n  m st0 t12 t13 t14 lo7) := by funext st0 t12 t13 t14 lo7; exact ih st0 t12 t13 t14 lo7
    rw [h, e0]; rfl
noncomputable def rules_sift__rules_Typed_2_top (C_Schema_Find : den (PSchema) → den (.int .i64) → Option (denR (.two (TKey) (.bool)))) (C_rules_Typed_2 : den (TKey) → Option (denR (.one (.bool)))) (LL3 : den (PSchema) → den (LAttr) → den (.int .i64) → den (.int .i64) → den (LAttr) → Option (denR (.one (LAttr)))) (a0 : den (PSchema)) (a1 : den (LAttr)) : Option (denR (.one (LAttr))) := LL3 a0 a1 (a1.length : Int) (0 : Int) []
noncomputable def rules_sift__rules_Typed_2 : Nat → den (PSchema) → den (LAttr) → Option (denR (.one (LAttr)))
  | 0, _, _ => none
  | n + 1, a0, a1 => rules_sift__rules_Typed_2_top (Schema_Find n) (rules_Typed_2 n) (rules_sift__rules_Typed_2_l3 (Schema_Find n) (rules_Typed_2 n) n n) a0 a1
theorem rules_sift__rules_Typed_2_eq (n : Nat) (a0 : den (PSchema)) (a1 : den (LAttr)) : (acalls cfg intr intrI n).p 37 [.s (.val (PSchema) a0), .s (.val (LAttr) a1), .fn 40 []] (.one (LAttr)) = rules_sift__rules_Typed_2 n a0 a1 := by
  cases n with
  | zero => rfl
  | succ n =>
    have h : (acalls cfg intr intrI (n + 1)).p 37 [.s (.val (PSchema) a0), .s (.val (LAttr) a1), .fn 40 []] (.one (LAttr)) = rules_sift__rules_Typed_2_top (fun (a0 : den (PSchema)) (a1 : den (.int .i64)) => (acalls cfg intr intrI n).p 10 [.s (.val (PSchema) a0), .s (.val (.int .i64) a1)] (.two (TKey) (.bool))) (fun (a0 : den (TKey)) => (acalls cfg intr intrI n).p 40 [.s (.val (TKey) a0)] (.one (.bool))) (fun (st0 : den (PSchema)) (t12 : den (LAttr)) (t13 : den (.int .i64)) (t14 : den (.int .i64)) (lo7 : den (LAttr)) => loopN (rules_sift__rules_Typed_2_F3 (acalls cfg intr intrI n) n) n (rules_sift__rules_Typed_2_sh3 st0 t12 t13 t14 lo7)) a0 a1 := by kernel_rfl
    have e3 : (fun (st0 : den (PSchema)) (t12 : den (LAttr)) (t13 : den (.int .i64)) (t14 : den (.int .i64)) (lo7 : den (LAttr)) => loopN (rules_sift__rules_Typed_2_F3 (acalls cfg intr intrI n) n) n (rules_sift__rules_Typed_2_sh3 st0 t12 t13 t14 lo7)) = rules_sift__rules_Typed_2_l3 (fun (a0 : den (PSchema)) (a1 : den (.int .i64)) => (acalls cfg intr intrI n).p 10 [.s (.val (PSchema) a0), .s (.val (.int .i64) a1)] (.two (TKey) (.bool))) (fun (a0 : den (TKey)) => (acalls cfg intr intrI n).p 40 [.s (.val (TKey) a0)] (.one (.bool))) n n := by funext st0 t12 t13 t14 lo7; exact rules_sift__rules_Typed_2_l3_eq (acalls cfg intr intrI n) n n st0 t12 t13 t14 lo7
    have c_Schema_Find : (fun (a0 : den (PSchema)) (a1 : den (.int .i64)) => (acalls cfg intr intrI n).p 10 [.s (.val (PSchema) a0), .s (.val (.int .i64) a1)] (.two (TKey) (.bool))) = Schema_Find n := by funext a0 a1; exact Schema_Find_eq n a0 a1
    have c_rules_Typed_2 : (fun (a0 : den (TKey)) => (acalls cfg intr intrI n).p 40 [.s (.val (TKey) a0)] (.one (.bool))) = rules_Typed_2 n := by funext a0; exact rules_Typed_2_eq n a0
    rw [h, e3, c_Schema_Find, c_rules_Typed_2]; rfl

noncomputable def slices_Clone_Attr : Nat → den (LAttr) → Option (denS (⟨.row 60 (TAttr), []⟩ : Sig))
  | 0, _ => none
  | n + 1, a0 => bif decide ((0 + a0.length) * 48 ≤ 140737488355328) then some (a0, ()) else none
theorem slices_Clone_Attr_eq (n : Nat) (a0 : den (LAttr)) : (acalls cfg intr intrI n).i 58 [.s (.val (LAttr) a0)] [] (⟨.row 60 (TAttr), []⟩ : Sig) = slices_Clone_Attr n a0 := by
  cases n with
  | zero => rfl
  | succ n => kernel_rfl

noncomputable def slices_Insert_Attr : Nat → den (.int .i64) → den (LAttr) → den (LAttr) → Option (denS (⟨.row 60 (TAttr), [.dead, .dead]⟩ : Sig))
  | 0, _, _, _ => none
  | n + 1, a1, o0, o1 => bif decide (0 < o1.length) && (decide (0 ≤ a1) && decide (a1 ≤ (o0.length : Int)) && decide ((o0.length + o1.length) * 48 ≤ 140737488355328)) then some (o0.take a1.toNat ++ o1 ++ o0.drop a1.toNat, ((), ((), ()))) else none
theorem slices_Insert_Attr_eq (n : Nat) (a1 : den (.int .i64)) (o0 : den (LAttr)) (o1 : den (LAttr)) : (acalls cfg intr intrI n).i 59 [.s (.arr 95), .s (.val (.int .i64) a1), .s (.arr 96)] [(95, .arr 60 (TAttr) o0), (96, .arr 60 (TAttr) o1)] (⟨.row 60 (TAttr), [.dead, .dead]⟩ : Sig) = slices_Insert_Attr n a1 o0 o1 := by
  cases n with
  | zero => rfl
  | succ n => kernel_rfl

noncomputable def attrs_With_top (C_attrs_find : den (LAttr) → den (.int .i64) → Option (denR (.two (.int .i64) (.bool)))) (C_slices_Clone_Attr : den (LAttr) → Option (denS (⟨.row 60 (TAttr), []⟩ : Sig))) (C_slices_Insert_Attr : den (.int .i64) → den (LAttr) → den (LAttr) → Option (denS (⟨.row 60 (TAttr), [.dead, .dead]⟩ : Sig)))  (a0 : den (LAttr)) (a1 : den (TAttr)) : Option (denR (.one (LAttr))) := ((C_attrs_find a0 a1.1).bind fun r1 => (bif r1.2 then ((C_slices_Clone_Attr a0).bind fun r2 => (bif decide (0 ≤ r1.1) && decide (r1.1 < (r2.1.length : Int)) then some (r2.1.set (Int.toNat r1.1) a1) else none)) else ((C_slices_Clone_Attr a0).bind fun r3 => ((C_slices_Insert_Attr r1.1 r3.1 ([a1] : den (LAttr))).bind fun r4 => some r4.1))))
noncomputable def attrs_With : Nat → den (LAttr) → den (TAttr) → Option (denR (.one (LAttr)))
  | 0, _, _ => none
  | n + 1, a0, a1 => attrs_With_top (attrs_find n) (slices_Clone_Attr n) (slices_Insert_Attr n)  a0 a1
theorem attrs_With_eq (n : Nat) (a0 : den (LAttr)) (a1 : den (TAttr)) : (acalls cfg intr intrI n).p 41 [.s (.val (LAttr) a0), .s (.val (TAttr) a1)] (.one (LAttr)) = attrs_With n a0 a1 := by
  cases n with
  | zero => rfl
  | succ n =>
    have h : (acalls cfg intr intrI (n + 1)).p 41 [.s (.val (LAttr) a0), .s (.val (TAttr) a1)] (.one (LAttr)) = attrs_With_top (fun (a0 : den (LAttr)) (a1 : den (.int .i64)) => (acalls cfg intr intrI n).p 52 [.s (.val (LAttr) a0), .s (.val (.int .i64) a1)] (.two (.int .i64) (.bool))) (fun (a0 : den (LAttr)) => (acalls cfg intr intrI n).i 58 [.s (.val (LAttr) a0)] [] (⟨.row 60 (TAttr), []⟩ : Sig)) (fun (a1 : den (.int .i64)) (o0 : den (LAttr)) (o1 : den (LAttr)) => (acalls cfg intr intrI n).i 59 [.s (.arr 95), .s (.val (.int .i64) a1), .s (.arr 96)] [(95, .arr 60 (TAttr) o0), (96, .arr 60 (TAttr) o1)] (⟨.row 60 (TAttr), [.dead, .dead]⟩ : Sig))  a0 a1 := by kernel_rfl
    have c_attrs_find : (fun (a0 : den (LAttr)) (a1 : den (.int .i64)) => (acalls cfg intr intrI n).p 52 [.s (.val (LAttr) a0), .s (.val (.int .i64) a1)] (.two (.int .i64) (.bool))) = attrs_find n := by funext a0 a1; exact attrs_find_eq n a0 a1
    have c_slices_Clone_Attr : (fun (a0 : den (LAttr)) => (acalls cfg intr intrI n).i 58 [.s (.val (LAttr) a0)] [] (⟨.row 60 (TAttr), []⟩ : Sig)) = slices_Clone_Attr n := by funext a0; exact slices_Clone_Attr_eq n a0
    have c_slices_Insert_Attr : (fun (a1 : den (.int .i64)) (o0 : den (LAttr)) (o1 : den (LAttr)) => (acalls cfg intr intrI n).i 59 [.s (.arr 95), .s (.val (.int .i64) a1), .s (.arr 96)] [(95, .arr 60 (TAttr) o0), (96, .arr 60 (TAttr) o1)] (⟨.row 60 (TAttr), [.dead, .dead]⟩ : Sig)) = slices_Insert_Attr n := by funext a1 o0 o1; exact slices_Insert_Attr_eq n a1 o0 o1
    rw [h, c_attrs_find, c_slices_Clone_Attr, c_slices_Insert_Attr]; rfl

noncomputable def B19 : Code := (Go.Proofs.Try.f19.body).getD .skip
noncomputable def rules_Typed_sh3 (sett7 : den (LAttr)) (t17 : den (LAttr)) (t18 : den (.int .i64)) (t19 : den (.int .i64)) : St := ⟨[U, U, U, U, U, U, U, .s (.val (LAttr) sett7), U, U, U, U, U, U, U, U, U, .s (.val (LAttr) t17), .s (.val (.int .i64) t18), .s (.val (.int .i64) t19), U, U, U, U, U, U, U, U, U, U, U, U, U, U, U, U, U], []⟩
noncomputable def rules_Typed_s3 (C_rules_sift__rules_Typed_1 : den (PSchema) → den (LAttr) → Option (denR (.one (LAttr)))) (C_rules_sift__rules_Typed_2 : den (PSchema) → den (LAttr) → Option (denR (.one (LAttr)))) (C_attrs_Get : den (LAttr) → den (.int .i64) → Option (denR (.two (TValue) (.bool)))) (C_attrs_With : den (LAttr) → den (TAttr) → Option (denR (.one (LAttr))))   (LS3 : den (LAttr) → den (LAttr) → den (.int .i64) → den (.int .i64) → Option (denR (.one (LAttr)))) (sett7 : den (LAttr)) (t17 : den (LAttr)) (t18 : den (.int .i64)) (t19 : den (.int .i64)) : Option (denR (.one (LAttr))) := (bif (decide (t19 < t18)) then (bif decide (0 ≤ t19) && decide (t19 < (t17.length : Int)) then ((C_attrs_Get sett7 ((t17.getD (Int.toNat t19) (dflt (TAttr))).1)).bind fun r3 => (bif (!r3.2) then ((C_attrs_With sett7 (t17.getD (Int.toNat t19) (dflt (TAttr)))).bind fun r4 => LS3 r4 t17 t18 (IntKind.wrap .i64 (t19 + (1 : Int)))) else LS3 sett7 t17 t18 (IntKind.wrap .i64 (t19 + (1 : Int))))) else none) else some sett7)
noncomputable def rules_Typed_l3 (C_rules_sift__rules_Typed_1 : den (PSchema) → den (LAttr) → Option (denR (.one (LAttr)))) (C_rules_sift__rules_Typed_2 : den (PSchema) → den (LAttr) → Option (denR (.one (LAttr)))) (C_attrs_Get : den (LAttr) → den (.int .i64) → Option (denR (.two (TValue) (.bool)))) (C_attrs_With : den (LAttr) → den (TAttr) → Option (denR (.one (LAttr)))) (n : Nat)  : Nat → den (LAttr) → den (LAttr) → den (.int .i64) → den (.int .i64) → Option (denR (.one (LAttr)))
  | 0, _, _, _, _ => none
  | m + 1, sett7, t17, t18, t19 => rules_Typed_s3 C_rules_sift__rules_Typed_1 C_rules_sift__rules_Typed_2 C_attrs_Get C_attrs_With   (fun (sett7 : den (LAttr)) (t17 : den (LAttr)) (t18 : den (.int .i64)) (t19 : den (.int .i64)) => rules_Typed_l3 C_rules_sift__rules_Typed_1 C_rules_sift__rules_Typed_2 C_attrs_Get C_attrs_With n  m sett7 t17 t18 t19) sett7 t17 t18 t19
noncomputable def rules_Typed_g3 (C_rules_sift__rules_Typed_1 : den (PSchema) → den (LAttr) → Option (denR (.one (LAttr)))) (C_rules_sift__rules_Typed_2 : den (PSchema) → den (LAttr) → Option (denR (.one (LAttr)))) (C_attrs_Get : den (LAttr) → den (.int .i64) → Option (denR (.two (TValue) (.bool)))) (C_attrs_With : den (LAttr) → den (TAttr) → Option (denR (.one (LAttr))))   : List (den (TAttr)) → den (LAttr) → Option (denR (.one (LAttr)))
  | [], sett7 => some sett7
  | x :: r, sett7 => ((C_attrs_Get sett7 x.1).bind fun r5 => (bif (!r5.2) then ((C_attrs_With sett7 x).bind fun r6 => rules_Typed_g3 C_rules_sift__rules_Typed_1 C_rules_sift__rules_Typed_2 C_attrs_Get C_attrs_With   r r6) else rules_Typed_g3 C_rules_sift__rules_Typed_1 C_rules_sift__rules_Typed_2 C_attrs_Get C_attrs_With   r sett7))
theorem rules_Typed_l3_list (C_rules_sift__rules_Typed_1 : den (PSchema) → den (LAttr) → Option (denR (.one (LAttr)))) (C_rules_sift__rules_Typed_2 : den (PSchema) → den (LAttr) → Option (denR (.one (LAttr)))) (C_attrs_Get : den (LAttr) → den (.int .i64) → Option (denR (.two (TValue) (.bool)))) (C_attrs_With : den (LAttr) → den (TAttr) → Option (denR (.one (LAttr)))) (n : Nat)  : ∀ (m i : Nat) (sett7 : den (LAttr)) (t17 : den (LAttr)), t17.length - i < m → i ≤ t17.length → t17.length < 4611686018427387904 → rules_Typed_l3 C_rules_sift__rules_Typed_1 C_rules_sift__rules_Typed_2 C_attrs_Get C_attrs_With n  m sett7 t17 (t17.length : Int) (i : Int) = rules_Typed_g3 C_rules_sift__rules_Typed_1 C_rules_sift__rules_Typed_2 C_attrs_Get C_attrs_With   (t17.drop i) sett7 := by
  intro m
  induction m with
  | zero => intro i sett7 t17 h1; omega
  | succ m ih =>
    intro i sett7 t17 h1 h2 h3
    show rules_Typed_s3 C_rules_sift__rules_Typed_1 C_rules_sift__rules_Typed_2 C_attrs_Get C_attrs_With   (fun (sett7 : den (LAttr)) (t17 : den (LAttr)) (t18 : den (.int .i64)) (t19 : den (.int .i64)) => rules_Typed_l3 C_rules_sift__rules_Typed_1 C_rules_sift__rules_Typed_2 C_attrs_Get C_attrs_With n  m sett7 t17 t18 t19) sett7 t17 (t17.length : Int) (i : Int) = _
    unfold rules_Typed_s3
    have b0 : decide ((0 : Int) ≤ (i : Int)) = true := decide_eq_true (by omega)
    rcases Nat.lt_or_ge i t17.length with hi | hi
    · have b1 : decide ((i : Int) < (t17.length : Int)) = true := decide_eq_true (by omega)
      have bw : IntKind.i64.wrap ((i : Int) + (1 : Int)) = ((i + 1 : Nat) : Int) := w64s (by omega)
      have ih' : ∀ (sett7 : den (LAttr)), rules_Typed_l3 C_rules_sift__rules_Typed_1 C_rules_sift__rules_Typed_2 C_attrs_Get C_attrs_With n  m sett7 t17 (t17.length : Int) ((i + 1 : Nat) : Int) = rules_Typed_g3 C_rules_sift__rules_Typed_1 C_rules_sift__rules_Typed_2 C_attrs_Get C_attrs_With   (t17.drop (i + 1)) sett7 := fun sett7 => ih (i + 1) sett7 t17 (by omega) (by omega) h3
      simp only [b0, b1, bw, Bool.and_true, Bool.true_and, cond_true, Int.toNat_natCast, ih']
      rw [drop_getD hi (dflt (TAttr))]
      rfl
    · have b1 : decide ((i : Int) < (t17.length : Int)) = false := decide_eq_false (by omega)
      simp only [b1, cond_false]
      rw [List.drop_eq_nil_of_le hi]
      rfl
noncomputable def rules_Typed_F3 (call : Call0) (n : Nat)  : (St → Option (denR (.one (LAttr)))) → St → Option (denR (.one (LAttr))) := fun rec => exec cfg call n 19 (cat B19 [1, 1, 0, 1, 0, 0]) (kLoop rec (lk2 19 3 cfg.keep) (kBlock 0 (kSq (exec cfg call n 19 (cat B19 [1, 1, 1])) (kret cfg Go.Proofs.Try.f19 (.one (LAttr))))))
theorem rules_Typed_l3_eq (call : Call0) (n : Nat)  : ∀ (m : Nat) (sett7 : den (LAttr)) (t17 : den (LAttr)) (t18 : den (.int .i64)) (t19 : den (.int .i64)), loopN (rules_Typed_F3 call n ) m (rules_Typed_sh3 sett7 t17 t18 t19) = rules_Typed_l3 (fun (a0 : den (PSchema)) (a1 : den (LAttr)) => call.p 37 [.s (.val (PSchema) a0), .s (.val (LAttr) a1), .fn 39 []] (.one (LAttr))) (fun (a0 : den (PSchema)) (a1 : den (LAttr)) => call.p 37 [.s (.val (PSchema) a0), .s (.val (LAttr) a1), .fn 40 []] (.one (LAttr))) (fun (a0 : den (LAttr)) (a1 : den (.int .i64)) => call.p 30 [.s (.val (LAttr) a0), .s (.val (.int .i64) a1)] (.two (TValue) (.bool))) (fun (a0 : den (LAttr)) (a1 : den (TAttr)) => call.p 41 [.s (.val (LAttr) a0), .s (.val (TAttr) a1)] (.one (LAttr))) n  m sett7 t17 t18 t19 := by
  intro m
  induction m with
  | zero => intros; rfl
  | succ m ih =>
    intro sett7 t17 t18 t19
    have h : loopN (rules_Typed_F3 call n ) (m + 1) (rules_Typed_sh3 sett7 t17 t18 t19) = rules_Typed_s3 (fun (a0 : den (PSchema)) (a1 : den (LAttr)) => call.p 37 [.s (.val (PSchema) a0), .s (.val (LAttr) a1), .fn 39 []] (.one (LAttr))) (fun (a0 : den (PSchema)) (a1 : den (LAttr)) => call.p 37 [.s (.val (PSchema) a0), .s (.val (LAttr) a1), .fn 40 []] (.one (LAttr))) (fun (a0 : den (LAttr)) (a1 : den (.int .i64)) => call.p 30 [.s (.val (LAttr) a0), .s (.val (.int .i64) a1)] (.two (TValue) (.bool))) (fun (a0 : den (LAttr)) (a1 : den (TAttr)) => call.p 41 [.s (.val (LAttr) a0), .s (.val (TAttr) a1)] (.one (LAttr)))   (fun (sett7 : den (LAttr)) (t17 : den (LAttr)) (t18 : den (.int .i64)) (t19 : den (.int .i64)) => loopN (rules_Typed_F3 call n ) m (rules_Typed_sh3 sett7 t17 t18 t19)) sett7 t17 t18 t19 := by kernel_rfl
    have e0 : (fun (sett7 : den (LAttr)) (t17 : den (LAttr)) (t18 : den (.int .i64)) (t19 : den (.int .i64)) => loopN (rules_Typed_F3 call n ) m (rules_Typed_sh3 sett7 t17 t18 t19)) = (fun (sett7 : den (LAttr)) (t17 : den (LAttr)) (t18 : den (.int .i64)) (t19 : den (.int .i64)) => rules_Typed_l3 (fun (a0 : den (PSchema)) (a1 : den (LAttr)) => call.p 37 [.s (.val (PSchema) a0), .s (.val (LAttr) a1), .fn 39 []] (.one (LAttr))) (fun (a0 : den (PSchema)) (a1 : den (LAttr)) => call.p 37 [.s (.val (PSchema) a0), .s (.val (LAttr) a1), .fn 40 []] (.one (LAttr))) (fun (a0 : den (LAttr)) (a1 : den (.int .i64)) => call.p 30 [.s (.val (LAttr) a0), .s (.val (.int .i64) a1)] (.two (TValue) (.bool))) (fun (a0 : den (LAttr)) (a1 : den (TAttr)) => call.p 41 [.s (.val (LAttr) a0), .s (.val (TAttr) a1)] (.one (LAttr))) n  m sett7 t17 t18 t19) := by funext sett7 t17 t18 t19; exact ih sett7 t17 t18 t19
    rw [h, e0]; rfl
noncomputable def rules_Typed_top (C_rules_sift__rules_Typed_1 : den (PSchema) → den (LAttr) → Option (denR (.one (LAttr)))) (C_rules_sift__rules_Typed_2 : den (PSchema) → den (LAttr) → Option (denR (.one (LAttr)))) (C_attrs_Get : den (LAttr) → den (.int .i64) → Option (denR (.two (TValue) (.bool)))) (C_attrs_With : den (LAttr) → den (TAttr) → Option (denR (.one (LAttr)))) (LL3 : den (LAttr) → den (LAttr) → den (.int .i64) → den (.int .i64) → Option (denR (.one (LAttr)))) (a0 : den (PSchema)) (a1 : den (LAttr)) (a2 : den (LAttr)) : Option (denR (.one (LAttr))) := ((C_rules_sift__rules_Typed_1 a0 a1).bind fun r1 => ((C_rules_sift__rules_Typed_2 a0 a2).bind fun r2 => LL3 r1 r2 (r2.length : Int) (0 : Int)))
noncomputable def rules_Typed : Nat → den (PSchema) → den (LAttr) → den (LAttr) → Option (denR (.one (LAttr)))
  | 0, _, _, _ => none
  | n + 1, a0, a1, a2 => rules_Typed_top (rules_sift__rules_Typed_1 n) (rules_sift__rules_Typed_2 n) (attrs_Get n) (attrs_With n) (rules_Typed_l3 (rules_sift__rules_Typed_1 n) (rules_sift__rules_Typed_2 n) (attrs_Get n) (attrs_With n) n n) a0 a1 a2
theorem rules_Typed_eq (n : Nat) (a0 : den (PSchema)) (a1 : den (LAttr)) (a2 : den (LAttr)) : (acalls cfg intr intrI n).p 19 [.s (.val (PSchema) a0), .s (.val (LAttr) a1), .s (.val (LAttr) a2)] (.one (LAttr)) = rules_Typed n a0 a1 a2 := by
  cases n with
  | zero => rfl
  | succ n =>
    have h : (acalls cfg intr intrI (n + 1)).p 19 [.s (.val (PSchema) a0), .s (.val (LAttr) a1), .s (.val (LAttr) a2)] (.one (LAttr)) = rules_Typed_top (fun (a0 : den (PSchema)) (a1 : den (LAttr)) => (acalls cfg intr intrI n).p 37 [.s (.val (PSchema) a0), .s (.val (LAttr) a1), .fn 39 []] (.one (LAttr))) (fun (a0 : den (PSchema)) (a1 : den (LAttr)) => (acalls cfg intr intrI n).p 37 [.s (.val (PSchema) a0), .s (.val (LAttr) a1), .fn 40 []] (.one (LAttr))) (fun (a0 : den (LAttr)) (a1 : den (.int .i64)) => (acalls cfg intr intrI n).p 30 [.s (.val (LAttr) a0), .s (.val (.int .i64) a1)] (.two (TValue) (.bool))) (fun (a0 : den (LAttr)) (a1 : den (TAttr)) => (acalls cfg intr intrI n).p 41 [.s (.val (LAttr) a0), .s (.val (TAttr) a1)] (.one (LAttr))) (fun (sett7 : den (LAttr)) (t17 : den (LAttr)) (t18 : den (.int .i64)) (t19 : den (.int .i64)) => loopN (rules_Typed_F3 (acalls cfg intr intrI n) n) n (rules_Typed_sh3 sett7 t17 t18 t19)) a0 a1 a2 := by kernel_rfl
    have e3 : (fun (sett7 : den (LAttr)) (t17 : den (LAttr)) (t18 : den (.int .i64)) (t19 : den (.int .i64)) => loopN (rules_Typed_F3 (acalls cfg intr intrI n) n) n (rules_Typed_sh3 sett7 t17 t18 t19)) = rules_Typed_l3 (fun (a0 : den (PSchema)) (a1 : den (LAttr)) => (acalls cfg intr intrI n).p 37 [.s (.val (PSchema) a0), .s (.val (LAttr) a1), .fn 39 []] (.one (LAttr))) (fun (a0 : den (PSchema)) (a1 : den (LAttr)) => (acalls cfg intr intrI n).p 37 [.s (.val (PSchema) a0), .s (.val (LAttr) a1), .fn 40 []] (.one (LAttr))) (fun (a0 : den (LAttr)) (a1 : den (.int .i64)) => (acalls cfg intr intrI n).p 30 [.s (.val (LAttr) a0), .s (.val (.int .i64) a1)] (.two (TValue) (.bool))) (fun (a0 : den (LAttr)) (a1 : den (TAttr)) => (acalls cfg intr intrI n).p 41 [.s (.val (LAttr) a0), .s (.val (TAttr) a1)] (.one (LAttr))) n n := by funext sett7 t17 t18 t19; exact rules_Typed_l3_eq (acalls cfg intr intrI n) n n sett7 t17 t18 t19
    have c_rules_sift__rules_Typed_1 : (fun (a0 : den (PSchema)) (a1 : den (LAttr)) => (acalls cfg intr intrI n).p 37 [.s (.val (PSchema) a0), .s (.val (LAttr) a1), .fn 39 []] (.one (LAttr))) = rules_sift__rules_Typed_1 n := by funext a0 a1; exact rules_sift__rules_Typed_1_eq n a0 a1
    have c_rules_sift__rules_Typed_2 : (fun (a0 : den (PSchema)) (a1 : den (LAttr)) => (acalls cfg intr intrI n).p 37 [.s (.val (PSchema) a0), .s (.val (LAttr) a1), .fn 40 []] (.one (LAttr))) = rules_sift__rules_Typed_2 n := by funext a0 a1; exact rules_sift__rules_Typed_2_eq n a0 a1
    have c_attrs_Get : (fun (a0 : den (LAttr)) (a1 : den (.int .i64)) => (acalls cfg intr intrI n).p 30 [.s (.val (LAttr) a0), .s (.val (.int .i64) a1)] (.two (TValue) (.bool))) = attrs_Get n := by funext a0 a1; exact attrs_Get_eq n a0 a1
    have c_attrs_With : (fun (a0 : den (LAttr)) (a1 : den (TAttr)) => (acalls cfg intr intrI n).p 41 [.s (.val (LAttr) a0), .s (.val (TAttr) a1)] (.one (LAttr))) = attrs_With n := by funext a0 a1; exact attrs_With_eq n a0 a1
    rw [h, e3, c_rules_sift__rules_Typed_1, c_rules_sift__rules_Typed_2, c_attrs_Get, c_attrs_With]; rfl

noncomputable def B45 : Code := (Go.Proofs.Try.f45.body).getD .skip
noncomputable def ref04_Find_sh2 (keyst0 : den (LKey)) (idt1 : den (.int .i64)) (it6 : den (.int .i64)) (o4 : den (TKey)) : St := ⟨[.s (.val (LKey) keyst0), .s (.val (.int .i64) idt1), U, U, .s (.ref 4 []), U, .s (.val (.int .i64) it6), U, U, U, U, U, U, U, U, U, U, U, U, U, U, U, U, U, U], [(4, .box (TKey) o4)]⟩
noncomputable def ref04_Find_s2    (LS2 : den (LKey) → den (.int .i64) → den (.int .i64) → den (TKey) → Option (denR (.two (TKey) (.bool)))) (keyst0 : den (LKey)) (idt1 : den (.int .i64)) (it6 : den (.int .i64)) (o4 : den (TKey)) : Option (denR (.two (TKey) (.bool))) := (bif (decide (it6 < (keyst0.length : Int))) then (bif decide (0 ≤ it6) && decide (it6 < (keyst0.length : Int)) then (bif (decide ((keyst0.getD (Int.toNat it6) (dflt (TKey))).1 = idt1)) then (bif decide (0 ≤ it6) && decide (it6 < (keyst0.length : Int)) then some ((keyst0.getD (Int.toNat it6) (dflt (TKey))), true) else none) else LS2 keyst0 idt1 (IntKind.wrap .i64 (it6 + (1 : Int))) o4) else none) else some (((0 : Int), (false, ((0 : Int), (false, (false, ((0 : Int), ())))))), false))
noncomputable def ref04_Find_l2  (n : Nat)  : Nat → den (LKey) → den (.int .i64) → den (.int .i64) → den (TKey) → Option (denR (.two (TKey) (.bool)))
  | 0, _, _, _, _ => none
  | m + 1, keyst0, idt1, it6, o4 => ref04_Find_s2    (fun (keyst0 : den (LKey)) (idt1 : den (.int .i64)) (it6 : den (.int .i64)) (o4 : den (TKey)) => ref04_Find_l2  n  m keyst0 idt1 it6 o4) keyst0 idt1 it6 o4
noncomputable def ref04_Find_g2    : List (den (TKey)) → den (.int .i64) → den (TKey) → Option (denR (.two (TKey) (.bool)))
  | [], idt1, o4 => some (((0 : Int), (false, ((0 : Int), (false, (false, ((0 : Int), ())))))), false)
  | x :: r, idt1, o4 => (bif (decide (x.1 = idt1)) then some (x, true) else ref04_Find_g2    r idt1 o4)
theorem ref04_Find_l2_list  (n : Nat)  : ∀ (m i : Nat) (keyst0 : den (LKey)) (idt1 : den (.int .i64)) (o4 : den (TKey)), keyst0.length - i < m → i ≤ keyst0.length → keyst0.length < 4611686018427387904 → ref04_Find_l2  n  m keyst0 idt1 (i : Int) o4 = ref04_Find_g2    (keyst0.drop i) idt1 o4 := by
  intro m
  induction m with
  | zero => intro i keyst0 idt1 o4 h1; omega
  | succ m ih =>
    intro i keyst0 idt1 o4 h1 h2 h3
    show ref04_Find_s2    (fun (keyst0 : den (LKey)) (idt1 : den (.int .i64)) (it6 : den (.int .i64)) (o4 : den (TKey)) => ref04_Find_l2  n  m keyst0 idt1 it6 o4) keyst0 idt1 (i : Int) o4 = _
    unfold ref04_Find_s2
    have b0 : decide ((0 : Int) ≤ (i : Int)) = true := decide_eq_true (by omega)
    rcases Nat.lt_or_ge i keyst0.length with hi | hi
    · have b1 : decide ((i : Int) < (keyst0.length : Int)) = true := decide_eq_true (by omega)
      have bw : IntKind.i64.wrap ((i : Int) + (1 : Int)) = ((i + 1 : Nat) : Int) := w64s (by omega)
      have ih' : ∀ (idt1 : den (.int .i64)) (o4 : den (TKey)), ref04_Find_l2  n  m keyst0 idt1 ((i + 1 : Nat) : Int) o4 = ref04_Find_g2    (keyst0.drop (i + 1)) idt1 o4 := fun idt1 o4 => ih (i + 1) keyst0 idt1 o4 (by omega) (by omega) h3
      simp only [b0, b1, bw, Bool.and_true, Bool.true_and, cond_true, Int.toNat_natCast, ih']
      rw [drop_getD hi (dflt (TKey))]
      rfl
    · have b1 : decide ((i : Int) < (keyst0.length : Int)) = false := decide_eq_false (by omega)
      simp only [b1, cond_false]
      rw [List.drop_eq_nil_of_le hi]
      rfl
noncomputable def ref04_Find_F2 (call : Call0) (n : Nat)  : (St → Option (denR (.two (TKey) (.bool)))) → St → Option (denR (.two (TKey) (.bool))) := fun rec => exec cfg call n 45 (cat B45 [1, 0, 1, 0, 0]) (kLoop rec (lk2 45 2 cfg.keep) (kBlock 0 (kSq (exec cfg call n 45 (cat B45 [1, 1])) (kret cfg Go.Proofs.Try.f45 (.two (TKey) (.bool))))))
theorem ref04_Find_l2_eq (call : Call0) (n : Nat)  : ∀ (m : Nat) (keyst0 : den (LKey)) (idt1 : den (.int .i64)) (it6 : den (.int .i64)) (o4 : den (TKey)), loopN (ref04_Find_F2 call n ) m (ref04_Find_sh2 keyst0 idt1 it6 o4) = ref04_Find_l2  n  m keyst0 idt1 it6 o4 := by
  intro m
  induction m with
  | zero => intros; rfl
  | succ m ih =>
    intro keyst0 idt1 it6 o4
    have h : loopN (ref04_Find_F2 call n ) (m + 1) (ref04_Find_sh2 keyst0 idt1 it6 o4) = ref04_Find_s2    (fun (keyst0 : den (LKey)) (idt1 : den (.int .i64)) (it6 : den (.int .i64)) (o4 : den (TKey)) => loopN (ref04_Find_F2 call n ) m (ref04_Find_sh2 keyst0 idt1 it6 o4)) keyst0 idt1 it6 o4 := by kernel_rfl
    have e0 : (fun (keyst0 : den (LKey)) (idt1 : den (.int .i64)) (it6 : den (.int .i64)) (o4 : den (TKey)) => loopN (ref04_Find_F2 call n ) m (ref04_Find_sh2 keyst0 idt1 it6 o4)) = (fun (keyst0 : den (LKey)) (idt1 : den (.int .i64)) (it6 : den (.int .i64)) (o4 : den (TKey)) => ref04_Find_l2  n  m keyst0 idt1 it6 o4) := by funext keyst0 idt1 it6 o4; exact ih keyst0 idt1 it6 o4
    rw [h, e0]; rfl
noncomputable def ref04_Find_top  (LL2 : den (LKey) → den (.int .i64) → den (.int .i64) → den (TKey) → Option (denR (.two (TKey) (.bool)))) (a0 : den (LKey)) (a1 : den (.int .i64)) : Option (denR (.two (TKey) (.bool))) := LL2 a0 a1 (0 : Int) ((0 : Int), (false, ((0 : Int), (false, (false, ((0 : Int), ()))))))
noncomputable def ref04_Find : Nat → den (LKey) → den (.int .i64) → Option (denR (.two (TKey) (.bool)))
  | 0, _, _ => none
  | n + 1, a0, a1 => ref04_Find_top  (ref04_Find_l2  n n) a0 a1
theorem ref04_Find_eq (n : Nat) (a0 : den (LKey)) (a1 : den (.int .i64)) : (acalls cfg intr intrI n).p 45 [.s (.val (LKey) a0), .s (.val (.int .i64) a1)] (.two (TKey) (.bool)) = ref04_Find n a0 a1 := by
  cases n with
  | zero => rfl
  | succ n =>
    have h : (acalls cfg intr intrI (n + 1)).p 45 [.s (.val (LKey) a0), .s (.val (.int .i64) a1)] (.two (TKey) (.bool)) = ref04_Find_top  (fun (keyst0 : den (LKey)) (idt1 : den (.int .i64)) (it6 : den (.int .i64)) (o4 : den (TKey)) => loopN (ref04_Find_F2 (acalls cfg intr intrI n) n) n (ref04_Find_sh2 keyst0 idt1 it6 o4)) a0 a1 := by kernel_rfl
    have e2 : (fun (keyst0 : den (LKey)) (idt1 : den (.int .i64)) (it6 : den (.int .i64)) (o4 : den (TKey)) => loopN (ref04_Find_F2 (acalls cfg intr intrI n) n) n (ref04_Find_sh2 keyst0 idt1 it6 o4)) = ref04_Find_l2  n n := by funext keyst0 idt1 it6 o4; exact ref04_Find_l2_eq (acalls cfg intr intrI n) n n keyst0 idt1 it6 o4
    rw [h, e2]; rfl

noncomputable def B60 : Code := (Go.Proofs.Try.f60.body).getD .skip
noncomputable def ref04_Keys_sh3 (keyst0 : den (LKey)) (idt4 : den (.int .i64)) (outo3 : den (LKey)) : St := ⟨[.s (.val (LKey) keyst0), U, U, .s (.arr 3), .s (.val (.int .i64) idt4), U, U, U, U, U, U, U, U, U, U, U, U, U, U, U, U, U, U], [(3, .arr 32 (TKey) outo3)]⟩
noncomputable def ref04_Keys_s3 (C_ref04_Find : den (LKey) → den (.int .i64) → Option (denR (.two (TKey) (.bool))))   (LS3 : den (LKey) → den (.int .i64) → den (LKey) → Option (denR (.one (LKey)))) (keyst0 : den (LKey)) (idt4 : den (.int .i64)) (outo3 : den (LKey)) : Option (denR (.one (LKey))) := (bif (decide (idt4 ≤ (1000 : Int))) then ((C_ref04_Find keyst0 idt4).bind fun r1 => (bif r1.2 then (bif decide ((outo3.length + ([r1.1] : List (den (TKey))).length) * 24 ≤ 140737488355328) then LS3 keyst0 (IntKind.wrap .i64 (idt4 + (1 : Int))) (outo3 ++ ([r1.1] : List (den (TKey)))) else none) else LS3 keyst0 (IntKind.wrap .i64 (idt4 + (1 : Int))) outo3)) else some outo3)
noncomputable def ref04_Keys_l3 (C_ref04_Find : den (LKey) → den (.int .i64) → Option (denR (.two (TKey) (.bool)))) (n : Nat)  : Nat → den (LKey) → den (.int .i64) → den (LKey) → Option (denR (.one (LKey)))
  | 0, _, _, _ => none
  | m + 1, keyst0, idt4, outo3 => ref04_Keys_s3 C_ref04_Find   (fun (keyst0 : den (LKey)) (idt4 : den (.int .i64)) (outo3 : den (LKey)) => ref04_Keys_l3 C_ref04_Find n  m keyst0 idt4 outo3) keyst0 idt4 outo3
noncomputable def ref04_Keys_F3 (call : Call0) (n : Nat)  : (St → Option (denR (.one (LKey)))) → St → Option (denR (.one (LKey))) := fun rec => exec cfg call n 60 (cat B60 [1, 1, 0, 1, 0, 0]) (kLoop rec (lk2 60 3 cfg.keep) (kBlock 0 (kSq (exec cfg call n 60 (cat B60 [1, 1, 1])) (kret cfg Go.Proofs.Try.f60 (.one (LKey))))))
theorem ref04_Keys_l3_eq (call : Call0) (n : Nat)  : ∀ (m : Nat) (keyst0 : den (LKey)) (idt4 : den (.int .i64)) (outo3 : den (LKey)), loopN (ref04_Keys_F3 call n ) m (ref04_Keys_sh3 keyst0 idt4 outo3) = ref04_Keys_l3 (fun (a0 : den (LKey)) (a1 : den (.int .i64)) => call.p 45 [.s (.val (LKey) a0), .s (.val (.int .i64) a1)] (.two (TKey) (.bool))) n  m keyst0 idt4 outo3 := by
  intro m
  induction m with
  | zero => intros; rfl
  | succ m ih =>
    intro keyst0 idt4 outo3
    have h : loopN (ref04_Keys_F3 call n ) (m + 1) (ref04_Keys_sh3 keyst0 idt4 outo3) = ref04_Keys_s3 (fun (a0 : den (LKey)) (a1 : den (.int .i64)) => call.p 45 [.s (.val (LKey) a0), .s (.val (.int .i64) a1)] (.two (TKey) (.bool)))   (fun (keyst0 : den (LKey)) (idt4 : den (.int .i64)) (outo3 : den (LKey)) => loopN (ref04_Keys_F3 call n ) m (ref04_Keys_sh3 keyst0 idt4 outo3)) keyst0 idt4 outo3 := by kernel_rfl
    have e0 : (fun (keyst0 : den (LKey)) (idt4 : den (.int .i64)) (outo3 : den (LKey)) => loopN (ref04_Keys_F3 call n ) m (ref04_Keys_sh3 keyst0 idt4 outo3)) = (fun (keyst0 : den (LKey)) (idt4 : den (.int .i64)) (outo3 : den (LKey)) => ref04_Keys_l3 (fun (a0 : den (LKey)) (a1 : den (.int .i64)) => call.p 45 [.s (.val (LKey) a0), .s (.val (.int .i64) a1)] (.two (TKey) (.bool))) n  m keyst0 idt4 outo3) := by funext keyst0 idt4 outo3; exact ih keyst0 idt4 outo3
    rw [h, e0]; rfl
noncomputable def ref04_Keys_top (C_ref04_Find : den (LKey) → den (.int .i64) → Option (denR (.two (TKey) (.bool)))) (LL3 : den (LKey) → den (.int .i64) → den (LKey) → Option (denR (.one (LKey)))) (a0 : den (LKey)) : Option (denR (.one (LKey))) := LL3 a0 (1 : Int) []
noncomputable def ref04_Keys : Nat → den (LKey) → Option (denR (.one (LKey)))
  | 0, _ => none
  | n + 1, a0 => ref04_Keys_top (ref04_Find n) (ref04_Keys_l3 (ref04_Find n) n n) a0
theorem ref04_Keys_eq (n : Nat) (a0 : den (LKey)) : (acalls cfg intr intrI n).p 60 [.s (.val (LKey) a0)] (.one (LKey)) = ref04_Keys n a0 := by
  cases n with
  | zero => rfl
  | succ n =>
    have h : (acalls cfg intr intrI (n + 1)).p 60 [.s (.val (LKey) a0)] (.one (LKey)) = ref04_Keys_top (fun (a0 : den (LKey)) (a1 : den (.int .i64)) => (acalls cfg intr intrI n).p 45 [.s (.val (LKey) a0), .s (.val (.int .i64) a1)] (.two (TKey) (.bool))) (fun (keyst0 : den (LKey)) (idt4 : den (.int .i64)) (outo3 : den (LKey)) => loopN (ref04_Keys_F3 (acalls cfg intr intrI n) n) n (ref04_Keys_sh3 keyst0 idt4 outo3)) a0 := by kernel_rfl
    have e3 : (fun (keyst0 : den (LKey)) (idt4 : den (.int .i64)) (outo3 : den (LKey)) => loopN (ref04_Keys_F3 (acalls cfg intr intrI n) n) n (ref04_Keys_sh3 keyst0 idt4 outo3)) = ref04_Keys_l3 (fun (a0 : den (LKey)) (a1 : den (.int .i64)) => (acalls cfg intr intrI n).p 45 [.s (.val (LKey) a0), .s (.val (.int .i64) a1)] (.two (TKey) (.bool))) n n := by funext keyst0 idt4 outo3; exact ref04_Keys_l3_eq (acalls cfg intr intrI n) n n keyst0 idt4 outo3
    have c_ref04_Find : (fun (a0 : den (LKey)) (a1 : den (.int .i64)) => (acalls cfg intr intrI n).p 45 [.s (.val (LKey) a0), .s (.val (.int .i64) a1)] (.two (TKey) (.bool))) = ref04_Find n := by funext a0 a1; exact ref04_Find_eq n a0 a1
    rw [h, e3, c_ref04_Find]; rfl

noncomputable def B42 : Code := (Go.Proofs.Try.f42.body).getD .skip
noncomputable def ref04_Group_sh5 (idt1 : den (.int .i64)) (okt7 : den (.bool)) (lt8 : den (LKey)) (it9 : den (.int .i64)) (outo5 : den (Li64)) (ko6 : den (TKey)) : St := ⟨[U, .s (.val (.int .i64) idt1), U, U, U, .s (.arr 5), .s (.ref 6 []), .s (.val (.bool) okt7), .s (.val (LKey) lt8), .s (.val (.int .i64) it9), U, U, U, U, U, U, U, U, U, U, U, U, U, U, U, U, U, U, U, U, U, U, U, U, U, U, U, U, U, U, U, U, U, U, U, U, U, U, U, U, U, U, U, U, U, U, U, U], [(5, .arr 3 (.int .i64) outo5), (6, .box (TKey) ko6)]⟩
noncomputable def ref04_Group_s5 (C_ref04_Find : den (LKey) → den (.int .i64) → Option (denR (.two (TKey) (.bool)))) (C_ref04_Keys : den (LKey) → Option (denR (.one (LKey))))   (LS5 : den (.int .i64) → den (.bool) → den (LKey) → den (.int .i64) → den (Li64) → den (TKey) → Option (denR (.one (Li64)))) (idt1 : den (.int .i64)) (okt7 : den (.bool)) (lt8 : den (LKey)) (it9 : den (.int .i64)) (outo5 : den (Li64)) (ko6 : den (TKey)) : Option (denR (.one (Li64))) := (bif okt7 then (bif ((!decide (ko6.2.2.2.2.2.1 = (0 : Int)))) then (bif (decide (it9 < (lt8.length : Int))) then (bif decide (0 ≤ it9) && decide (it9 < (lt8.length : Int)) then (bif (decide (((((((lt8.getD (Int.toNat it9) (dflt (TKey))).2).2).2).2).2).1 = ko6.2.2.2.2.2.1)) then (bif decide (0 ≤ it9) && decide (it9 < (lt8.length : Int)) then (bif ((!decide ((lt8.getD (Int.toNat it9) (dflt (TKey))).1 = idt1))) then (bif decide (0 ≤ it9) && decide (it9 < (lt8.length : Int)) then (bif decide ((outo5.length + ([(lt8.getD (Int.toNat it9) (dflt (TKey))).1] : List (den (.int .i64))).length) * 8 ≤ 140737488355328) then LS5 idt1 okt7 lt8 (IntKind.wrap .i64 (it9 + (1 : Int))) (outo5 ++ ([(lt8.getD (Int.toNat it9) (dflt (TKey))).1] : List (den (.int .i64)))) ko6 else none) else none) else LS5 idt1 okt7 lt8 (IntKind.wrap .i64 (it9 + (1 : Int))) outo5 ko6) else none) else LS5 idt1 okt7 lt8 (IntKind.wrap .i64 (it9 + (1 : Int))) outo5 ko6) else none) else some outo5) else some outo5) else some outo5)
noncomputable def ref04_Group_l5 (C_ref04_Find : den (LKey) → den (.int .i64) → Option (denR (.two (TKey) (.bool)))) (C_ref04_Keys : den (LKey) → Option (denR (.one (LKey)))) (n : Nat)  : Nat → den (.int .i64) → den (.bool) → den (LKey) → den (.int .i64) → den (Li64) → den (TKey) → Option (denR (.one (Li64)))
  | 0, _, _, _, _, _, _ => none
  | m + 1, idt1, okt7, lt8, it9, outo5, ko6 => ref04_Group_s5 C_ref04_Find C_ref04_Keys   (fun (idt1 : den (.int .i64)) (okt7 : den (.bool)) (lt8 : den (LKey)) (it9 : den (.int .i64)) (outo5 : den (Li64)) (ko6 : den (TKey)) => ref04_Group_l5 C_ref04_Find C_ref04_Keys n  m idt1 okt7 lt8 it9 outo5 ko6) idt1 okt7 lt8 it9 outo5 ko6
noncomputable def ref04_Group_F5 (call : Call0) (n : Nat)  : (St → Option (denR (.one (Li64)))) → St → Option (denR (.one (Li64))) := fun rec => exec cfg call n 42 (cat B42 [1, 1, 1, 1, 0, 1, 0, 0]) (kLoop rec (lk2 42 5 cfg.keep) (kBlock 0 (kSq (exec cfg call n 42 (cat B42 [1, 1, 1, 1, 1])) (kret cfg Go.Proofs.Try.f42 (.one (Li64))))))
theorem ref04_Group_l5_eq (call : Call0) (n : Nat)  : ∀ (m : Nat) (idt1 : den (.int .i64)) (okt7 : den (.bool)) (lt8 : den (LKey)) (it9 : den (.int .i64)) (outo5 : den (Li64)) (ko6 : den (TKey)), loopN (ref04_Group_F5 call n ) m (ref04_Group_sh5 idt1 okt7 lt8 it9 outo5 ko6) = ref04_Group_l5 (fun (a0 : den (LKey)) (a1 : den (.int .i64)) => call.p 45 [.s (.val (LKey) a0), .s (.val (.int .i64) a1)] (.two (TKey) (.bool))) (fun (a0 : den (LKey)) => call.p 60 [.s (.val (LKey) a0)] (.one (LKey))) n  m idt1 okt7 lt8 it9 outo5 ko6 := by
  intro m
  induction m with
  | zero => intros; rfl
  | succ m ih =>
    intro idt1 okt7 lt8 it9 outo5 ko6
    have h : loopN (ref04_Group_F5 call n ) (m + 1) (ref04_Group_sh5 idt1 okt7 lt8 it9 outo5 ko6) = ref04_Group_s5 (fun (a0 : den (LKey)) (a1 : den (.int .i64)) => call.p 45 [.s (.val (LKey) a0), .s (.val (.int .i64) a1)] (.two (TKey) (.bool))) (fun (a0 : den (LKey)) => call.p 60 [.s (.val (LKey) a0)] (.one (LKey)))   (fun (idt1 : den (.int .i64)) (okt7 : den (.bool)) (lt8 : den (LKey)) (it9 : den (.int .i64)) (outo5 : den (Li64)) (ko6 : den (TKey)) => loopN (ref04_Group_F5 call n ) m (ref04_Group_sh5 idt1 okt7 lt8 it9 outo5 ko6)) idt1 okt7 lt8 it9 outo5 ko6 := by kernel_rfl
    have e0 : (fun (idt1 : den (.int .i64)) (okt7 : den (.bool)) (lt8 : den (LKey)) (it9 : den (.int .i64)) (outo5 : den (Li64)) (ko6 : den (TKey)) => loopN (ref04_Group_F5 call n ) m (ref04_Group_sh5 idt1 okt7 lt8 it9 outo5 ko6)) = (fun (idt1 : den (.int .i64)) (okt7 : den (.bool)) (lt8 : den (LKey)) (it9 : den (.int .i64)) (outo5 : den (Li64)) (ko6 : den (TKey)) => ref04_Group_l5 (fun (a0 : den (LKey)) (a1 : den (.int .i64)) => call.p 45 [.s (.val (LKey) a0), .s (.val (.int .i64) a1)] (.two (TKey) (.bool))) (fun (a0 : den (LKey)) => call.p 60 [.s (.val (LKey) a0)] (.one (LKey))) n  m idt1 okt7 lt8 it9 outo5 ko6) := by funext idt1 okt7 lt8 it9 outo5 ko6; exact ih idt1 okt7 lt8 it9 outo5 ko6
    rw [h, e0]; rfl
noncomputable def ref04_Group_top (C_ref04_Find : den (LKey) → den (.int .i64) → Option (denR (.two (TKey) (.bool)))) (C_ref04_Keys : den (LKey) → Option (denR (.one (LKey)))) (LL5 : den (.int .i64) → den (.bool) → den (LKey) → den (.int .i64) → den (Li64) → den (TKey) → Option (denR (.one (Li64)))) (a0 : den (LKey)) (a1 : den (.int .i64)) : Option (denR (.one (Li64))) := ((C_ref04_Find a0 a1).bind fun r1 => ((C_ref04_Keys a0).bind fun r2 => LL5 a1 r1.2 r2 (0 : Int) [] r1.1))
noncomputable def ref04_Group : Nat → den (LKey) → den (.int .i64) → Option (denR (.one (Li64)))
  | 0, _, _ => none
  | n + 1, a0, a1 => ref04_Group_top (ref04_Find n) (ref04_Keys n) (ref04_Group_l5 (ref04_Find n) (ref04_Keys n) n n) a0 a1
theorem ref04_Group_eq (n : Nat) (a0 : den (LKey)) (a1 : den (.int .i64)) : (acalls cfg intr intrI n).p 42 [.s (.val (LKey) a0), .s (.val (.int .i64) a1)] (.one (Li64)) = ref04_Group n a0 a1 := by
  cases n with
  | zero => rfl
  | succ n =>
    have h : (acalls cfg intr intrI (n + 1)).p 42 [.s (.val (LKey) a0), .s (.val (.int .i64) a1)] (.one (Li64)) = ref04_Group_top (fun (a0 : den (LKey)) (a1 : den (.int .i64)) => (acalls cfg intr intrI n).p 45 [.s (.val (LKey) a0), .s (.val (.int .i64) a1)] (.two (TKey) (.bool))) (fun (a0 : den (LKey)) => (acalls cfg intr intrI n).p 60 [.s (.val (LKey) a0)] (.one (LKey))) (fun (idt1 : den (.int .i64)) (okt7 : den (.bool)) (lt8 : den (LKey)) (it9 : den (.int .i64)) (outo5 : den (Li64)) (ko6 : den (TKey)) => loopN (ref04_Group_F5 (acalls cfg intr intrI n) n) n (ref04_Group_sh5 idt1 okt7 lt8 it9 outo5 ko6)) a0 a1 := by kernel_rfl
    have e5 : (fun (idt1 : den (.int .i64)) (okt7 : den (.bool)) (lt8 : den (LKey)) (it9 : den (.int .i64)) (outo5 : den (Li64)) (ko6 : den (TKey)) => loopN (ref04_Group_F5 (acalls cfg intr intrI n) n) n (ref04_Group_sh5 idt1 okt7 lt8 it9 outo5 ko6)) = ref04_Group_l5 (fun (a0 : den (LKey)) (a1 : den (.int .i64)) => (acalls cfg intr intrI n).p 45 [.s (.val (LKey) a0), .s (.val (.int .i64) a1)] (.two (TKey) (.bool))) (fun (a0 : den (LKey)) => (acalls cfg intr intrI n).p 60 [.s (.val (LKey) a0)] (.one (LKey))) n n := by funext idt1 okt7 lt8 it9 outo5 ko6; exact ref04_Group_l5_eq (acalls cfg intr intrI n) n n idt1 okt7 lt8 it9 outo5 ko6
    have c_ref04_Find : (fun (a0 : den (LKey)) (a1 : den (.int .i64)) => (acalls cfg intr intrI n).p 45 [.s (.val (LKey) a0), .s (.val (.int .i64) a1)] (.two (TKey) (.bool))) = ref04_Find n := by funext a0 a1; exact ref04_Find_eq n a0 a1
    have c_ref04_Keys : (fun (a0 : den (LKey)) => (acalls cfg intr intrI n).p 60 [.s (.val (LKey) a0)] (.one (LKey))) = ref04_Keys n := by funext a0; exact ref04_Keys_eq n a0
    rw [h, e5, c_ref04_Find, c_ref04_Keys]; rfl

noncomputable def B43 : Code := (Go.Proofs.Try.f43.body).getD .skip
noncomputable def ref06_Find_sh2 (pt0 : den (LChange)) (keyt1 : den (.int .i64)) (it6 : den (.int .i64)) (o4 : den (TChange)) : St := ⟨[.s (.val (LChange) pt0), .s (.val (.int .i64) keyt1), U, U, .s (.ref 4 []), U, .s (.val (.int .i64) it6), U, U, U, U, U, U, U, U, U, U, U, U, U, U, U, U, U, U], [(4, .box (TChange) o4)]⟩
noncomputable def ref06_Find_s2    (LS2 : den (LChange) → den (.int .i64) → den (.int .i64) → den (TChange) → Option (denR (.two (TChange) (.bool)))) (pt0 : den (LChange)) (keyt1 : den (.int .i64)) (it6 : den (.int .i64)) (o4 : den (TChange)) : Option (denR (.two (TChange) (.bool))) := (bif (decide (it6 < (pt0.length : Int))) then (bif decide (0 ≤ it6) && decide (it6 < (pt0.length : Int)) then (bif (decide ((pt0.getD (Int.toNat it6) (dflt (TChange))).1 = keyt1)) then (bif decide (0 ≤ it6) && decide (it6 < (pt0.length : Int)) then some ((pt0.getD (Int.toNat it6) (dflt (TChange))), true) else none) else LS2 pt0 keyt1 (IntKind.wrap .i64 (it6 + (1 : Int))) o4) else none) else some (((0 : Int), (false, (((0 : Int), ((0 : Int), ((0 : Int), ((⟨#[]⟩ : ByteArray), ())))), ()))), false))
noncomputable def ref06_Find_l2  (n : Nat)  : Nat → den (LChange) → den (.int .i64) → den (.int .i64) → den (TChange) → Option (denR (.two (TChange) (.bool)))
  | 0, _, _, _, _ => none
  | m + 1, pt0, keyt1, it6, o4 => ref06_Find_s2    (fun (pt0 : den (LChange)) (keyt1 : den (.int .i64)) (it6 : den (.int .i64)) (o4 : den (TChange)) => ref06_Find_l2  n  m pt0 keyt1 it6 o4) pt0 keyt1 it6 o4
noncomputable def ref06_Find_g2    : List (den (TChange)) → den (.int .i64) → den (TChange) → Option (denR (.two (TChange) (.bool)))
  | [], keyt1, o4 => some (((0 : Int), (false, (((0 : Int), ((0 : Int), ((0 : Int), ((⟨#[]⟩ : ByteArray), ())))), ()))), false)
  | x :: r, keyt1, o4 => (bif (decide (x.1 = keyt1)) then some (x, true) else ref06_Find_g2    r keyt1 o4)
theorem ref06_Find_l2_list  (n : Nat)  : ∀ (m i : Nat) (pt0 : den (LChange)) (keyt1 : den (.int .i64)) (o4 : den (TChange)), pt0.length - i < m → i ≤ pt0.length → pt0.length < 4611686018427387904 → ref06_Find_l2  n  m pt0 keyt1 (i : Int) o4 = ref06_Find_g2    (pt0.drop i) keyt1 o4 := by
  intro m
  induction m with
  | zero => intro i pt0 keyt1 o4 h1; omega
  | succ m ih =>
    intro i pt0 keyt1 o4 h1 h2 h3
    show ref06_Find_s2    (fun (pt0 : den (LChange)) (keyt1 : den (.int .i64)) (it6 : den (.int .i64)) (o4 : den (TChange)) => ref06_Find_l2  n  m pt0 keyt1 it6 o4) pt0 keyt1 (i : Int) o4 = _
    unfold ref06_Find_s2
    have b0 : decide ((0 : Int) ≤ (i : Int)) = true := decide_eq_true (by omega)
    rcases Nat.lt_or_ge i pt0.length with hi | hi
    · have b1 : decide ((i : Int) < (pt0.length : Int)) = true := decide_eq_true (by omega)
      have bw : IntKind.i64.wrap ((i : Int) + (1 : Int)) = ((i + 1 : Nat) : Int) := w64s (by omega)
      have ih' : ∀ (keyt1 : den (.int .i64)) (o4 : den (TChange)), ref06_Find_l2  n  m pt0 keyt1 ((i + 1 : Nat) : Int) o4 = ref06_Find_g2    (pt0.drop (i + 1)) keyt1 o4 := fun keyt1 o4 => ih (i + 1) pt0 keyt1 o4 (by omega) (by omega) h3
      simp only [b0, b1, bw, Bool.and_true, Bool.true_and, cond_true, Int.toNat_natCast, ih']
      rw [drop_getD hi (dflt (TChange))]
      rfl
    · have b1 : decide ((i : Int) < (pt0.length : Int)) = false := decide_eq_false (by omega)
      simp only [b1, cond_false]
      rw [List.drop_eq_nil_of_le hi]
      rfl
noncomputable def ref06_Find_F2 (call : Call0) (n : Nat)  : (St → Option (denR (.two (TChange) (.bool)))) → St → Option (denR (.two (TChange) (.bool))) := fun rec => exec cfg call n 43 (cat B43 [1, 0, 1, 0, 0]) (kLoop rec (lk2 43 2 cfg.keep) (kBlock 0 (kSq (exec cfg call n 43 (cat B43 [1, 1])) (kret cfg Go.Proofs.Try.f43 (.two (TChange) (.bool))))))
theorem ref06_Find_l2_eq (call : Call0) (n : Nat)  : ∀ (m : Nat) (pt0 : den (LChange)) (keyt1 : den (.int .i64)) (it6 : den (.int .i64)) (o4 : den (TChange)), loopN (ref06_Find_F2 call n ) m (ref06_Find_sh2 pt0 keyt1 it6 o4) = ref06_Find_l2  n  m pt0 keyt1 it6 o4 := by
  intro m
  induction m with
  | zero => intros; rfl
  | succ m ih =>
    intro pt0 keyt1 it6 o4
    have h : loopN (ref06_Find_F2 call n ) (m + 1) (ref06_Find_sh2 pt0 keyt1 it6 o4) = ref06_Find_s2    (fun (pt0 : den (LChange)) (keyt1 : den (.int .i64)) (it6 : den (.int .i64)) (o4 : den (TChange)) => loopN (ref06_Find_F2 call n ) m (ref06_Find_sh2 pt0 keyt1 it6 o4)) pt0 keyt1 it6 o4 := by kernel_rfl
    have e0 : (fun (pt0 : den (LChange)) (keyt1 : den (.int .i64)) (it6 : den (.int .i64)) (o4 : den (TChange)) => loopN (ref06_Find_F2 call n ) m (ref06_Find_sh2 pt0 keyt1 it6 o4)) = (fun (pt0 : den (LChange)) (keyt1 : den (.int .i64)) (it6 : den (.int .i64)) (o4 : den (TChange)) => ref06_Find_l2  n  m pt0 keyt1 it6 o4) := by funext pt0 keyt1 it6 o4; exact ih pt0 keyt1 it6 o4
    rw [h, e0]; rfl
noncomputable def ref06_Find_top  (LL2 : den (LChange) → den (.int .i64) → den (.int .i64) → den (TChange) → Option (denR (.two (TChange) (.bool)))) (a0 : den (LChange)) (a1 : den (.int .i64)) : Option (denR (.two (TChange) (.bool))) := LL2 a0 a1 (0 : Int) ((0 : Int), (false, (((0 : Int), ((0 : Int), ((0 : Int), ((⟨#[]⟩ : ByteArray), ())))), ())))
noncomputable def ref06_Find : Nat → den (LChange) → den (.int .i64) → Option (denR (.two (TChange) (.bool)))
  | 0, _, _ => none
  | n + 1, a0, a1 => ref06_Find_top  (ref06_Find_l2  n n) a0 a1
theorem ref06_Find_eq (n : Nat) (a0 : den (LChange)) (a1 : den (.int .i64)) : (acalls cfg intr intrI n).p 43 [.s (.val (LChange) a0), .s (.val (.int .i64) a1)] (.two (TChange) (.bool)) = ref06_Find n a0 a1 := by
  cases n with
  | zero => rfl
  | succ n =>
    have h : (acalls cfg intr intrI (n + 1)).p 43 [.s (.val (LChange) a0), .s (.val (.int .i64) a1)] (.two (TChange) (.bool)) = ref06_Find_top  (fun (pt0 : den (LChange)) (keyt1 : den (.int .i64)) (it6 : den (.int .i64)) (o4 : den (TChange)) => loopN (ref06_Find_F2 (acalls cfg intr intrI n) n) n (ref06_Find_sh2 pt0 keyt1 it6 o4)) a0 a1 := by kernel_rfl
    have e2 : (fun (pt0 : den (LChange)) (keyt1 : den (.int .i64)) (it6 : den (.int .i64)) (o4 : den (TChange)) => loopN (ref06_Find_F2 (acalls cfg intr intrI n) n) n (ref06_Find_sh2 pt0 keyt1 it6 o4)) = ref06_Find_l2  n n := by funext pt0 keyt1 it6 o4; exact ref06_Find_l2_eq (acalls cfg intr intrI n) n n pt0 keyt1 it6 o4
    rw [h, e2]; rfl

end Go.Proofs.Ytlcphnmkkilefaa.Ab
