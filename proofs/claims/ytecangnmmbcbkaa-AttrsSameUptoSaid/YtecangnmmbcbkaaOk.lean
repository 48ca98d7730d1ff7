/- The seat's tables are true of the program. -/
import Derived.Test.YtecangnmmbcbkaaAK
import Derived.Test.YtecangnmmbcbkaaAL
import Derived.Test.YtecangnmmbcbkaaG
import Derived.KernelRfl
set_option maxRecDepth 100000
namespace Go.Proofs.Ytecangnmmbcbkaa.Ab
open Go
theorem cfg_fn : ∀ p ∈ cfg.fns, Go.Proofs.Try.prog.funcs[p.1]? = some p.2 := by
  intro p hp
  simp only [cfg, List.mem_cons, List.not_mem_nil, or_false] at hp
  rcases hp with rfl | rfl | rfl | rfl | rfl | rfl | rfl | rfl | rfl | rfl | rfl | rfl | rfl | rfl | rfl | rfl | rfl | rfl | rfl | rfl | rfl | rfl | rfl | rfl | rfl | rfl | rfl | rfl | rfl | rfl | rfl | rfl | rfl | rfl | rfl | rfl | rfl | rfl | rfl | rfl | rfl | rfl | rfl | rfl
  · exact Try.func3
  · exact Try.func4
  · exact Try.func5
  · exact Try.func6
  · exact Try.func7
  · exact Try.func8
  · exact Try.func9
  · exact Try.func10
  · exact Try.func11
  · exact Try.func12
  · exact Try.func13
  · exact Try.func14
  · exact Try.func15
  · exact Try.func16
  · exact Try.func17
  · exact Try.func18
  · exact Try.func19
  · exact Try.func20
  · exact Try.func21
  · exact Try.func22
  · exact Try.func23
  · exact Try.func24
  · exact Try.func25
  · exact Try.func26
  · exact Try.func27
  · exact Try.func28
  · exact Try.func29
  · exact Try.func30
  · exact Try.func31
  · exact Try.func32
  · exact Try.func33
  · exact Try.func34
  · exact Try.func35
  · exact Try.func36
  · exact Try.func37
  · exact Try.func38
  · exact Try.func39
  · exact Try.func40
  · exact Try.func41
  · exact Try.func42
  · exact Try.func43
  · exact Try.func44
  · exact Try.func47
  · exact Try.func48
theorem cfg_ok : CfgOk Go.Proofs.Try.prog cfg ∧ ∀ f F, lk f cfg.fns = some F → ∃ b, F.body = some b :=
  cfgOk_of (by kernel_rfl) (by kernel_rfl) (by kernel_rfl) (by kernel_rfl) (by kernel_rfl) cfg_fn
theorem intr_ok : IntrOk Go.Proofs.Try.prog intr := intr_nil
theorem intr37_ok : ∀ F n args ob S (x : denS S), lk 37 cfg.fns = some F → gInsert 46 (TAttr) 48 n args ob S = some x → ICallOk Go.Proofs.Try.prog F.ntmps 37 args ob S x := fun F n args ob S x _ h =>
  insert_ok (T := TAttr) (fun v u n m i xs ys w a b c d e f g h => ins37_walk v u n m i xs ys w a b c d e f g h) n args ob S x h
noncomputable def BB36 : Code := (Go.Proofs.Try.f36.body).getD .skip
theorem intr36_ok : ∀ F n args ob S (x : denS S), lk 36 cfg.fns = some F → gClone 46 (TAttr) 48 n args ob S = some x → ICallOk Go.Proofs.Try.prog F.ntmps 36 args ob S x := by
  intro F n args ob S x hF h
  have hF' : lk 36 cfg.fns = some Go.Proofs.Try.f36 := by kernel_rfl
  rw [hF'] at hF
  simp only [Option.some.injEq] at hF
  subst hF
  exact clone_ok cfg_ok (F := Go.Proofs.Try.f36) (t := 22) (id1 := regId (cat BB36 [1, 0, 0])) (o1 := regOp (cat BB36 [1, 0, 0]) 0) (o2 := regOp (cat BB36 [1, 0, 0]) 1) (r0 := cat BB36 [0]) (c2 := cat BB36 [1, 0, 1, 0]) (c3 := cat BB36 [1, 1])
    (by kernel_rfl) (by kernel_rfl) (by kernel_rfl) ⟨by kernel_rfl, by kernel_rfl, by kernel_rfl⟩ ⟨by kernel_rfl, by kernel_rfl, by kernel_rfl⟩ (Nat.le_of_ble_eq_true (by kernel_rfl))
    (fun l => runTo cfg 36 (cat BB36 [0]) (stI Go.Proofs.Try.f36 [.s (.val (.slice (TAttr)) l)] [])) (fun l K => by kernel_rfl) (fun l => by kernel_rfl) (fun l => Nat.le_of_ble_eq_true (by kernel_rfl)) (fun l => by kernel_rfl) (fun l => by kernel_rfl) n args ob S x h
noncomputable def BB31 : Code := (Go.Proofs.Try.f31.body).getD .skip
theorem intr31_ok : ∀ F n args ob S (x : denS S), lk 31 cfg.fns = some F → gClone 40 (TChange) 56 n args ob S = some x → ICallOk Go.Proofs.Try.prog F.ntmps 31 args ob S x := by
  intro F n args ob S x hF h
  have hF' : lk 31 cfg.fns = some Go.Proofs.Try.f31 := by kernel_rfl
  rw [hF'] at hF
  simp only [Option.some.injEq] at hF
  subst hF
  exact clone_ok cfg_ok (F := Go.Proofs.Try.f31) (t := 23) (id1 := regId (cat BB31 [1, 0, 0])) (o1 := regOp (cat BB31 [1, 0, 0]) 0) (o2 := regOp (cat BB31 [1, 0, 0]) 1) (r0 := cat BB31 [0]) (c2 := cat BB31 [1, 0, 1, 0]) (c3 := cat BB31 [1, 1])
    (by kernel_rfl) (by kernel_rfl) (by kernel_rfl) ⟨by kernel_rfl, by kernel_rfl, by kernel_rfl⟩ ⟨by kernel_rfl, by kernel_rfl, by kernel_rfl⟩ (Nat.le_of_ble_eq_true (by kernel_rfl))
    (fun l => runTo cfg 31 (cat BB31 [0]) (stI Go.Proofs.Try.f31 [.s (.val (.slice (TChange)) l)] [])) (fun l K => by kernel_rfl) (fun l => by kernel_rfl) (fun l => Nat.le_of_ble_eq_true (by kernel_rfl)) (fun l => by kernel_rfl) (fun l => by kernel_rfl) n args ob S x h
theorem intrI_ok : IntrIOk Go.Proofs.Try.prog cfg intrI := intrI_cons (fun F n args ob S x h1 h2 => intr31_ok F n args ob S x h1 h2) (intrI_cons (fun F n args ob S x h1 h2 => intr36_ok F n args ob S x h1 h2) (intrI_cons (fun F n args ob S x h1 h2 => intr37_ok F n args ob S x h1 h2) (intrI_nil)))
#print axioms cfg_ok
#print axioms intrI_ok
#print axioms law_calls
end Go.Proofs.Ytecangnmmbcbkaa.Ab
