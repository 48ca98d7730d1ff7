/- The seat's tables are true of the program. -/
import Derived.Test.YtlcphnmkkilefaaAK
import Derived.Test.YtlcphnmkkilefaaAL36
import Derived.Test.YtlcphnmkkilefaaAL59
import Derived.Test.YtlcphnmkkilefaaG
import Derived.Test.YtlcphnmkkilefaaAN
import Derived.KernelRfl
set_option maxRecDepth 100000
set_option linter.unusedVariables false
namespace Go.Proofs.Ytlcphnmkkilefaa.Ab
open Go
theorem cfg_fn : ∀ p ∈ cfg.fns, Go.Proofs.Try.prog.funcs[p.1]? = some p.2 := by
  intro p hp
  simp only [cfg, List.mem_cons, List.not_mem_nil, or_false] at hp
  rcases hp with rfl | rfl | rfl | rfl | rfl | rfl | rfl | rfl | rfl | rfl | rfl | rfl | rfl | rfl | rfl | rfl | rfl | rfl | rfl | rfl | rfl | rfl | rfl | rfl | rfl | rfl | rfl | rfl | rfl | rfl | rfl | rfl | rfl | rfl | rfl | rfl | rfl | rfl | rfl | rfl | rfl | rfl | rfl | rfl | rfl | rfl | rfl | rfl | rfl | rfl | rfl | rfl | rfl | rfl
  · exact Try.func3
  · exact Try.func4
  · exact Try.func5
  · exact Try.func6
  · exact Try.func7
  · exact Try.func8
  · exact Try.func9
  · exact Try.func10
  · exact Try.func11
  · exact Try.func12
  · exact Try.func13
  · exact Try.func14
  · exact Try.func15
  · exact Try.func16
  · exact Try.func17
  · exact Try.func18
  · exact Try.func19
  · exact Try.func20
  · exact Try.func21
  · exact Try.func22
  · exact Try.func23
  · exact Try.func24
  · exact Try.func26
  · exact Try.func29
  · exact Try.func30
  · exact Try.func31
  · exact Try.func32
  · exact Try.func33
  · exact Try.func34
  · exact Try.func35
  · exact Try.func36
  · exact Try.func37
  · exact Try.func38
  · exact Try.func39
  · exact Try.func40
  · exact Try.func41
  · exact Try.func42
  · exact Try.func43
  · exact Try.func44
  · exact Try.func45
  · exact Try.func46
  · exact Try.func47
  · exact Try.func48
  · exact Try.func51
  · exact Try.func52
  · exact Try.func53
  · exact Try.func54
  · exact Try.func55
  · exact Try.func58
  · exact Try.func59
  · exact Try.func60
  · exact Try.func61
  · exact Try.func72
  · exact Try.func73
theorem cfg_ok : CfgOk Go.Proofs.Try.prog cfg ∧ ∀ f F, lk f cfg.fns = some F → ∃ b, F.body = some b :=
  cfgOk_of (by kernel_rfl) (by kernel_rfl) (by kernel_rfl) (by kernel_rfl) (by kernel_rfl) cfg_fn
theorem intr_ok : IntrOk Go.Proofs.Try.prog intr := intrN_ok
theorem intr59_ok : ∀ F n args ob S (x : denS S), lk 59 cfg.fns = some F → gInsert 60 (TAttr) 48 n args ob S = some x → ICallOk Go.Proofs.Try.prog F.ntmps 59 args ob S x := fun F n args ob S x _ h =>
  insert_ok (T := TAttr) (fun v u n m i xs ys w a b c d e f g h => ins59_walk v u n m i xs ys w a b c d e f g h) n args ob S x h
noncomputable def BB58 : Code := (Go.Proofs.Try.f58.body).getD .skip
theorem intr58_ok : ∀ F n args ob S (x : denS S), lk 58 cfg.fns = some F → gClone 60 (TAttr) 48 n args ob S = some x → ICallOk Go.Proofs.Try.prog F.ntmps 58 args ob S x := by
  intro F n args ob S x hF h
  have hF' : lk 58 cfg.fns = some Go.Proofs.Try.f58 := by kernel_rfl
  rw [hF'] at hF
  simp only [Option.some.injEq] at hF
  subst hF
  exact clone_ok cfg_ok (F := Go.Proofs.Try.f58) (t := 23) (id1 := regId (cat BB58 [1, 0, 0])) (o1 := regOp (cat BB58 [1, 0, 0]) 0) (o2 := regOp (cat BB58 [1, 0, 0]) 1) (r0 := cat BB58 [0]) (c2 := cat BB58 [1, 0, 1, 0]) (c3 := cat BB58 [1, 1])
    (by kernel_rfl) (by kernel_rfl) (by kernel_rfl) ⟨by kernel_rfl, by kernel_rfl, by kernel_rfl⟩ ⟨by kernel_rfl, by kernel_rfl, by kernel_rfl⟩ (Nat.le_of_ble_eq_true (by kernel_rfl))
    (fun l => runTo cfg 58 (cat BB58 [0]) (stI Go.Proofs.Try.f58 [.s (.val (.slice (TAttr)) l)] [])) (fun l K => by kernel_rfl) (fun l => by kernel_rfl) (fun l => Nat.le_of_ble_eq_true (by kernel_rfl)) (fun l => by kernel_rfl) (fun l => by kernel_rfl) n args ob S x h
theorem intr36_ok : ∀ F n args ob S (x : denS S), lk 36 cfg.fns = some F → gInsert 57 (TChange) 56 n args ob S = some x → ICallOk Go.Proofs.Try.prog F.ntmps 36 args ob S x := fun F n args ob S x _ h =>
  insert_ok (T := TChange) (fun v u n m i xs ys w a b c d e f g h => ins36_walk v u n m i xs ys w a b c d e f g h) n args ob S x h
noncomputable def BB33 : Code := (Go.Proofs.Try.f33.body).getD .skip
theorem intr33_ok : ∀ F n args ob S (x : denS S), lk 33 cfg.fns = some F → gClone 57 (TChange) 56 n args ob S = some x → ICallOk Go.Proofs.Try.prog F.ntmps 33 args ob S x := by
  intro F n args ob S x hF h
  have hF' : lk 33 cfg.fns = some Go.Proofs.Try.f33 := by kernel_rfl
  rw [hF'] at hF
  simp only [Option.some.injEq] at hF
  subst hF
  exact clone_ok cfg_ok (F := Go.Proofs.Try.f33) (t := 35) (id1 := regId (cat BB33 [1, 0, 0])) (o1 := regOp (cat BB33 [1, 0, 0]) 0) (o2 := regOp (cat BB33 [1, 0, 0]) 1) (r0 := cat BB33 [0]) (c2 := cat BB33 [1, 0, 1, 0]) (c3 := cat BB33 [1, 1])
    (by kernel_rfl) (by kernel_rfl) (by kernel_rfl) ⟨by kernel_rfl, by kernel_rfl, by kernel_rfl⟩ ⟨by kernel_rfl, by kernel_rfl, by kernel_rfl⟩ (Nat.le_of_ble_eq_true (by kernel_rfl))
    (fun l => runTo cfg 33 (cat BB33 [0]) (stI Go.Proofs.Try.f33 [.s (.val (.slice (TChange)) l)] [])) (fun l K => by kernel_rfl) (fun l => by kernel_rfl) (fun l => Nat.le_of_ble_eq_true (by kernel_rfl)) (fun l => by kernel_rfl) (fun l => by kernel_rfl) n args ob S x h
theorem intrI_ok : IntrIOk Go.Proofs.Try.prog cfg intrI := intrI_cons (fun F n args ob S x h1 h2 => intr33_ok F n args ob S x h1 h2) (intrI_cons (fun F n args ob S x h1 h2 => intr36_ok F n args ob S x h1 h2) (intrI_cons (fun F n args ob S x h1 h2 => intr58_ok F n args ob S x h1 h2) (intrI_cons (fun F n args ob S x h1 h2 => intr59_ok F n args ob S x h1 h2) (intrI_nil))))
#print axioms cfg_ok
#print axioms intrI_ok
#print axioms law_calls
end Go.Proofs.Ytlcphnmkkilefaa.Ab
