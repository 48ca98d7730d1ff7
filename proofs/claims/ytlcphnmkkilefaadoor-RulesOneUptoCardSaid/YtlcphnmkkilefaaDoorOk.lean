/- The seat's tables are true of the program. -/
import Derived.Test.YtlcphnmkkilefaaDoorAK
import Derived.Test.YtlcphnmkkilefaaDoorAL25
import Derived.Test.YtlcphnmkkilefaaDoorG
import Derived.Test.YtlcphnmkkilefaaDoorAN
import Derived.KernelRfl
set_option maxRecDepth 100000
set_option linter.unusedVariables false
namespace Go.Proofs.YtlcphnmkkilefaaDoor.Ab
open Go
theorem cfg_fn : ∀ p ∈ cfg.fns, Go.Proofs.Tryd.prog.funcs[p.1]? = some p.2 := by
  intro p hp
  simp only [cfg, List.mem_cons, List.not_mem_nil, or_false] at hp
  rcases hp with rfl | rfl | rfl | rfl | rfl | rfl | rfl | rfl | rfl | rfl | rfl | rfl | rfl | rfl | rfl | rfl | rfl | rfl | rfl | rfl | rfl | rfl | rfl | rfl | rfl | rfl | rfl | rfl | rfl | rfl | rfl | rfl | rfl | rfl | rfl | rfl | rfl | rfl
  · exact Tryd.func3
  · exact Tryd.func4
  · exact Tryd.func5
  · exact Tryd.func6
  · exact Tryd.func7
  · exact Tryd.func8
  · exact Tryd.func9
  · exact Tryd.func10
  · exact Tryd.func11
  · exact Tryd.func12
  · exact Tryd.func13
  · exact Tryd.func14
  · exact Tryd.func16
  · exact Tryd.func19
  · exact Tryd.func20
  · exact Tryd.func21
  · exact Tryd.func22
  · exact Tryd.func23
  · exact Tryd.func24
  · exact Tryd.func25
  · exact Tryd.func26
  · exact Tryd.func27
  · exact Tryd.func28
  · exact Tryd.func31
  · exact Tryd.func32
  · exact Tryd.func33
  · exact Tryd.func34
  · exact Tryd.func36
  · exact Tryd.func37
  · exact Tryd.func38
  · exact Tryd.func41
  · exact Tryd.func42
  · exact Tryd.func53
  · exact Tryd.func55
  · exact Tryd.func57
  · exact Tryd.func58
  · exact Tryd.func64
  · exact Tryd.func67
theorem cfg_ext : ∀ p ∈ cfg.ext, ExtOk Go.Proofs.Tryd.prog p.1 p.2 := by
  intro p hp
  simp only [cfg, List.mem_cons, List.not_mem_nil, or_false] at hp
  rcases hp with rfl | rfl
  · exact ⟨_, (extF 0).get (by kernel_rfl), Tryd.func35, by kernel_rfl, by kernel_rfl, by kernel_rfl, by kernel_rfl, by kernel_rfl⟩
  · exact ⟨_, (extF 1).get (by kernel_rfl), Tryd.func54, by kernel_rfl, by kernel_rfl, by kernel_rfl, by kernel_rfl, by kernel_rfl⟩
theorem cfg_ok : CfgOk Go.Proofs.Tryd.prog cfg ∧ ∀ f F, lk f cfg.fns = some F → ∃ b, F.body = some b :=
  cfgOk_of (by kernel_rfl) (by kernel_rfl) (by kernel_rfl) (by kernel_rfl) (by kernel_rfl) cfg_fn (by kernel_rfl) cfg_ext
theorem intr_ok : IntrOk Go.Proofs.Tryd.prog intr := intrN_ok
theorem intr25_ok : ∀ F n args ob S (x : denS S), lk 25 cfg.fns = some F → gInsert 41 (TChange) 56 n args ob S = some x → ICallOk Go.Proofs.Tryd.prog F.ntmps 25 args ob S x := fun F n args ob S x _ h =>
  insert_ok (T := TChange) (fun v u n m i xs ys w a b c d e f g h => ins25_walk v u n m i xs ys w a b c d e f g h) n args ob S x h
noncomputable def BB23 : Code := (Go.Proofs.Tryd.f23.body).getD .skip
theorem intr23_ok : ∀ F n args ob S (x : denS S), lk 23 cfg.fns = some F → gClone 41 (TChange) 56 n args ob S = some x → ICallOk Go.Proofs.Tryd.prog F.ntmps 23 args ob S x := by
  intro F n args ob S x hF h
  have hF' : lk 23 cfg.fns = some Go.Proofs.Tryd.f23 := by kernel_rfl
  rw [hF'] at hF
  simp only [Option.some.injEq] at hF
  subst hF
  exact clone_ok cfg_ok (F := Go.Proofs.Tryd.f23) (t := 23) (id1 := regId (cat BB23 [1, 0, 0])) (o1 := regOp (cat BB23 [1, 0, 0]) 0) (o2 := regOp (cat BB23 [1, 0, 0]) 1) (r0 := cat BB23 [0]) (c2 := cat BB23 [1, 0, 1, 0]) (c3 := cat BB23 [1, 1])
    (by kernel_rfl) (by kernel_rfl) (by kernel_rfl) ⟨by kernel_rfl, by kernel_rfl, by kernel_rfl⟩ ⟨by kernel_rfl, by kernel_rfl, by kernel_rfl⟩ (Nat.le_of_ble_eq_true (by kernel_rfl))
    (fun l => runTo cfg 23 (cat BB23 [0]) (stI Go.Proofs.Tryd.f23 [.s (.val (.slice (TChange)) l)] [])) (fun l K => by kernel_rfl) (fun l => by kernel_rfl) (fun l => Nat.le_of_ble_eq_true (by kernel_rfl)) (fun l => by kernel_rfl) (fun l => by kernel_rfl) n args ob S x h
theorem intrI_ok : IntrIOk Go.Proofs.Tryd.prog cfg intrI := intrI_cons (fun F n args ob S x h1 h2 => intr23_ok F n args ob S x h1 h2) (intrI_cons (fun F n args ob S x h1 h2 => intr25_ok F n args ob S x h1 h2) (intrI_nil))
#print axioms cfg_ok
#print axioms intrI_ok
#print axioms law_calls
end Go.Proofs.YtlcphnmkkilefaaDoor.Ab
