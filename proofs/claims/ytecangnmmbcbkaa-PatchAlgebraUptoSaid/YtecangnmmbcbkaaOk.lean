/- The seat's tables are true of the program. -/
import Derived.Test.YtecangnmmbcbkaaA12
import Derived.Test.YtecangnmmbcbkaaG0
import Derived.KernelRfl
set_option maxRecDepth 100000
namespace Go.Proofs.Ytecangnmmbcbkaa.Ab
open Go
theorem cfg_fn : ∀ p ∈ cfg.fns, Go.Proofs.Try.prog.funcs[p.1]? = some p.2 := by
  intro p hp
  simp only [cfg, List.mem_cons, List.not_mem_nil, or_false] at hp
  rcases hp with rfl | rfl | rfl | rfl | rfl | rfl | rfl | rfl | rfl | rfl | rfl | rfl | rfl | rfl | rfl | rfl | rfl | rfl | rfl | rfl | rfl
  · exact Try.func3
  · exact Try.func4
  · exact Try.func8
  · exact Try.func9
  · exact Try.func10
  · exact Try.func11
  · exact Try.func12
  · exact Try.func13
  · exact Try.func14
  · exact Try.func15
  · exact Try.func16
  · exact Try.func17
  · exact Try.func23
  · exact Try.func27
  · exact Try.func28
  · exact Try.func29
  · exact Try.func35
  · exact Try.func42
  · exact Try.func43
  · exact Try.func44
  · exact Try.func48
theorem cfg_ok : CfgOk Go.Proofs.Try.prog cfg ∧ ∀ f F, lk f cfg.fns = some F → ∃ b, F.body = some b :=
  cfgOk_of (by kernel_rfl) (by kernel_rfl) (by kernel_rfl) (by kernel_rfl) (by kernel_rfl) cfg_fn
theorem intr_ok : ∀ f g n args R (x : denR R), lk f intr = some g → g n args R = some x → CallOk Go.Proofs.Try.prog f args R x := intr_nil
#print axioms cfg_ok
#print axioms law_calls
end Go.Proofs.Ytecangnmmbcbkaa.Ab
