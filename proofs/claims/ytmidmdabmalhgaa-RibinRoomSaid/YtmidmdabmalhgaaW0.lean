/- How a row of this seat is closed. -/
import Derived.Test.YtmidmdabmalhgaaG1
import Derived.Test.YtmidmdabmalhgaaR0
import Derived.Test.YtmidmdabmalhgaaRows
import Derived.ProofKit
namespace Go.Sim
open Go.RowKit Go.Proofs Go.ChangeShapes
set_option linter.unusedVariables false
set_option linter.unusedSimpArgs false
set_option maxRecDepth 100000

theorem env_ok : EnvOk env where
  inpl := fun f g h => by
    by_cases hf : f = 48
    · subst hf
      have : g = insG 64 6 64 := by
        have e : env.inpl 48 = some (insG 64 6 64) := rfl
        rw [e] at h; injection h with h; exact h.symm
      subst this
      exact insert_inpl rfl (by kernel_rfl)
    · have e : env.inpl f = none := by
        unfold env
        simp only []
      rw [e] at h; cases h
  mixed := by kernel_rfl
  named := fun f fn h => by
    have hall : (Try.prog.funcs.all fun fn => !(fn.name == "runtime.NumGoroutine")) = true := by kernel_rfl
    rw [Array.all_eq_true_iff_forall_mem] at hall
    have := hall fn (Array.mem_of_getElem? h)
    simpa using this
  ext := fun f e h => by
    by_cases h46 : f = 46
    · subst h46
      have e1 : env.ext 46 = some (cloneG 6 64) := rfl
      rw [e1] at h; injection h with h; subst h
      exact clone46_ext rfl (by kernel_rfl) rfl
    · by_cases h73 : f = 73
      · subst h73
        have e1 : env.ext 73 = some (cloneG 6 48) := rfl
        rw [e1] at h; injection h with h; subst h
        exact clone73_ext rfl (by kernel_rfl) rfl
      · exfalso
        have e1 : env.ext f = none := by
          unfold env
          simp only []
        rw [e1] at h; cases h
end Go.Sim
