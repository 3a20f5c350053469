/- TopoDisagree: two that each like the other one better do not go together. -/
import Derived.Test.YtckfafoabnfbpaaX1
import Derived.Test.YtckfafoabnfbpaaX3
import Derived.Test.YtckfafoabnfbpaaRows
import Derived.SizedLaws
namespace Go.Proofs.Ytckfafoabnfbpaa
open Go.ChangeShapes Go.WideShapes Go.ChangeAt Go.RowKit Go.Sim
set_option linter.unusedVariables false
set_option linter.unusedSimpArgs false

theorem Try.own : ownKnob Try.prog.godebug = none := by kernel_rfl
theorem Try.laidOut : laidOutB Try.prog = true := by kernel_rfl
theorem readsF : ([3] : List TypeId).all (fun t => Try.prog.readableRec t && decide (t < Try.prog.types.size)) = true := by kernel_rfl
theorem resTF : Try.f8.resultTypes = #[4] := by kernel_rfl

set_option maxRecDepth 100000 in
theorem f_lifted (os : Os) (started : os.Started) (H : Type) (enc : TypeId × Value → H) :
    ReturnsInHanded {} Try.checked os 8 .any (Rows.topoDisagreeSpec.pre6 enc Try.prog Try.f8 Rows.topoDisagreeRow.domain false) (Rows.topoDisagreeSpec.post enc Try.prog Try.f8 false true false false) := by
  refine returnsInHanded_of_change_sized (C := Try.checked) Try.own started (by kernel_rfl) Try.func8
    (ChangeSpec.witness6 (enc := enc) (C := Try.checked) false ⟨#[], #[.int .i64 0], []⟩ 8 (by kernel_rfl) (by kernel_rfl) (by kernel_rfl) (by kernel_rfl)) ?_
  intro W base args ds gs before hval0 hW0 _ hsz0 _
  have hval : ∀ (j : Nat) t v, Try.f8.params[j]? = some t → args[j]? = some v → Value.okWide Try.prog W .any base t v := hval0
  have hsz : (DataW.weightsEach Try.prog (Try.f8.params.toList ++ Rows.topoDisagreeSpec.plain.varTypes Try.prog) (ds ++ gs)).all (· ≤ reachBytes) = true := hsz0
  have hW : DataW.Whole enc Try.prog Try.f8.params.toList Rows.topoDisagreeSpec.vars false W args.toList ds gs before := hW0
  clear hW0 hval0 hsz0
  obtain ⟨p, q, hA, hV, hpq, hfz, hnd⟩ := id hW
  obtain ⟨hg, _⟩ := trodVars_none hV
  rw [hg, show Rows.topoDisagreeSpec.plain.varTypes Try.prog = [] from rfl, List.append_nil, List.append_nil] at hsz
  have hread : ∀ t ∈ Try.f8.params.toList, Try.prog.readableRec t = true ∧ t < Try.prog.types.size := by
    rw [Try.params8]
    intro t ht
    have := List.all_eq_true.1 readsF t ht
    simpa using this
  have hget := trodAll_get (D := 8) (by
    rw [Try.params8]
    intro t ht
    simp only [List.mem_cons, List.not_mem_nil, or_false] at ht
    subst ht
    exact st_i) hA (fun n hn => by simpa using List.all_eq_true.1 hsz n hn)
  rw [Try.params8] at hget hval
  obtain ⟨hlen, hget⟩ := hget
  have hdl := trodAll_data hA
  rw [Try.params8] at hdl
  obtain ⟨v0, rfl⟩ := arr1 hlen
  obtain ⟨d0, rfl⟩ := lst1 hdl
  obtain ⟨x0, s0, r0⟩ := hget 0 3 v0 rfl rfl
  obtain ⟨a0, rfl, ho0⟩ := shp_int u_i s0
  have hr0 := rd_one r0 (ok_int u_i (hval 0 3 v0 rfl rfl))
  obtain rfl := hg
  exact law_post env_ok (big + 91) [i64 a0] Try.laidOut hread resTF rfl hW ⟨rfl, rfl, rfl⟩ rfl rfl (f8_ok (M := big + 90) (by omega) ho0) rfl (rds1 hr0)

theorem f_holds : Rows.TopoDisagreeSaid :=
  OpenClaim.holds_of_wide 8 Try.f8 rfl rfl rfl rfl rfl rfl rfl ⟨rfl, rfl, rfl, rfl, rfl⟩ rfl rfl rfl rfl rfl (by kernel_rfl) Try.func8 (by kernel_rfl)
    (of_decide_eq_true (by kernel_rfl)) (by unfold Func.isWrapper; rw [if_neg (by decide +kernel)]; exact ⟨rfl, rfl⟩)
    (fun os started H enc _ => f_lifted os started H enc)
#print axioms f_holds
end Go.Proofs.Ytckfafoabnfbpaa
