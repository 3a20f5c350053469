/- TopoChecked: what is checked holds. -/
import Derived.Test.YtckfafoabnfbpaaX1
import Derived.Test.YtckfafoabnfbpaaX3
import Derived.Test.YtckfafoabnfbpaaRows
import Derived.SizedLaws
namespace Go.Proofs.Ytckfafoabnfbpaa
open Go.ChangeShapes Go.WideShapes Go.ChangeAt Go.RowKit Go.Sim
set_option linter.unusedVariables false
set_option linter.unusedSimpArgs false

theorem Try.own : ownKnob Try.prog.godebug = none := by kernel_rfl
theorem Try.laidOut : laidOutB Try.prog = true := by kernel_rfl
theorem readsF : ([22] : List TypeId).all (fun t => Try.prog.readableRec t && decide (t < Try.prog.types.size)) = true := by kernel_rfl
theorem resTF : Try.f7.resultTypes = #[4] := by kernel_rfl

set_option maxRecDepth 100000 in
theorem f_lifted (os : Os) (started : os.Started) (H : Type) (enc : TypeId × Value → H) :
    ReturnsInHanded {} Try.checked os 7 .any (Rows.topoCheckedSpec.pre6 enc Try.prog Try.f7 Rows.topoCheckedRow.domain false) (Rows.topoCheckedSpec.post enc Try.prog Try.f7 false true false false) := by
  refine returnsInHanded_of_change_sized (C := Try.checked) Try.own started (by kernel_rfl) Try.func7
    (ChangeSpec.witness6 (enc := enc) (C := Try.checked) false ⟨#[], #[.slice none 0 0], []⟩ 8 (by kernel_rfl) (by kernel_rfl) (by kernel_rfl) (by kernel_rfl)) ?_
  intro W base args ds gs before hval0 hW0 _ hsz0 _
  have hval : ∀ (j : Nat) t v, Try.f7.params[j]? = some t → args[j]? = some v → Value.okWide Try.prog W .any base t v := hval0
  have hsz : (DataW.weightsEach Try.prog (Try.f7.params.toList ++ Rows.topoCheckedSpec.plain.varTypes Try.prog) (ds ++ gs)).all (· ≤ reachBytes) = true := hsz0
  have hW : DataW.Whole enc Try.prog Try.f7.params.toList Rows.topoCheckedSpec.vars false W args.toList ds gs before := hW0
  clear hW0 hval0 hsz0
  obtain ⟨p, q, hA, hV, hpq, hfz, hnd⟩ := id hW
  obtain ⟨hg, _⟩ := trodVars_none hV
  rw [hg, show Rows.topoCheckedSpec.plain.varTypes Try.prog = [] from rfl, List.append_nil, List.append_nil] at hsz
  have hread : ∀ t ∈ Try.f7.params.toList, Try.prog.readableRec t = true ∧ t < Try.prog.types.size := by
    rw [Try.params7]
    intro t ht
    have := List.all_eq_true.1 readsF t ht
    simpa using this
  have hget := trodAll_get (D := 8) (by
    rw [Try.params7]
    intro t ht
    simp only [List.mem_cons, List.not_mem_nil, or_false] at ht
    subst ht
    exact st_L_Cf) hA (fun n hn => by simpa using List.all_eq_true.1 hsz n hn)
  rw [Try.params7] at hget hval
  obtain ⟨hlen, hget⟩ := hget
  have hdl := trodAll_data hA
  rw [Try.params7] at hdl
  obtain ⟨v0, rfl⟩ := arr1 hlen
  obtain ⟨d0, rfl⟩ := lst1 hdl
  obtain ⟨x0, s0, r0⟩ := hget 0 22 v0 rfl rfl
  obtain ⟨a0, rfl, ho0, hl0⟩ := shp_L_Cf s0
  have hr0 := rd_one r0 (ok_slice u_L_Cf (hval 0 22 v0 rfl rfl))
  obtain rfl := hg
  exact law_post env_ok (big + 91) [T.sl 6 (a0.map Cf.t)] Try.laidOut hread resTF rfl hW ⟨rfl, rfl, rfl⟩ rfl rfl (f7_ok (M := big + 90) (by omega) ho0) rfl (rds1 hr0)

theorem f_holds : Rows.TopoCheckedSaid :=
  OpenClaim.holds_of_wide 7 Try.f7 rfl rfl rfl rfl rfl rfl rfl ⟨rfl, rfl, rfl, rfl, rfl⟩ rfl rfl rfl rfl rfl (by kernel_rfl) Try.func7 (by kernel_rfl)
    (of_decide_eq_true (by kernel_rfl)) (by unfold Func.isWrapper; rw [if_neg (by decide +kernel)]; exact ⟨rfl, rfl⟩)
    (fun os started H enc _ => f_lifted os started H enc)
#print axioms f_holds
end Go.Proofs.Ytckfafoabnfbpaa
