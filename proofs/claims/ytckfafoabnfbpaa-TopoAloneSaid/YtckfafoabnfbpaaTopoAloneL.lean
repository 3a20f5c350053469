/- TopoAlone: who has no neighbour disturbs nobody. -/
import Derived.Test.YtckfafoabnfbpaaX1
import Derived.Test.YtckfafoabnfbpaaX4
import Derived.Test.YtckfafoabnfbpaaRows
import Derived.SizedLaws
namespace Go.Proofs.Ytckfafoabnfbpaa
open Go.ChangeShapes Go.WideShapes Go.ChangeAt Go.RowKit Go.Sim
set_option linter.unusedVariables false
set_option linter.unusedSimpArgs false

theorem Try.own : ownKnob Try.prog.godebug = none := by kernel_rfl
theorem Try.laidOut : laidOutB Try.prog = true := by kernel_rfl
theorem readsF : ([3, 35] : List TypeId).all (fun t => Try.prog.readableRec t && decide (t < Try.prog.types.size)) = true := by kernel_rfl
theorem resTF : Try.f9.resultTypes = #[4] := by kernel_rfl

set_option maxRecDepth 100000 in
theorem f_lifted (os : Os) (started : os.Started) (H : Type) (enc : TypeId × Value → H) :
    ReturnsInHanded {} Try.checked os 9 .any (Rows.topoAloneSpec.pre6 enc Try.prog Try.f9 Rows.topoAloneRow.domain false) (Rows.topoAloneSpec.post enc Try.prog Try.f9 false true false false) := by
  refine returnsInHanded_of_change_sized (C := Try.checked) Try.own started (by kernel_rfl) Try.func9
    (ChangeSpec.witness6 (enc := enc) (C := Try.checked) false ⟨#[], #[.int .i64 0, .slice none 0 0], []⟩ 8 (by kernel_rfl) (by kernel_rfl) (by kernel_rfl) (by kernel_rfl)) ?_
  intro W base args ds gs before hval0 hW0 _ hsz0 _
  have hval : ∀ (j : Nat) t v, Try.f9.params[j]? = some t → args[j]? = some v → Value.okWide Try.prog W .any base t v := hval0
  have hsz : (DataW.weightsEach Try.prog (Try.f9.params.toList ++ Rows.topoAloneSpec.plain.varTypes Try.prog) (ds ++ gs)).all (· ≤ reachBytes) = true := hsz0
  have hW : DataW.Whole enc Try.prog Try.f9.params.toList Rows.topoAloneSpec.vars false W args.toList ds gs before := hW0
  clear hW0 hval0 hsz0
  obtain ⟨p, q, hA, hV, hpq, hfz, hnd⟩ := id hW
  obtain ⟨hg, _⟩ := trodVars_none hV
  rw [hg, show Rows.topoAloneSpec.plain.varTypes Try.prog = [] from rfl, List.append_nil, List.append_nil] at hsz
  have hread : ∀ t ∈ Try.f9.params.toList, Try.prog.readableRec t = true ∧ t < Try.prog.types.size := by
    rw [Try.params9]
    intro t ht
    have := List.all_eq_true.1 readsF t ht
    simpa using this
  have hget := trodAll_get (D := 8) (by
    rw [Try.params9]
    intro t ht
    simp only [List.mem_cons, List.not_mem_nil, or_false] at ht
    rcases ht with rfl | rfl
    · exact st_i
    · exact st_L_Lk) hA (fun n hn => by simpa using List.all_eq_true.1 hsz n hn)
  rw [Try.params9] at hget hval
  obtain ⟨hlen, hget⟩ := hget
  have hdl := trodAll_data hA
  rw [Try.params9] at hdl
  obtain ⟨v0, v1, rfl⟩ := arr2 hlen
  obtain ⟨d0, d1, rfl⟩ := lst2 hdl
  obtain ⟨x0, s0, r0⟩ := hget 0 3 v0 rfl rfl
  obtain ⟨a0, rfl, ho0⟩ := shp_int u_i s0
  have hr0 := rd_one r0 (ok_int u_i (hval 0 3 v0 rfl rfl))
  obtain ⟨x1, s1, r1⟩ := hget 1 35 v1 rfl rfl
  obtain ⟨a1, rfl, ho1, hl1⟩ := shp_L_Lk s1
  have hr1 := rd_one r1 (ok_slice u_L_Lk (hval 1 35 v1 rfl rfl))
  obtain rfl := hg
  exact law_post env_ok (big + 91) [i64 a0, T.sl 3 (a1.map Lk.t)] Try.laidOut hread resTF rfl hW ⟨rfl, rfl, rfl⟩ rfl rfl (f9_ok (M := big + 90) (by omega) ho0 ho1) rfl (rds2 hr0 hr1)

theorem f_holds : Rows.TopoAloneSaid :=
  OpenClaim.holds_of_wide 9 Try.f9 rfl rfl rfl rfl rfl rfl rfl ⟨rfl, rfl, rfl, rfl, rfl⟩ rfl rfl rfl rfl rfl (by kernel_rfl) Try.func9 (by kernel_rfl)
    (of_decide_eq_true (by kernel_rfl)) (by unfold Func.isWrapper; rw [if_neg (by decide +kernel)]; exact ⟨rfl, rfl⟩)
    (fun os started H enc _ => f_lifted os started H enc)
#print axioms f_holds
end Go.Proofs.Ytckfafoabnfbpaa
