/- DecideRows: choices rise. -/
import Derived.Test.YtnhmdimpgcphdaaGreatV1
import Derived.Test.YtnhmdimpgcphdaaGreatV3
import Derived.Test.YtnhmdimpgcphdaaGreatRows
import Derived.SizedLaws
namespace Go.Proofs.YtnhmdimpgcphdaaGreat
open Go.ChangeShapes Go.WideShapes Go.ChangeAt Go.RowKit Go.Sim
set_option linter.unusedVariables false
set_option linter.unusedSimpArgs false

theorem Tryz.own : ownKnob Tryz.prog.godebug = none := by kernel_rfl
theorem Tryz.laidOut : laidOutB Tryz.prog = true := by kernel_rfl
theorem readsF : ([25, 26] : List TypeId).all (fun t => Tryz.prog.readableRec t && decide (t < Tryz.prog.types.size)) = true := by kernel_rfl
theorem resTF : Tryz.f4.resultTypes = #[4] := by kernel_rfl

set_option maxRecDepth 100000 in
theorem f_lifted (os : Os) (started : os.Started) (H : Type) (enc : TypeId × Value → H) :
    ReturnsInHanded {} Tryz.checked os 4 .any (Rows.decideRowsSpec.pre6 enc Tryz.prog Tryz.f4 Rows.decideRowsRow.domain false) (Rows.decideRowsSpec.post enc Tryz.prog Tryz.f4 false true false false) := by
  refine returnsInHanded_of_change_sized (C := Tryz.checked) Tryz.own started (by kernel_rfl) Tryz.func4
    (ChangeSpec.witness6 (enc := enc) (C := Tryz.checked) false ⟨#[], #[.agg #[.int .i64 0, .int .i64 0, .int .i64 0, .int .i64 0, .slice none 0 0, .slice none 0 0], .slice none 0 0], []⟩ 8 (by kernel_rfl) (by kernel_rfl) (by kernel_rfl) (by kernel_rfl)) ?_
  intro W base args ds gs before hval0 hW0 _ hsz0 _
  have hval : ∀ (j : Nat) t v, Tryz.f4.params[j]? = some t → args[j]? = some v → Value.okWide Tryz.prog W .any base t v := hval0
  have hsz : (DataW.weightsEach Tryz.prog (Tryz.f4.params.toList ++ Rows.decideRowsSpec.plain.varTypes Tryz.prog) (ds ++ gs)).all (· ≤ reachBytes) = true := hsz0
  have hW : DataW.Whole enc Tryz.prog Tryz.f4.params.toList Rows.decideRowsSpec.vars false W args.toList ds gs before := hW0
  clear hW0 hval0 hsz0
  obtain ⟨p, q, hA, hV, hpq, hfz, hnd⟩ := id hW
  obtain ⟨hg, _⟩ := trodVars_none hV
  rw [hg, show Rows.decideRowsSpec.plain.varTypes Tryz.prog = [] from rfl, List.append_nil, List.append_nil] at hsz
  have hread : ∀ t ∈ Tryz.f4.params.toList, Tryz.prog.readableRec t = true ∧ t < Tryz.prog.types.size := by
    rw [Tryz.params4]
    intro t ht
    have := List.all_eq_true.1 readsF t ht
    simpa using this
  have hget := trodAll_get (D := 8) (by
    rw [Tryz.params4]
    intro t ht
    simp only [List.mem_cons, List.not_mem_nil, or_false] at ht
    rcases ht with rfl | rfl
    · exact st_Cf
    · exact st_L_L_En) hA (fun n hn => by simpa using List.all_eq_true.1 hsz n hn)
  rw [Tryz.params4] at hget hval
  obtain ⟨hlen, hget⟩ := hget
  have hdl := trodAll_data hA
  rw [Tryz.params4] at hdl
  obtain ⟨v0, v1, rfl⟩ := arr2 hlen
  obtain ⟨d0, d1, rfl⟩ := lst2 hdl
  obtain ⟨x0, s0, r0⟩ := hget 0 25 v0 rfl rfl
  obtain ⟨a0, rfl, ho0⟩ := shp_Cf s0
  obtain ⟨cs0, rfl⟩ := ok_struct u_Cf (hval 0 25 v0 rfl rfl)
  have hr0 := rd_agg r0
  obtain ⟨x1, s1, r1⟩ := hget 1 26 v1 rfl rfl
  obtain ⟨a1, rfl, ho1, hl1⟩ := shp_L_L_En s1
  have hr1 := rd_one r1 (ok_slice u_L_L_En (hval 1 26 v1 rfl rfl))
  obtain rfl := hg
  exact law_post env_ok (big + 91) [a0.t, T.sl 1 (a1.map fun y => .sl 6 (y.map En.t))] Tryz.laidOut hread resTF rfl hW ⟨rfl, rfl, rfl⟩ rfl rfl (f4_ok (M := big + 90) (Nat.le_refl _) ho0 ho1) rfl (rds2 hr0 hr1)

theorem f_holds : Rows.DecideRowsSaid :=
  OpenClaim.holds_of_wide 4 Tryz.f4 rfl rfl rfl rfl rfl rfl rfl ⟨rfl, rfl, rfl, rfl, rfl⟩ rfl rfl rfl rfl rfl (by kernel_rfl) Tryz.func4 (by kernel_rfl)
    (of_decide_eq_true (by kernel_rfl)) (by unfold Func.isWrapper; rw [if_neg (by decide +kernel)]; exact ⟨rfl, rfl⟩)
    (fun os started H enc _ => f_lifted os started H enc)
#print axioms f_holds
end Go.Proofs.YtnhmdimpgcphdaaGreat
