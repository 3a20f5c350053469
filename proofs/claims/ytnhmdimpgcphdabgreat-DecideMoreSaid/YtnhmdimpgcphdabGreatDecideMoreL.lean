/- DecideMore: more that is told makes nothing worse. -/
import Derived.Test.YtnhmdimpgcphdabGreatX1
import Derived.Test.YtnhmdimpgcphdabGreatX3
import Derived.Test.YtnhmdimpgcphdabGreatRows
import Derived.SizedLaws
namespace Go.Proofs.YtnhmdimpgcphdabGreat
open Go.ChangeShapes Go.WideShapes Go.ChangeAt Go.RowKit Go.Sim
set_option linter.unusedVariables false
set_option linter.unusedSimpArgs false

theorem Tryz.own : ownKnob Tryz.prog.godebug = none := by kernel_rfl
theorem Tryz.laidOut : laidOutB Tryz.prog = true := by kernel_rfl
theorem readsF : ([25, 26, 3, 28, 31] : List TypeId).all (fun t => Tryz.prog.readableRec t && decide (t < Tryz.prog.types.size)) = true := by kernel_rfl
theorem resTF : Tryz.f3.resultTypes = #[4] := by kernel_rfl

set_option maxRecDepth 100000 in
theorem f_lifted (os : Os) (started : os.Started) (H : Type) (enc : TypeId × Value → H) :
    ReturnsInHanded {} Tryz.checked os 3 .any (Rows.decideMoreSpec.pre6 enc Tryz.prog Tryz.f3 Rows.decideMoreRow.domain false) (Rows.decideMoreSpec.post enc Tryz.prog Tryz.f3 false true false false) := by
  refine returnsInHanded_of_change_sized (C := Tryz.checked) Tryz.own started (by kernel_rfl) Tryz.func3
    (ChangeSpec.witness6 (enc := enc) (C := Tryz.checked) false ⟨#[], #[.agg #[.int .i64 0, .int .i64 0, .int .i64 0, .int .i64 0, .slice none 0 0, .slice none 0 0], .slice none 0 0, .int .i64 0, .agg #[.int .i64 0, .int .i64 0], .agg #[.int .i64 0, .slice none 0 0, .int .i64 0, .int .i64 0]], []⟩ 8 (by kernel_rfl) (by kernel_rfl) (by kernel_rfl) (by kernel_rfl)) ?_
  intro W base args ds gs before hval0 hW0 _ hsz0 _
  have hval : ∀ (j : Nat) t v, Tryz.f3.params[j]? = some t → args[j]? = some v → Value.okWide Tryz.prog W .any base t v := hval0
  have hsz : (DataW.weightsEach Tryz.prog (Tryz.f3.params.toList ++ Rows.decideMoreSpec.plain.varTypes Tryz.prog) (ds ++ gs)).all (· ≤ reachBytes) = true := hsz0
  have hW : DataW.Whole enc Tryz.prog Tryz.f3.params.toList Rows.decideMoreSpec.vars false W args.toList ds gs before := hW0
  clear hW0 hval0 hsz0
  obtain ⟨p, q, hA, hV, hpq, hfz, hnd⟩ := id hW
  obtain ⟨hg, _⟩ := trodVars_none hV
  rw [hg, show Rows.decideMoreSpec.plain.varTypes Tryz.prog = [] from rfl, List.append_nil, List.append_nil] at hsz
  have hread : ∀ t ∈ Tryz.f3.params.toList, Tryz.prog.readableRec t = true ∧ t < Tryz.prog.types.size := by
    rw [Tryz.params3]
    intro t ht
    have := List.all_eq_true.1 readsF t ht
    simpa using this
  have hget := trodAll_get (D := 8) (by
    rw [Tryz.params3]
    intro t ht
    simp only [List.mem_cons, List.not_mem_nil, or_false] at ht
    rcases ht with rfl | rfl | rfl | rfl | rfl
    · exact st_Cf
    · exact st_L_L_En
    · exact st_i
    · exact st_Px
    · exact st_Pa) hA (fun n hn => by simpa using List.all_eq_true.1 hsz n hn)
  rw [Tryz.params3] at hget hval
  obtain ⟨hlen, hget⟩ := hget
  have hdl := trodAll_data hA
  rw [Tryz.params3] at hdl
  obtain ⟨v0, v1, v2, v3, v4, rfl⟩ := arr5 hlen
  obtain ⟨d0, d1, d2, d3, d4, rfl⟩ := lst5 hdl
  obtain ⟨x0, s0, r0⟩ := hget 0 25 v0 rfl rfl
  obtain ⟨a0, rfl, ho0⟩ := shp_Cf s0
  obtain ⟨cs0, rfl⟩ := ok_struct u_Cf (hval 0 25 v0 rfl rfl)
  have hr0 := rd_agg r0
  obtain ⟨x1, s1, r1⟩ := hget 1 26 v1 rfl rfl
  obtain ⟨a1, rfl, ho1, hl1⟩ := shp_L_L_En s1
  have hr1 := rd_one r1 (ok_slice u_L_L_En (hval 1 26 v1 rfl rfl))
  obtain ⟨x2, s2, r2⟩ := hget 2 3 v2 rfl rfl
  obtain ⟨a2, rfl, ho2⟩ := shp_int u_i s2
  have hr2 := rd_one r2 (ok_int u_i (hval 2 3 v2 rfl rfl))
  obtain ⟨x3, s3, r3⟩ := hget 3 28 v3 rfl rfl
  obtain ⟨a3, rfl, ho3⟩ := shp_Px s3
  obtain ⟨cs3, rfl⟩ := ok_struct u_Px (hval 3 28 v3 rfl rfl)
  have hr3 := rd_agg r3
  obtain ⟨x4, s4, r4⟩ := hget 4 31 v4 rfl rfl
  obtain ⟨a4, rfl, ho4⟩ := shp_Pa s4
  obtain ⟨cs4, rfl⟩ := ok_struct u_Pa (hval 4 31 v4 rfl rfl)
  have hr4 := rd_agg r4
  obtain rfl := hg
  exact law_post env_ok (big + 92) [a0.t, T.sl 1 (a1.map fun y => .sl 6 (y.map En.t)), i64 a2, a3.t, a4.t] Tryz.laidOut hread resTF rfl hW ⟨rfl, rfl, rfl⟩ rfl rfl (f3_ok (M := big + 91) (Nat.le_refl _) ho0 ho1 ho2 ho3 ho4) rfl (rds5 hr0 hr1 hr2 hr3 hr4)

theorem f_holds : Rows.DecideMoreSaid :=
  OpenClaim.holds_of_wide 3 Tryz.f3 rfl rfl rfl rfl rfl rfl rfl ⟨rfl, rfl, rfl, rfl, rfl⟩ rfl rfl rfl rfl rfl (by kernel_rfl) Tryz.func3 (by kernel_rfl)
    (of_decide_eq_true (by kernel_rfl)) (by unfold Func.isWrapper; rw [if_neg (by decide +kernel)]; exact ⟨rfl, rfl⟩)
    (fun os started H enc _ => f_lifted os started H enc)
#print axioms f_holds
end Go.Proofs.YtnhmdimpgcphdabGreat
