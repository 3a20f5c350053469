/- RibinIs: whatever the two tables, the news, the network and the number, the law comes to 'true', and its arguments read as they did. -/
import Derived.Test.YtmidmdabmalhgaaM1
import Derived.Test.YtmidmdabmalhgaaM2
import Derived.Test.YtmidmdabmalhgaaRows
import Derived.SizedLaws
namespace Go.Proofs.Ytmidmdabmalhgaa
open Go.ChangeShapes Go.WideShapes Go.ChangeAt Go.RowKit Go.Sim
set_option linter.unusedVariables false
set_option linter.unusedSimpArgs false

theorem Try.own : ownKnob Try.prog.godebug = none := by kernel_rfl
theorem Try.laidOut : laidOutB Try.prog = true := by kernel_rfl
theorem readsF : ([40, 40, 45, 35, 3] : List TypeId).all (fun t => Try.prog.readableRec t && decide (t < Try.prog.types.size)) = true := by kernel_rfl
theorem resTF : Try.f5.resultTypes = #[4] := by kernel_rfl

set_option maxRecDepth 100000 in
theorem f_lifted (os : Os) (started : os.Started) (H : Type) (enc : TypeId × Value → H) :
    ReturnsInHanded {} Try.checked os 5 .any (Rows.ribinIsSpec.pre6 enc Try.prog Try.f5 Rows.ribinIsRow.domain false) (Rows.ribinIsSpec.post enc Try.prog Try.f5 false true false false) := by
  refine returnsInHanded_of_change_sized (C := Try.checked) Try.own started (by kernel_rfl) Try.func5
    (ChangeSpec.witness6 (enc := enc) (C := Try.checked) false ⟨#[], #[.slice none 0 0, .slice none 0 0, .agg #[.slice none 0 0, .int .i64 0, .slice none 0 0, .int .i64 0, .int .i64 0, .slice none 0 0], .agg #[.int .i64 0, .int .i64 0], .int .i64 0], []⟩ 8 (by kernel_rfl) (by kernel_rfl) (by kernel_rfl) (by kernel_rfl)) ?_
  intro W base args ds gs before hval0 hW0 _ hsz0 _
  have hval : ∀ (j : Nat) t v, Try.f5.params[j]? = some t → args[j]? = some v → Value.okWide Try.prog W .any base t v := hval0
  have hsz : (DataW.weightsEach Try.prog (Try.f5.params.toList ++ Rows.ribinIsSpec.plain.varTypes Try.prog) (ds ++ gs)).all (· ≤ reachBytes) = true := hsz0
  have hW : DataW.Whole enc Try.prog Try.f5.params.toList Rows.ribinIsSpec.vars false W args.toList ds gs before := hW0
  clear hW0 hval0 hsz0
  obtain ⟨p, q, hA, hV, hpq, hfz, hnd⟩ := id hW
  obtain ⟨hg, _⟩ := trodVars_none hV
  rw [hg, show Rows.ribinIsSpec.plain.varTypes Try.prog = [] from rfl, List.append_nil, List.append_nil] at hsz
  have hread : ∀ t ∈ Try.f5.params.toList, Try.prog.readableRec t = true ∧ t < Try.prog.types.size := by
    rw [Try.params5]
    intro t ht
    have := List.all_eq_true.1 readsF t ht
    simpa using this
  have hget := trodAll_get (D := 8) (by
    rw [Try.params5]
    intro t ht
    simp only [List.mem_cons, List.not_mem_nil, or_false] at ht
    rcases ht with rfl | rfl | rfl | rfl | rfl
    · exact st40
    · exact st40
    · exact st45
    · exact st35
    · exact st3) hA (fun n hn => by simpa using List.all_eq_true.1 hsz n hn)
  rw [Try.params5] at hget hval
  obtain ⟨hlen, hget⟩ := hget
  have hdl := trodAll_data hA
  rw [Try.params5] at hdl
  obtain ⟨v0, v1, v2, v3, v4, rfl⟩ := arr5 hlen
  obtain ⟨d0, d1, d2, d3, d4, rfl⟩ := lst5 hdl
  have h6 : reachBytes ≤ big := by decide
  obtain ⟨x0, s0, r0⟩ := hget 0 40 v0 rfl rfl
  obtain ⟨a0, rfl, hl0, ho0⟩ := shp_table s0
  have hr0 := rd_one r0 (ok_slice u40 (hval 0 40 v0 rfl rfl))
  have hb0 : a0.length ≤ big := by omega
  obtain ⟨x1, s1, r1⟩ := hget 1 40 v1 rfl rfl
  obtain ⟨a1, rfl, hl1, ho1⟩ := shp_table s1
  have hr1 := rd_one r1 (ok_slice u40 (hval 1 40 v1 rfl rfl))
  have hb1 : a1.length ≤ big := by omega
  obtain ⟨x2, s2, r2⟩ := hget 2 45 v2 rfl rfl
  obtain ⟨a2, hm2, ho2⟩ := shp_news s2
  obtain ⟨cs2, rfl⟩ := ok_struct u45 (hval 2 45 v2 rfl rfl)
  have hr2 := rd_agg r2
  rw [hm2] at hr2
  obtain ⟨x3, s3, r3⟩ := hget 3 35 v3 rfl rfl
  obtain ⟨a3, hm3, ho3⟩ := shp_px s3
  obtain ⟨cs3, rfl⟩ := ok_struct u35 (hval 3 35 v3 rfl rfl)
  have hr3 := rd_agg r3
  rw [hm3] at hr3
  obtain ⟨x4, s4, r4⟩ := hget 4 3 v4 rfl rfl
  obtain ⟨a4, rfl, ho4⟩ := shp_int u3 s4
  have hr4 := rd_one r4 (ok_int u3 (hval 4 3 v4 rfl rfl))
  obtain rfl := hg
  exact law_post (big + 91) [.sl 6 (a0.map En.t), .sl 6 (a1.map En.t), a2.t, a3.t, i64 a4] Try.laidOut hread resTF rfl hW ⟨rfl, rfl, rfl⟩ rfl rfl (f5_ok (by omega) hb0 hb1 ho0 ho1 ho2 ho3 ho4) rfl (rds5 hr0 hr1 hr2 hr3 hr4)

theorem f_holds : Rows.RibinIsSaid :=
  OpenClaim.holds_of_wide 5 Try.f5 rfl rfl rfl rfl rfl rfl rfl ⟨rfl, rfl, rfl, rfl, rfl⟩ rfl rfl rfl rfl rfl (by kernel_rfl) Try.func5 (by kernel_rfl)
    (of_decide_eq_true (by kernel_rfl)) (by unfold Func.isWrapper; rw [if_neg (by decide +kernel)]; exact ⟨rfl, rfl⟩)
    (fun os started H enc _ => f_lifted os started H enc)
#print axioms f_holds
end Go.Proofs.Ytmidmdabmalhgaa
