/- StableOne is true. -/
import Derived.Test.YtjlpnhpfbgbkhaaGreatX1
import Derived.Test.YtjlpnhpfbgbkhaaGreatX13
import Derived.Test.YtjlpnhpfbgbkhaaGreatRows
import Derived.SizedLaws
namespace Go.Proofs.YtjlpnhpfbgbkhaaGreat
open Go.ChangeShapes Go.WideShapes Go.ChangeAt Go.RowKit Go.aP
set_option linter.unusedVariables false
set_option linter.unusedSimpArgs false

theorem Tryz.own : ownKnob Tryz.prog.godebug = none := by kernel_rfl
theorem Tryz.laidOut : laidOutB Tryz.prog = true := by kernel_rfl
theorem Cj : ([22, 23] : List TypeId).all (fun t => Tryz.prog.readableRec t && decide (t < Tryz.prog.types.size)) = true := by kernel_rfl
theorem I5 : Tryz.f6.resultTypes = #[4] := by kernel_rfl

set_option maxRecDepth 100000 in
theorem f_lifted (os : Os) (started : os.Started) (H : Type) (enc : TypeId × Value → H) :
    ReturnsInHanded {} Tryz.checked os 6 .any (Rows.stableOneSpec.pre6 enc Tryz.prog Tryz.f6 Rows.stableOneRow.domain false) (Rows.stableOneSpec.post enc Tryz.prog Tryz.f6 false true false false) := by
  refine returnsInHanded_of_change_sized (C := Tryz.checked) Tryz.own started (by kernel_rfl) Tryz.func6
    (ChangeSpec.witness6 (enc := enc) (C := Tryz.checked) false ⟨#[], #[.slice none 0 0, .slice none 0 0], []⟩ 8 (by kernel_rfl) (by kernel_rfl) (by kernel_rfl) (by kernel_rfl)) ?_
  intro W base args ds gs before hval0 hW0 _ hsz0 _
  have hval : ∀ (j : Nat) t v, Tryz.f6.params[j]? = some t → args[j]? = some v → Value.okWide Tryz.prog W .any base t v := hval0
  have hsz : (DataW.weightsEach Tryz.prog (Tryz.f6.params.toList ++ Rows.stableOneSpec.plain.varTypes Tryz.prog) (ds ++ gs)).all (· ≤ reachBytes) = true := hsz0
  have hW : DataW.Whole enc Tryz.prog Tryz.f6.params.toList Rows.stableOneSpec.vars false W args.toList ds gs before := hW0
  clear hW0 hval0 hsz0
  obtain ⟨p, q, hA, hV, hpq, hfz, hnd⟩ := id hW
  obtain ⟨hg, _⟩ := trodVars_none hV
  rw [hg, show Rows.stableOneSpec.plain.varTypes Tryz.prog = [] from rfl, List.append_nil, List.append_nil] at hsz
  have hread : ∀ t ∈ Tryz.f6.params.toList, Tryz.prog.readableRec t = true ∧ t < Tryz.prog.types.size := by
    rw [Tryz.params6]
    intro t ht
    have := List.all_eq_true.1 Cj t ht
    simpa using this
  have hget := uq (D := 8) (by
    rw [Tryz.params6]
    intro t ht
    simp only [List.mem_cons, List.not_mem_nil, or_false] at ht
    rcases ht with rfl | rfl
    · exact Js
    · exact QA) hA (fun n hn => by simpa using List.all_eq_true.1 hsz n hn)
  rw [Tryz.params6] at hget hval
  obtain ⟨hlen, hget⟩ := hget
  have hdl := rG hA
  rw [Tryz.params6] at hdl
  obtain ⟨v0, v1, rfl⟩ := am1 hlen
  obtain ⟨d0, d1, rfl⟩ := anr hdl
  obtain ⟨x0, s0, r0⟩ := hget 0 22 v0 rfl rfl
  obtain ⟨a0, rfl, ho0, hl0⟩ := ES s0
  have hr0 := Ci r0 (ok_slice JW (hval 0 22 v0 rfl rfl))
  obtain ⟨x1, s1, r1⟩ := hget 1 23 v1 rfl rfl
  obtain ⟨a1, rfl, ho1, hl1⟩ := MH s1
  have hr1 := Ci r1 (ok_slice KP (hval 1 23 v1 rfl rfl))
  obtain rfl := hg
  exact Ew O7 (big + 331) [T.sl 6 (a0.map Cf.t), T.sl 1 (a1.map fun y => .sl 8 (y.map Ch.t))] Tryz.laidOut hread I5 rfl hW ⟨rfl, rfl, rfl⟩ rfl rfl (aof (M := big + 330) (by omega) ho0 ho1) rfl (anC hr0 hr1)

theorem f_holds : Rows.StableOneSaid :=
  OpenClaim.holds_of_wide 6 Tryz.f6 rfl rfl rfl rfl rfl rfl rfl ⟨rfl, rfl, rfl, rfl, rfl⟩ rfl rfl rfl rfl rfl (by kernel_rfl) Tryz.func6 (by kernel_rfl)
    (of_decide_eq_true (by kernel_rfl)) (by unfold Func.isWrapper; rw [if_neg (by decide +kernel)]; exact ⟨rfl, rfl⟩)
    (fun os started H enc _ => f_lifted os started H enc)
#print axioms f_holds
end Go.Proofs.YtjlpnhpfbgbkhaaGreat
