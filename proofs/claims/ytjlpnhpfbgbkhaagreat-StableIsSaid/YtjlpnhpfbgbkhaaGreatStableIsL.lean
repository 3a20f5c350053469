/- StableIs is true. -/
import Derived.Test.YtjlpnhpfbgbkhaaGreatX1
import Derived.Test.YtjlpnhpfbgbkhaaGreatX13
import Derived.Test.YtjlpnhpfbgbkhaaGreatRows
import Derived.SizedLaws
namespace Go.Proofs.YtjlpnhpfbgbkhaaGreat
open Go.ChangeShapes Go.WideShapes Go.ChangeAt Go.RowKit Go.aT
set_option linter.unusedVariables false
set_option linter.unusedSimpArgs false

theorem Tryz.own : ownKnob Tryz.prog.godebug = none := by kernel_rfl
theorem Tryz.laidOut : laidOutB Tryz.prog = true := by kernel_rfl
theorem amU : ([22, 23, 3, 25] : List TypeId).all (fun t => Tryz.prog.readableRec t && decide (t < Tryz.prog.types.size)) = true := by kernel_rfl
theorem apq : Tryz.f3.resultTypes = #[4] := by kernel_rfl

set_option maxRecDepth 100000 in
theorem f_lifted (os : Os) (started : os.Started) (H : Type) (enc : TypeId × Value → H) :
    ReturnsInHanded {} Tryz.checked os 3 .any (Rows.stableIsSpec.pre6 enc Tryz.prog Tryz.f3 Rows.stableIsRow.domain false) (Rows.stableIsSpec.post enc Tryz.prog Tryz.f3 false true false false) := by
  refine returnsInHanded_of_change_sized (C := Tryz.checked) Tryz.own started (by kernel_rfl) Tryz.func3
    (ChangeSpec.witness6 (enc := enc) (C := Tryz.checked) false ⟨#[], #[.slice none 0 0, .slice none 0 0, .int .i64 0, .agg #[.int .i64 0, .int .i64 0]], []⟩ 8 (by kernel_rfl) (by kernel_rfl) (by kernel_rfl) (by kernel_rfl)) ?_
  intro W base args ds gs before hval0 hW0 _ hsz0 _
  have hval : ∀ (j : Nat) t v, Tryz.f3.params[j]? = some t → args[j]? = some v → Value.okWide Tryz.prog W .any base t v := hval0
  have hsz : (DataW.weightsEach Tryz.prog (Tryz.f3.params.toList ++ Rows.stableIsSpec.plain.varTypes Tryz.prog) (ds ++ gs)).all (· ≤ reachBytes) = true := hsz0
  have hW : DataW.Whole enc Tryz.prog Tryz.f3.params.toList Rows.stableIsSpec.vars false W args.toList ds gs before := hW0
  clear hW0 hval0 hsz0
  obtain ⟨p, q, hA, hV, hpq, hfz, hnd⟩ := id hW
  obtain ⟨hg, _⟩ := trodVars_none hV
  rw [hg, show Rows.stableIsSpec.plain.varTypes Tryz.prog = [] from rfl, List.append_nil, List.append_nil] at hsz
  have hread : ∀ t ∈ Tryz.f3.params.toList, Tryz.prog.readableRec t = true ∧ t < Tryz.prog.types.size := by
    rw [Tryz.params3]
    intro t ht
    have := List.all_eq_true.1 amU t ht
    simpa using this
  have hget := Ik (D := 8) (by
    rw [Tryz.params3]
    intro t ht
    simp only [List.mem_cons, List.not_mem_nil, or_false] at ht
    rcases ht with rfl | rfl | rfl | rfl
    · exact ajt
    · exact acQ
    · exact atp
    · exact apv) hA (fun n hn => by simpa using List.all_eq_true.1 hsz n hn)
  rw [Tryz.params3] at hget hval
  obtain ⟨hlen, hget⟩ := hget
  have hdl := FC hA
  rw [Tryz.params3] at hdl
  obtain ⟨v0, v1, v2, v3, rfl⟩ := aqx hlen
  obtain ⟨d0, d1, d2, d3, rfl⟩ := aq7 hdl
  obtain ⟨x0, s0, r0⟩ := hget 0 22 v0 rfl rfl
  obtain ⟨a0, rfl, ho0, hl0⟩ := agp s0
  have hr0 := XQ r0 (ok_slice afa (hval 0 22 v0 rfl rfl))
  obtain ⟨x1, s1, r1⟩ := hget 1 23 v1 rfl rfl
  obtain ⟨a1, rfl, ho1, hl1⟩ := Zv s1
  have hr1 := XQ r1 (ok_slice Vy (hval 1 23 v1 rfl rfl))
  obtain ⟨x2, s2, r2⟩ := hget 2 3 v2 rfl rfl
  obtain ⟨a2, rfl, ho2⟩ := jP u_i s2
  have hr2 := XQ r2 (ok_int u_i (hval 2 3 v2 rfl rfl))
  obtain ⟨x3, s3, r3⟩ := hget 3 25 v3 rfl rfl
  obtain ⟨a3, rfl, ho3⟩ := Qb s3
  obtain ⟨cs3, rfl⟩ := ab1 aoI (hval 3 25 v3 rfl rfl)
  have hr3 := amT r3
  obtain rfl := hg
  exact afG alG (big + 341) [T.sl 6 (a0.map Cf.t), T.sl 1 (a1.map fun y => .sl 8 (y.map Ch.t)), i64 a2, a3.t] Tryz.laidOut hread apq rfl hW ⟨rfl, rfl, rfl⟩ rfl rfl (aoS (M := big + 340) (by omega) ho0 ho1 ho2 ho3) rfl (as4 hr0 hr1 hr2 hr3)

theorem f_holds : Rows.StableIsSaid :=
  OpenClaim.holds_of_wide 3 Tryz.f3 rfl rfl rfl rfl rfl rfl rfl ⟨rfl, rfl, rfl, rfl, rfl⟩ rfl rfl rfl rfl rfl (by kernel_rfl) Tryz.func3 (by kernel_rfl)
    (of_decide_eq_true (by kernel_rfl)) (by unfold Func.isWrapper; rw [if_neg (by decide +kernel)]; exact ⟨rfl, rfl⟩)
    (fun os started H enc _ => f_lifted os started H enc)
#print axioms f_holds
end Go.Proofs.YtjlpnhpfbgbkhaaGreat
