/- TopoIs: of any nodes and numbers the node of an AS, where a side leads, a ring, and what is wrong, are what the document says. -/
import Derived.Test.YtckfafoabnfbpaaX1
import Derived.Test.YtckfafoabnfbpaaX11
import Derived.Test.YtckfafoabnfbpaaRows
import Derived.SizedLaws
namespace Go.Proofs.Ytckfafoabnfbpaa
open Go.ChangeShapes Go.WideShapes Go.ChangeAt Go.RowKit Go.aO
set_option linter.unusedVariables false
set_option linter.unusedSimpArgs false

theorem Try.own : ownKnob Try.prog.godebug = none := by kernel_rfl
theorem Try.laidOut : laidOutB Try.prog = true := by kernel_rfl
theorem ac8 : ([22, 3, 3, 3] : List TypeId).all (fun t => Try.prog.readableRec t && decide (t < Try.prog.types.size)) = true := by kernel_rfl
theorem agz : Try.f3.resultTypes = #[4] := by kernel_rfl

set_option maxRecDepth 100000 in
theorem f_lifted (os : Os) (started : os.Started) (H : Type) (enc : TypeId × Value → H) :
    ReturnsInHanded {} Try.checked os 3 .any (Rows.topoIsSpec.pre6 enc Try.prog Try.f3 Rows.topoIsRow.domain false) (Rows.topoIsSpec.post enc Try.prog Try.f3 false true false false) := by
  refine returnsInHanded_of_change_sized (C := Try.checked) Try.own started (by kernel_rfl) Try.func3
    (ChangeSpec.witness6 (enc := enc) (C := Try.checked) false ⟨#[], #[.slice none 0 0, .int .i64 0, .int .i64 0, .int .i64 0], []⟩ 8 (by kernel_rfl) (by kernel_rfl) (by kernel_rfl) (by kernel_rfl)) ?_
  intro W base args ds gs before hval0 hW0 _ hsz0 _
  have hval : ∀ (j : Nat) t v, Try.f3.params[j]? = some t → args[j]? = some v → Value.okWide Try.prog W .any base t v := hval0
  have hsz : (DataW.weightsEach Try.prog (Try.f3.params.toList ++ Rows.topoIsSpec.plain.varTypes Try.prog) (ds ++ gs)).all (· ≤ reachBytes) = true := hsz0
  have hW : DataW.Whole enc Try.prog Try.f3.params.toList Rows.topoIsSpec.vars false W args.toList ds gs before := hW0
  clear hW0 hval0 hsz0
  obtain ⟨p, q, hA, hV, hpq, hfz, hnd⟩ := id hW
  obtain ⟨hg, _⟩ := trodVars_none hV
  rw [hg, show Rows.topoIsSpec.plain.varTypes Try.prog = [] from rfl, List.append_nil, List.append_nil] at hsz
  have hread : ∀ t ∈ Try.f3.params.toList, Try.prog.readableRec t = true ∧ t < Try.prog.types.size := by
    rw [Try.params3]
    intro t ht
    have := List.all_eq_true.1 ac8 t ht
    simpa using this
  have hget := Cb (D := 8) (by
    rw [Try.params3]
    intro t ht
    simp only [List.mem_cons, List.not_mem_nil, or_false] at ht
    rcases ht with rfl | rfl | rfl | rfl
    · exact aaq
    · exact abI
    · exact abI
    · exact abI) hA (fun n hn => by simpa using List.all_eq_true.1 hsz n hn)
  rw [Try.params3] at hget hval
  obtain ⟨hlen, hget⟩ := hget
  have hdl := Ai hA
  rw [Try.params3] at hdl
  obtain ⟨v0, v1, v2, v3, rfl⟩ := ahj hlen
  obtain ⟨d0, d1, d2, d3, rfl⟩ := ahy hdl
  obtain ⟨x0, s0, r0⟩ := hget 0 22 v0 rfl rfl
  obtain ⟨a0, rfl, ho0, hl0⟩ := Vt s0
  have hr0 := Ij r0 (ok_slice UJ (hval 0 22 v0 rfl rfl))
  obtain ⟨x1, s1, r1⟩ := hget 1 3 v1 rfl rfl
  obtain ⟨a1, rfl, ho1⟩ := jd u_i s1
  have hr1 := Ij r1 (ok_int u_i (hval 1 3 v1 rfl rfl))
  obtain ⟨x2, s2, r2⟩ := hget 2 3 v2 rfl rfl
  obtain ⟨a2, rfl, ho2⟩ := jd u_i s2
  have hr2 := Ij r2 (ok_int u_i (hval 2 3 v2 rfl rfl))
  obtain ⟨x3, s3, r3⟩ := hget 3 3 v3 rfl rfl
  obtain ⟨a3, rfl, ho3⟩ := jd u_i s3
  have hr3 := Ij r3 (ok_int u_i (hval 3 3 v3 rfl rfl))
  obtain rfl := hg
  exact U8 ab5 (big + 131) [T.sl 6 (a0.map Cf.t), i64 a1, i64 a2, i64 a3] Try.laidOut hread agz rfl hW ⟨rfl, rfl, rfl⟩ rfl rfl (aeT (M := big + 130) (by omega) ho0 ho1 ho2 ho3) rfl (ahF hr0 hr1 hr2 hr3)

theorem f_holds : Rows.TopoIsSaid :=
  OpenClaim.holds_of_wide 3 Try.f3 rfl rfl rfl rfl rfl rfl rfl ⟨rfl, rfl, rfl, rfl, rfl⟩ rfl rfl rfl rfl rfl (by kernel_rfl) Try.func3 (by kernel_rfl)
    (of_decide_eq_true (by kernel_rfl)) (by unfold Func.isWrapper; rw [if_neg (by decide +kernel)]; exact ⟨rfl, rfl⟩)
    (fun os started H enc _ => f_lifted os started H enc)
#print axioms f_holds
end Go.Proofs.Ytckfafoabnfbpaa
