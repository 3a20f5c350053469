/- Code, functions, calls. -/
import Derived.Test.YtmidmdabmalhgaaD23
import Derived.LoopN
import Derived.Scope
namespace Go.Sim
open Go.RowKit
set_option linter.unusedVariables false
set_option linter.unusedSimpArgs false
set_option linter.unusedSectionVars false

section
variable {E : Env} {rc : Caller} {f : FuncId} {fn : Func} {n base : Nat}

theorem nat_k {β γ : Type} {g : Res β → Res γ} (e : Ex) (a : Res β) (b : Nat → Res β) (c : Res β) : g (e.k a b c) = e.k (g a) (fun i => g (b i)) (g c) := by cases e <;> rfl

theorem nat_codeK (hrc : rc.Nat) : ∀ (c : Code) {β γ : Type} {g : Res β → Res γ}, Strict g → ∀ (st : St) (K : Ex → St → Res β), g (codeK E rc f fn n base c st K) = codeK E rc f fn n base c st fun e s => g (K e s)
  | .skip, β, γ, g, hg, st, K => rfl
  | .region id ops dr, β, γ, g, hg, st, K => by
    simp only [codeK]
    cases dr with
    | true => simp only [cond_true, nat_cond hg, nat_opsK hg hrc, hg.stuck]
    | false => simp only [cond_false, nat_opsK hg hrc]
  | .seq a b, β, γ, g, hg, st, K => by
    simp only [codeK]
    rw [nat_codeK hrc a hg]
    congr 1; funext e s
    rw [nat_k (g := g), nat_codeK hrc b hg]
  | .cond c a b, β, γ, g, hg, st, K => by
    simp only [codeK, nat_someK hg]
    congr 1; funext p
    cases p <;> first | exact hg.stuck | skip
    simp only [nat_bT hg, nat_cond hg, nat_codeK hrc a hg, nat_codeK hrc b hg]
  | .block id c, β, γ, g, hg, st, K => by
    simp only [codeK]
    rw [nat_codeK hrc c hg]
    congr 1; funext e s
    rw [nat_k (g := g)]
    cases e <;> first | rfl | skip
    simp only [Ex.k]
    split <;> rfl
  | .loop c, β, γ, g, hg, st, K => by
    simp only [codeK]
    rw [nat_bind hg]
  | .exit id, β, γ, g, hg, st, K => rfl
  | .scope c, β, γ, g, hg, st, K => by simp only [codeK]; exact nat_codeK hrc c hg st K
  | .label l, β, γ, g, hg, st, K => rfl
  | .ret, β, γ, g, hg, st, K => rfl
  | .rangeFunc .., β, γ, g, hg, st, K => hg.stuck
  | .goto .., β, γ, g, hg, st, K => hg.stuck
  | .refuse .., β, γ, g, hg, st, K => hg.stuck

theorem nat_resultsK {β γ : Type} {g : Res β → Res γ} (hg : Strict g) {st : St} : ∀ (l : List ResultVar) (K : List PV → Res β), g (resultsK E st l K) = resultsK E st l fun ps => g (K ps)
  | [], K => rfl
  | .tmp t :: r, K => by simp only [resultsK]; rw [nat_resultsK hg]
  | .cell a t :: r, K => by
    simp only [resultsK, nat_loadK hg]
    congr 1; funext p
    exact nat_resultsK hg r _

theorem nat_funK (hrc : rc.Nat) {β γ : Type} {g : Res β → Res γ} (hg : Strict g) (args : List PV) (H : List AObj) (K : PV → List AObj → Res β) : g (funK E rc n f args H K) = funK E rc n f args H fun r H' => g (K r H') := by
  unfold funK
  split
  · exact hg.stuck
  · split
    · exact hg.stuck
    · rw [nat_codeK hrc _ hg]
      congr 1; funext e s
      rw [nat_k (g := g), nat_resultsK hg, hg.stuck]

def Ex.out : Ex → Exit
  | .norm => .normal
  | .exit i => .exit i
  | .ret => .ret

/-- The rule of a code's soundness. -/
def CodeOk (E : Env) (rc : Caller) (f : FuncId) (fn : Func) (n base : Nat) (c : Code) : Prop := ∀ (β : Type) (st : St) (K : Ex → St → Res β) (F : Nat → Prop) (κ : Nat → Value) (a : Act) (w : World) (Q : Exit → Act → World → Prop),
  codeK E rc f fn n base c st K ≠ .stuck → base ≤ st.heap.length → Rel F κ st a w →
  (∀ e st' F' κ' a' w', codeK E rc f fn n base c st K = K e st' → Rel F' κ' st' a' w' → Ev base F κ w st.heap F' κ' w' st'.heap → Q e.out a' w') → c.wp E.P Q a w

theorem iter_sound {B : St → Res (Ex × St)} {c : Code} {Q : Exit → Act → World → Prop} {P : Program}
    (hB : ∀ (st : St) (F : Nat → Prop) (κ : Nat → Value) (a : Act) (w : World) (Q : Exit → Act → World → Prop), B st ≠ .stuck → base ≤ st.heap.length → Rel F κ st a w → (∀ e st' F' κ' a' w', B st = .ok (e, st') → Rel F' κ' st' a' w' → Ev base F κ w st.heap F' κ' w' st'.heap → Q e.out a' w') → c.wp P Q a w) :
    ∀ (m : Nat) (st : St) (F : Nat → Prop) (κ : Nat → Value) (a : Act) (w : World), iterR B m st ≠ .stuck → base ≤ st.heap.length → Rel F κ st a w →
      (∀ e st' F' κ' a' w', iterR B m st = .ok (e, st') → Rel F' κ' st' a' w' → Ev base F κ w st.heap F' κ' w' st'.heap → Q e.out a' w') → Code.rounds P c Q m a w
  | 0, st, F, κ, a, w, h, hb, rel, hq => absurd rfl h
  | m + 1, st, F, κ, a, w, h, hb, rel, hq => by
    rw [rounds_succ]
    simp only [iterR] at h hq
    refine hB st F κ a w _ (bind_inv h) hb rel fun e st' F' κ' a' w' e1 r1 ev1 => ?_
    rw [e1] at h hq
    simp only [Res.bind_ok] at h hq
    cases e with
    | norm => exact iter_sound hB m st' F' κ' a' w' h ev1.hl r1 fun e2 st2 F2 κ2 a2 w2 e3 r2 ev2 => hq e2 st2 F2 κ2 a2 w2 e3 r2 (ev1.trans ev2)
    | exit i => exact hq (.exit i) st' F' κ' a' w' rfl r1 ev1
    | ret => exact hq .ret st' F' κ' a' w' rfl r1 ev1

theorem codeK_sound (hm : E.P.follows .mixedOrders = true) (hc : CallerOk E rc) : ∀ c : Code, CodeOk E rc f fn n base c
  | .skip => fun β st K F κ a w Q h hb rel hq => Go.wp_skip (hq .norm st F κ a w rfl rel (Ev.refl hb))
  | .region id ops dr => fun β st K F κ a w Q h hb rel hq => by
    simp only [codeK] at h hq
    cases dr with
    | true =>
      simp only [cond_true] at h hq
      obtain ⟨g1, e1⟩ := cond_inv' h
      rw [e1] at h hq
      exact draw_sound (N0 := base) hm hc g1 h hb rel fun st' F' κ' a' w' e r ev => hq .norm st' F' κ' a' w' e r ev
    | false =>
      simp only [cond_false] at h hq
      exact region_sound (N0 := base) hc (by rw [List.map_map]; exact List.map_id' _) h hb rel fun st' F' κ' a' w' e r ev => hq .norm st' F' κ' a' w' e r ev
  | .seq x y => fun β st K F κ a w Q h hb rel hq => by
    simp only [codeK] at h hq
    refine wp_seq (codeK_sound hm hc x _ st _ F κ a w _ h hb rel fun e st' F' κ' a' w' e1 r1 ev1 => ?_)
    rw [e1] at h hq
    cases e with
    | norm => exact codeK_sound hm hc y _ st' K F' κ' a' w' Q h ev1.hl r1 fun e2 st2 F2 κ2 a2 w2 e3 r2 ev2 => hq e2 st2 F2 κ2 a2 w2 e3 r2 (ev1.trans ev2)
    | exit i => exact hq (.exit i) st' F' κ' a' w' rfl r1 ev1
    | ret => exact hq .ret st' F' κ' a' w' rfl r1 ev1
  | .cond c x y => fun β st K F κ a w Q h hb rel hq => by
    simp only [codeK] at h hq
    obtain ⟨p, e1, e2⟩ := someK_inv h
    rw [e2] at h hq
    have hv := evalO_sound rel.tl rel.tr e1
    cases p with
    | t z =>
      simp only [] at h hq
      obtain ⟨b, rfl, e3⟩ := bT_inv h
      rw [e3] at h hq
      generalize hv' : a.eval c = v at hv
      cases hv with
      | t hv =>
      cases hv with
      | bool =>
      refine wp_cond hv' ?_
      cases b with
      | true => exact codeK_sound hm hc x _ st K F κ a w Q h hb rel hq
      | false => exact codeK_sound hm hc y _ st K F κ a w Q h hb rel hq
    | _ => exact absurd rfl h
  | .block id c => fun β st K F κ a w Q h hb rel hq => by
    simp only [codeK] at h hq
    refine wp_block (codeK_sound hm hc c _ st _ F κ a w _ h hb rel fun e st' F' κ' a' w' e1 r1 ev1 => ?_)
    cases e with
    | norm => exact hq .norm st' F' κ' a' w' e1 r1 ev1
    | exit i =>
      simp only [Ex.out, Exit.inBlock]
      simp only [Ex.k] at e1
      by_cases hi : i = id
      · rw [if_pos hi] at e1 ⊢; exact hq .norm st' F' κ' a' w' e1 r1 ev1
      · rw [if_neg hi] at e1 ⊢; exact hq (.exit i) st' F' κ' a' w' e1 r1 ev1
    | ret => exact hq .ret st' F' κ' a' w' e1 r1 ev1
  | .loop c => fun β st K F κ a w Q h hb rel hq => by
    simp only [codeK] at h hq
    obtain ⟨κ1, rel1, ev1⟩ := canon_sound (live := (E.hint f (firstRegion c)).1) rel hb
    refine wp_loop_rounds n (iter_sound (base := base) (fun st F κ a w Q h hb rel hq => ?_) n _ F κ1 a w (bind_inv h) ev1.hl rel1 fun e st' F' κ' a' w' e1 r1 ev2 => ?_)
    · refine codeK_sound hm hc c _ st _ F κ a w Q h hb rel fun e st' F' κ' a' w' e1 r1 ev1 => ?_
      cases e with
      | norm =>
        obtain ⟨κ2, rel2, ev2⟩ := canon_sound (base := base) (live := (E.hint f (firstRegion c)).1) r1 ev1.hl
        exact hq .norm _ F' κ2 a' w' e1 rel2 (ev1.trans ev2)
      | exit i =>
        obtain ⟨κ2, rel2, ev2⟩ := canon_sound (base := base) (live := (E.hint f (firstRegion c)).2) r1 ev1.hl
        exact hq (.exit i) _ F' κ2 a' w' e1 rel2 (ev1.trans ev2)
      | ret =>
        obtain ⟨κ2, rel2, ev2⟩ := canon_sound (base := base) (live := resTmps fn) r1 ev1.hl
        exact hq .ret _ F' κ2 a' w' e1 rel2 (ev1.trans ev2)
    · rw [e1] at hq
      exact hq e st' F' κ' a' w' rfl r1 (ev1.trans ev2)
  | .exit id => fun β st K F κ a w Q h hb rel hq => wp_exit (hq (.exit id) st F κ a w rfl rel (Ev.refl hb))
  | .scope c => fun β st K F κ a w Q h hb rel hq => by
    simp only [codeK] at h hq
    refine wp_scope_straight (codeK_sound hm hc c _ st K F κ a w _ h hb rel fun e st' F' κ' a' w' e1 r1 ev1 => ?_)
    have := hq e st' F' κ' a' w' e1 r1 ev1
    cases e <;> exact this
  | .label l => fun β st K F κ a w Q h hb rel hq => wp_label (hq .norm st F κ a w rfl rel (Ev.refl hb))
  | .ret => fun β st K F κ a w Q h hb rel hq => wp_ret (hq .ret st F κ a w rfl rel (Ev.refl hb))
  | .rangeFunc .. => fun β st K F κ a w Q h hb rel hq => absurd rfl h
  | .goto .. => fun β st K F κ a w Q h hb rel hq => absurd rfl h
  | .refuse .. => fun β st K F κ a w Q h hb rel hq => absurd rfl h
end
end Go.Sim
