/- THE LAW: what the interpreter says of a call, the machine does. -/
import Derived.Test.YtmidmdabmalhgaaD24
namespace Go.Sim
open Go.RowKit
set_option linter.unusedVariables false
set_option linter.unusedSimpArgs false
set_option linter.unusedSectionVars false

theorem loadAt_asAddr {P : Program} {t : TypeId} {v u : Value} {w : World} (h : (Instr.loadAt t v).run P w = .ok u w) : (do loadVar t (← asAddr v) : Sem Value).run P w = .ok u w := by
  unfold Instr.loadAt at h
  cases v with
  | pointer p =>
    cases p with
    | none => simp [Instr.sureAddr, stuck] at h
    | some a => simpa [Instr.sureAddr, asAddr] using h
  | _ => simp [Instr.sureAddr, stuck] at h

section
variable {E : Env} {rc : Caller} {F : Nat → Prop} {κ : Nat → Value} {w : World} {st : St} {a : Act}

def resOne (tm : Array Value) : ResultVar → Sem Value
  | .tmp t => pure (tm.getD t undef)
  | .cell x t => do loadVar t (← asAddr (tm.getD x undef))
theorem pvRes_sound {N : Nat} : ∀ {ps : List PV} {vs : List Value}, vs.length = ps.length → (∀ (i : Nat) (p : PV) (v : Value), ps[i]? = some p → vs[i]? = some v → RP F κ N w p v) → RP F κ N w (pvRes ps) (if h : vs.length = 1 then vs[0] else .tuple vs.toArray)
  | [p], [v], _, h => h 0 p v rfl rfl
  | [], [], _, _ => .tup (vs := []) rfl (by simp)
  | p :: q :: ps, v :: u :: vs, hl, h => by
    rw [dif_neg (by simp)]
    exact .tup hl h
  | [], _ :: _, hl, _ => by simp at hl
  | [_], [], hl, _ => by simp at hl
  | [_], _ :: _ :: _, hl, _ => by simp at hl
  | _ :: _ :: _, [], hl, _ => by simp at hl
  | _ :: _ :: _, [_], hl, _ => by simp at hl

theorem resultsK_sound {β : Type} (rel : Rel F κ st a w) : ∀ {l : List ResultVar} {K : List PV → Res β}, resultsK E st l K ≠ .stuck →
    ∃ ps vs, resultsK E st l K = K ps ∧ (l.mapM (resOne a.tmps)).run E.P w = .ok vs w ∧ vs.length = ps.length ∧
      ∀ (i : Nat) (p : PV) (v : Value), ps[i]? = some p → vs[i]? = some v → RP F κ st.heap.length w p v
  | [], K, h => ⟨[], [], rfl, by simp [List.mapM_nil], rfl, by simp⟩
  | .tmp t :: r, K, h => by
    simp only [resultsK] at h ⊢
    obtain ⟨ps, vs, e1, e2, e3, e4⟩ := resultsK_sound rel h
    have hv := evalO_sound (P := E.P) rel.tl rel.tr (t := 0) (o := .tmp t) (p := st.tmps.getD t undefV) rfl
    refine ⟨_, a.tmps.getD t undef :: vs, e1, by simp only [List.mapM_cons, resOne, Sem.run_bind, Sem.run_pure, e2, Result.andThen_ok], by simp [e3], fun i p v g1 g2 => ?_⟩
    cases i with
    | zero => simp only [List.getElem?_cons_zero, Option.some.injEq] at g1 g2; subst g1; subst g2; exact hv
    | succ i => exact e4 i p v (by simpa using g1) (by simpa using g2)
  | .cell x t :: r, K, h => by
    simp only [resultsK] at h ⊢
    have hv := evalO_sound (P := E.P) rel.tl rel.tr (t := 0) (o := .tmp x) (p := st.tmps.getD x undefV) rfl
    obtain ⟨q, u, e5, e6, e7⟩ := loadK_sound h rel.si hv
    rw [e5] at h ⊢
    obtain ⟨ps, vs, e1, e2, e3, e4⟩ := resultsK_sound rel h
    have e8 := loadAt_asAddr e6
    refine ⟨_, u :: vs, e1, ?_, by simp [e3], fun i p v g1 g2 => ?_⟩
    · have e8' : (resOne a.tmps (.cell x t)).run E.P w = .ok u w := e8
      simp only [List.mapM_cons, Sem.run_bind, e8', Sem.run_pure, e2, Result.andThen_ok]
    · cases i with
      | zero => simp at g1 g2; subst g1; subst g2; exact e7
      | succ i => exact e4 i p v (by simpa using g1) (by simpa using g2)

/-- What is known of the program and its foreign parts. -/
structure EnvOk (E : Env) : Prop where
  inpl : ∀ (f : FuncId) (g : List AObj → List T → List PV → Res (List T)), E.inpl f = some g → InplOk E f g
  mixed : E.P.follows .mixedOrders = true
  named : ∀ (f : FuncId) (fn : Func), E.P.funcs[f]? = some fn → (fn.name == "runtime.NumGoroutine") = false
  ext : ∀ (f : FuncId) (e : List T → Res T), E.ext f = some e → ∀ ts, e ts ≠ .stuck → ∀ (F : Nat → Prop) (w : World) (vals : List Value), vals.length = ts.length → (∀ (i : Nat) (x : T) (v : Value), ts[i]? = some x → vals[i]? = some v → Rd F w x v) →
    (∀ b, F b → b < w.heap.size) → Invokes E.P f vals.toArray w fun v w' => ∃ x F', e ts = .ok x ∧ Out E f F' w.heap.size w' x v ∧ Grown F w F' w'

theorem funK_sound (he : EnvOk E) (hc : CallerOk E rc) {β : Type} {n : Nat} {f : FuncId} {args : List PV} {H : List AObj} {K : PV → List AObj → Res β} (h : funK E rc n f args H K ≠ .stuck) {vals : List Value} (hl : vals.length = args.length)
    (ha : ∀ (i : Nat) (p : PV) (v : Value), args[i]? = some p → vals[i]? = some v → RP F κ H.length w p v) (s : SI F κ w H) :
    Calls E.P f vals.toArray w fun e w' => ∃ v, e = .returned v ∧ ∃ r H' F' κ', funK E rc n f args H K = K r H' ∧ RP F' κ' H'.length w' r v ∧ SI F' κ' w' H' ∧ Ev H.length F κ w H F' κ' w' H' := by
  unfold funK at h ⊢
  cases hf : E.P.funcs[f]? with
  | none => simp [hf] at h
  | some fn =>
    simp only [hf] at h ⊢
    cases hb : fn.body with
    | none => simp [hb] at h
    | some c =>
      simp only [hb] at h ⊢
      refine calls_of_wp hf hb ?_
      have rel : Rel F κ ⟨args ++ List.replicate (fn.ntmps - args.length) undefV, H⟩ { tmps := vals.toArray ++ Array.replicate (fn.ntmps - vals.toArray.size) undef, defers := [] } w := by
        refine ⟨by simp [hl], fun i p v g1 g2 => ?_, rfl, s⟩
        simp only [] at g1 g2 ⊢
        rcases Nat.lt_or_ge i args.length with h1 | h1
        · rw [List.getElem?_append_left h1] at g1
          rw [Array.getElem?_append_left (by simpa [hl] using h1)] at g2
          exact ha i p v g1 (by simpa using g2)
        · rw [List.getElem?_append_right h1] at g1
          rw [Array.getElem?_append_right (by simpa [hl] using h1)] at g2
          have g3 := List.mem_of_getElem? g1
          have g4 := Array.mem_of_getElem? g2
          rw [List.mem_replicate] at g3
          rw [Array.mem_replicate] at g4
          rw [g3.2, g4.2]
          exact undef_rp
      have fin : ∀ (st' : St) (F' : Nat → Prop) (κ' : Nat → Value) (a' : Act) (w' : World), (resultsK E st' fn.results.toList fun ps => K (pvRes ps) st'.heap) ≠ .stuck → Rel F' κ' st' a' w' → Ev H.length F κ w H F' κ' w' st'.heap →
          a'.defers = [] ∧ ∃ v, (results fn a'.tmps).run E.P w' = .ok v w' ∧ ∃ v', Ending.returned v = .returned v' ∧ ∃ r H' F' κ', (resultsK E st' fn.results.toList fun ps => K (pvRes ps) st'.heap) = K r H' ∧ RP F' κ' H'.length w' r v' ∧ SI F' κ' w' H' ∧ Ev H.length F κ w H F' κ' w' H' := by
        intro st' F' κ' a' w' hne r1 ev1
        obtain ⟨ps, vs, e1, e2, e3, e4⟩ := resultsK_sound r1 hne
        have hres : (results fn a'.tmps).run E.P w' = .ok (if h : vs.length = 1 then vs[0] else .tuple vs.toArray) w' := by
          show (do let vs ← fn.results.mapM (resOne a'.tmps); pure (if h : vs.size = 1 then vs[0] else .tuple vs) : Sem Value).run E.P w' = _
          rw [Array.mapM_eq_mapM_toList]
          simp only [Sem.run_bind, map_eq_pure_bind, e2, Result.andThen_ok, Sem.run_pure, List.size_toArray]
          split <;> rfl
        exact ⟨r1.dn, _, hres, _, rfl, pvRes ps, st'.heap, F', κ', e1, pvRes_sound e3 e4, r1.si, ev1⟩
      refine codeK_sound he.mixed hc c _ _ _ F κ _ w _ h (Nat.le_refl _) rel fun e st' F' κ' a' w' e1 r1 ev1 => ?_
      rw [e1] at h ⊢
      cases e with
      | norm => exact fin st' F' κ' a' w' h r1 ev1
      | exit i => exact absurd rfl h
      | ret => exact fin st' F' κ' a' w' h r1 ev1

/-- From a call at trees, at a heap of its own, to what its caller leans on. -/
theorem outK_sound {f : FuncId} {p : PV} {v : Value} {H : List AObj} {w0 : World} {F0 : Nat → Prop} {κ0 : Nat → Value} (hfl : ∀ b, F0 b → b < w0.heap.size) (h : outK E f p H ≠ .stuck) (hp : RP F κ H.length w p v) (s : SI F κ w H) (ev : Ev 0 F0 κ0 w0 [] F κ w H) :
    ∃ x F', outK E f p H = .ok x ∧ Out E f F' w0.heap.size w x v ∧ Grown F0 w0 F' w := by
  have hno : ∀ b, ¬ Own κ0 [] b := fun b ⟨l, o, h, _⟩ => by simp at h
  have hown : ∀ b, Own κ H b → w0.heap.size ≤ b := fun b hb => (ev.on b hb).resolve_left (hno b)
  have hFn : ∀ b, F b → F0 b ∨ w0.heap.size ≤ b := fun b hb => (ev.fn b hb).elim .inl fun h => h.elim (fun h => absurd h (hno b)) .inr
  have grown : ∀ {F' : Nat → Prop} {H' : List AObj}, SI F' κ w H' → (∀ b, F b → F' b) → (∀ b, F' b → F b ∨ Own κ H b) → Grown F0 w0 F' w := fun s' a1 a2 =>
    ⟨ev.os, ev.tape, ev.output, ev.size, fun b hb => ev.frame b hb (hno b), fun b hb => a1 b (ev.fm b hb), fun b hb => (a2 b hb).elim (hFn b) (fun h => .inr (hown b h)), s'.fl⟩
  have rowOf : ∀ {F' : Nat → Prop} {H' : List AObj} {l e k : Nat} {xs : List T}, SI F' κ w H' → (∀ b, Own κ H' b → Own κ H b) → H'[l]? = some (.row e k xs) → Row F' w e k xs (κ l) ∧ ∀ b, (κ l).ownBlock = some b → w0.heap.size ≤ b ∧ b < w.heap.size ∧ ¬ F' b := by
    intro F' H' l e k xs s' a3 ho
    obtain ⟨cs, h1, h2⟩ := s'.ro l _ ho
    refine ⟨⟨cs, h1, h2⟩, fun b hb => ?_⟩
    obtain ⟨c1, c2⟩ := s'.lt l _ b ho (by simpa [blk] using hb)
    exact ⟨hown b (a3 b ⟨l, _, ho, by simpa [blk] using hb⟩), c1, c2⟩
  have rowNil : ∀ (F' : Nat → Prop) (e k : Nat), Row F' w e k [] (.slice none 0 0) ∧ ∀ b, (Value.slice none 0 0).ownBlock = some b → w0.heap.size ≤ b ∧ b < w.heap.size ∧ ¬ F' b :=
    fun F' e k => ⟨⟨[], World.ownsRow_nil w 0 e k, by simp, by simp, by simp, by simp⟩, fun b hb => by simp [Value.ownBlock] at hb⟩
  unfold outK at h ⊢
  match hm : E.mode f with
  | 0 =>
    simp only [hm] at h ⊢
    obtain ⟨x, e1, e2⟩ := someK_inv h
    obtain ⟨F', s', a1, a2, a3, a4, a5, a6⟩ := freeze_sound p.rows s
    exact ⟨x, F', e2, .frozen hm (frz_sound s hp a1 e1 a4), grown s' a1 a2⟩
  | 1 =>
    simp only [hm] at h ⊢
    cases hp with
    | @own l A n c hN hk =>
      simp only [] at h ⊢
      cases ho : H[l]? with
      | none => simp [ho] at h
      | some q =>
        cases q with
        | row e k xs =>
          simp only [ho] at h ⊢
          obtain ⟨g1, e1⟩ := cond_inv' h
          obtain ⟨b1, b2⟩ := rowOf s (fun _ h => h) ho
          rw [hk] at b1 b2
          exact ⟨_, F, e1, .row hm (by simpa using g1) b1 b2, grown s (fun _ h => h) (fun _ h => .inl h)⟩
        | _ => simp [ho] at h
    | @view l k lo hi A n c hN hv =>
      simp only [] at h ⊢
      cases ho : H[l]? with
      | none => simp [ho] at h
      | some q =>
        cases q with
        | row e k' xs =>
          simp only [ho] at h ⊢
          obtain ⟨g1, e1⟩ := cond_inv' h
          simp only [Bool.and_eq_true, beq_iff_eq, decide_eq_true_eq] at g1
          obtain ⟨⟨⟨g1, rfl⟩, rfl⟩, g2⟩ := g1
          obtain ⟨b1, b2⟩ := rowOf s (fun _ h => h) ho
          obtain ⟨b3, b4⟩ := Row.cut b1 hv g2
          exact ⟨_, F, e1, .row hm g1 b3 (fun b hb => b2 b (by rw [← b4]; exact hb)), grown s (fun _ h => h) (fun _ h => .inl h)⟩
        | _ => simp [ho] at h
    | @nil e k =>
      simp only [] at h ⊢
      obtain ⟨g1, e1⟩ := cond_inv' h
      exact ⟨_, F, e1, .row hm (by simpa using g1) (rowNil _ _ _).1 (rowNil F e k).2, grown s (fun _ h => h) (fun _ h => .inl h)⟩
    | _ => exact absurd rfl h
  | m + 2 =>
    simp only [hm] at h ⊢
    cases hp with
    | @tup ps vs hl hr =>
      match ps, vs, hl with
      | [], _, _ => exact absurd rfl h
      | p :: ps, v :: vs, hl =>
        have hp0 := hr 0 p v rfl rfl
        have hps : ∀ (i : Nat) (q : PV) (u : Value), ps[i]? = some q → vs[i]? = some u → RP F κ H.length w q u := fun i q u g1 g2 => hr (i + 1) q u (by simpa using g1) (by simpa using g2)
        obtain ⟨F', s', a1, a2, a3, a4, a5, a6⟩ := freeze_sound (PV.rowss ps) s
        cases hp0 with
        | @own l A n c hN hk =>
          simp only [] at h ⊢
          cases ho : H[l]? with
          | none => simp [ho] at h
          | some q =>
            cases q with
            | row e k xs =>
              simp only [ho] at h ⊢
              obtain ⟨g0, e0⟩ := cond_inv h
              rw [e0] at h ⊢
              obtain ⟨ys, e1, e2⟩ := someK_inv h
              rw [e2] at h ⊢
              obtain ⟨g1, e3⟩ := cond_inv' h
              simp only [Bool.and_eq_true, beq_iff_eq] at g1
              obtain ⟨c1, c2⟩ := frzs_sound s hps e1 a1 a4
              have ho' : (freezeRows (PV.rowss ps) H)[l]? = some (.row e k xs) := by
                rw [freezeRows_other _ _ (fun hmm => by rw [List.contains_iff_mem.2 hmm] at g0; cases g0)]; exact ho
              obtain ⟨b1, b2⟩ := rowOf s' a3 ho'
              rw [hk] at b1 b2
              exact ⟨_, F', e3, .tup (by omega) g1.1 b1 b2 g1.2 (by simp at hl; omega) c2, grown s' a1 a2⟩
            | _ => simp [ho] at h
        | @nil e k =>
          simp only [] at h ⊢
          obtain ⟨ys, e1, e2⟩ := someK_inv h
          rw [e2] at h ⊢
          obtain ⟨g1, e3⟩ := cond_inv' h
          simp only [Bool.and_eq_true, beq_iff_eq] at g1
          obtain ⟨c1, c2⟩ := frzs_sound s hps e1 a1 a4
          exact ⟨_, F', e3, .tup (by omega) g1.1 (rowNil _ _ _).1 (rowNil F' e k).2 g1.2 (by simp at hl; omega) c2, grown s' a1 a2⟩
        | _ => exact absurd rfl h
    | _ => exact absurd rfl h

theorem invokes_of_calls (he : EnvOk E) {f : FuncId} {args : Array Value} {R : Value → World → Prop} (hfn : ∃ fn c, E.P.funcs[f]? = some fn ∧ fn.body = some c) (h : Calls E.P f args w fun e w' => ∃ v, e = .returned v ∧ R v w') : Invokes E.P f args w R := by
  obtain ⟨fn, c, hf, hb⟩ := hfn
  have h1 : fn.name ≠ "runtime.NumGoroutine" := by have := he.named f fn hf; simpa using this
  unfold Invokes
  have : (callFunc f args).run E.P w = .ok (.enter f args) w := by simp [callFunc, hf, h1, hb]
  rw [this]
  exact h

theorem funK_body {β : Type} {n : Nat} {f : FuncId} {args : List PV} {H : List AObj} {K : PV → List AObj → Res β} (h : funK E rc n f args H K ≠ .stuck) : ∃ fn c, E.P.funcs[f]? = some fn ∧ fn.body = some c := by
  unfold funK at h
  cases hf : E.P.funcs[f]? with
  | none => simp [hf] at h
  | some fn =>
    cases hb : fn.body with
    | none => simp [hf, hb] at h
    | some c => exact ⟨fn, c, rfl, hb⟩

def GoOk (E : Env) (run : (β : Type) → FuncId → List PV → List AObj → (PV → List AObj → Res β) → Res β) : Prop := ∀ (β : Type) (f : FuncId) (args : List PV) (H : List AObj) (K : PV → List AObj → Res β), run β f args H K ≠ .stuck → ∀ (F : Nat → Prop) (κ : Nat → Value) (w : World) (vals : List Value), vals.length = args.length →
    (∀ (i : Nat) (p : PV) (v : Value), args[i]? = some p → vals[i]? = some v → RP F κ H.length w p v) → SI F κ w H →
    (∃ fn c, E.P.funcs[f]? = some fn ∧ fn.body = some c) ∧ Calls E.P f vals.toArray w fun e w' => ∃ v, e = .returned v ∧ ∃ r H' F' κ', run β f args H K = K r H' ∧ RP F' κ' H'.length w' r v ∧ SI F' κ' w' H' ∧ Ev H.length F κ w H F' κ' w' H'

theorem pure_calls (he : EnvOk E) {run : (β : Type) → FuncId → List PV → List AObj → (PV → List AObj → Res β) → Res β} (hr : GoOk E run) {f : FuncId} {ts : List T} (hx : E.ext f = none) (h : callPof E run f ts ≠ .stuck) {vals : List Value} (hl : vals.length = ts.length)
    (ha : ∀ (i : Nat) (x : T) (v : Value), ts[i]? = some x → vals[i]? = some v → Rd F w x v) (hfl : ∀ b, F b → b < w.heap.size) :
    (∃ fn c, E.P.funcs[f]? = some fn ∧ fn.body = some c) ∧ Calls E.P f vals.toArray w fun e w' => ∃ v, e = .returned v ∧ ∃ x F', callPof E run f ts = .ok x ∧ Out E f F' w.heap.size w' x v ∧ Grown F w F' w' := by
  have hwf : T.wfs ts = true := T.wfs_iff.2 fun x hx => by
    obtain ⟨i, hi, rfl⟩ := List.getElem_of_mem hx
    exact (ha i _ _ (List.getElem?_eq_getElem hi) (List.getElem?_eq_getElem (by omega))).wf
  unfold callPof at h ⊢
  rw [hwf] at h ⊢
  simp only [cond_true, hx] at h ⊢
  obtain ⟨g1, g2⟩ := hr T f (ts.map .t) [] (outK E f) h F (fun _ => undef) w vals (by simpa using hl) (fun i p v a b => by
    rw [List.getElem?_map, Option.map_eq_some_iff] at a
    obtain ⟨x, a, rfl⟩ := a
    exact .t (ha i x v a b)) ⟨by simp, by simp, by simp, hfl⟩
  refine ⟨g1, Calls.mono g2 fun e w' => ?_⟩
  rintro ⟨v, rfl, r, H', F', κ', e1, e2, e3, e4⟩
  rw [e1] at h ⊢
  exact ⟨v, rfl, outK_sound hfl h e2 e3 e4⟩

theorem callerOk_of (he : EnvOk E) {run : (β : Type) → FuncId → List PV → List AObj → (PV → List AObj → Res β) → Res β} (hn : (⟨callPof E run, run⟩ : Caller).Nat) (hr : GoOk E run) : CallerOk E ⟨callPof E run, run⟩ where
  nat := hn
  inpl := he.inpl
  pure := fun f ts h F w vals hl ha hfl => by
    cases hx : E.ext f with
    | some e =>
      have hwf : T.wfs ts = true := T.wfs_iff.2 fun x hx => by
        obtain ⟨i, hi, rfl⟩ := List.getElem_of_mem hx
        exact (ha i _ _ (List.getElem?_eq_getElem hi) (List.getElem?_eq_getElem (by omega))).wf
      have e1 : callPof E run f ts = e ts := by unfold callPof; rw [hwf, hx]; rfl
      simp only [] at h ⊢
      rw [e1] at h ⊢
      exact he.ext f e hx ts h F w vals hl ha hfl
    | none =>
      obtain ⟨g1, g2⟩ := pure_calls he hr hx h hl ha hfl
      exact invokes_of_calls he g1 g2
  go := fun β f args H K h F κ w vals hl ha s => by
    obtain ⟨g1, g2⟩ := hr β f args H K h F κ w vals hl ha s
    exact invokes_of_calls he g1 g2

theorem runK_ok (he : EnvOk E) : ∀ n, (recOf E n).Nat ∧ GoOk E (runK E n)
  | 0 => ⟨fun β γ g hg f args H K => hg.stuck, fun β f args H K h => absurd rfl h⟩
  | n + 1 => by
    obtain ⟨h1, h2⟩ := runK_ok he n
    have hc := callerOk_of he h1 h2
    refine ⟨fun β γ g hg f args H K => nat_funK hc.nat hg args H K, fun β f args H K h F κ w vals hl ha s => ⟨funK_body h, ?_⟩⟩
    exact funK_sound he hc h hl ha s

/-- THE LAW. -/
theorem callP_calls (he : EnvOk E) {n : Nat} {f : FuncId} {ts : List T} (hx : E.ext f = none) (h : callP E n f ts ≠ .stuck) {vals : List Value} (hl : vals.length = ts.length)
    (ha : ∀ (i : Nat) (x : T) (v : Value), ts[i]? = some x → vals[i]? = some v → Rd F w x v) (hfl : ∀ b, F b → b < w.heap.size) :
    Calls E.P f vals.toArray w fun e w' => ∃ v, e = .returned v ∧ ∃ x F', callP E n f ts = .ok x ∧ Out E f F' w.heap.size w' x v ∧ Grown F w F' w' :=
  (pure_calls he (runK_ok he n).2 hx h hl ha hfl).2

#print axioms callP_calls
end
end Go.Sim
