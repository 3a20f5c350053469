/- One operation. -/
import Derived.Test.YtmidmdabmalhgaaD18b
namespace Go.Sim
open Go.RowKit
set_option linter.unusedVariables false
set_option linter.unusedSimpArgs false

section
variable {P : Program} {o : Oper} {a : Act} {w w' : World} {next : Act → World → Prop} {Q : Exit → Act → World → Prop}
theorem wp_value {u : Value} (h : (execOp a.eval o).run P w = .ok (.value u) w') (hn : next (a.put o.dst u) w') : o.wp P a w next Q := by
  unfold Oper.wp; rw [h]; exact hn
theorem wp_skip {h : (execOp a.eval o).run P w = .ok .skip w'} (hn : next (a.put o.dst undef) w') : o.wp P a w next Q := by
  unfold Oper.wp; rw [h]; exact hn
end

section
variable {β : Type} {E : Env} {rc : Caller} {st : St} {F : Nat → Prop} {κ : Nat → Value} {w : World} {N0 : Nat} {a : Act}

theorem amap {α γ : Type} {f : α → γ} (xs : Array α) : (xs.toList.map f).toArray = xs.map f := by apply Array.ext'; simp
theorem Rd.ref_inv {x : T} {v : Value} (h : Rd F w (.ref x) v) : ∃ b o, v = .pointer (some ⟨b, o, none⟩) := by
  cases h with
  | ref val => exact ⟨_, _, rfl⟩

theorem foldlM_max (mx : Bool) (P : Program) (k : IntKind) : ∀ (ns : List Int) (m : Int) (vs : List Value), vs = ns.map (Value.int k) →
    ((vs.foldlM (if mx then Builtin.max2 else Builtin.min2) (.int k m)).run P w) = .ok (.int k (minmax mx ns m)) w
  | [], m, vs, h => by subst h; simp [minmax]
  | x :: ns, m, vs, h => by
    subst h
    cases mx with
    | true =>
      have := foldlM_max true P k ns (if x > m then x else m) (ns.map (Value.int k)) rfl
      simp only [if_true] at this
      simp [minmax, Builtin.max2, this]
    | false =>
      have := foldlM_max false P k ns (if x < m then x else m) (ns.map (Value.int k)) rfl
      simp only [Bool.false_eq_true, if_false] at this
      simp [minmax, Builtin.min2, this]

theorem intsK_sound {k : IntKind} {N : Nat} : ∀ {ps : List PV} {vs : List Value} {K : List Int → Res β}, intsK k ps K ≠ .stuck → vs.length = ps.length → (∀ (i : Nat) (p : PV) (v : Value), ps[i]? = some p → vs[i]? = some v → RP F κ N w p v) →
    ∃ ns, intsK k ps K = K ns ∧ vs = ns.map (Value.int k) ∧ ∀ n ∈ ns, kindOk k n = true
  | [], [], K, h, hl, hp => ⟨[], rfl, rfl, by simp⟩
  | [], _ :: _, K, h, hl, hp => by simp at hl
  | p :: ps, [], K, h, hl, hp => by simp at hl
  | p :: ps, v :: vs, K, h, hl, hp => by
    have hv := hp 0 p v rfl rfl
    cases hv with
    | @t x _ hx =>
      simp only [intsK] at h ⊢
      obtain ⟨n, rfl, e⟩ := iT_inv h
      rw [e] at h ⊢
      cases hx with
      | int hok =>
      obtain ⟨ns, e1, e2, e3⟩ := intsK_sound h (by simpa using hl) (fun i q u g1 g2 => hp (i + 1) q u (by simpa using g1) (by simpa using g2))
      exact ⟨n :: ns, e1, by simp [e2], fun m hm => (List.mem_cons.1 hm).elim (fun e => e ▸ hok) (e3 m)⟩
    | _ => exact absurd rfl h

theorem minmax_ok {k : IntKind} (mx : Bool) : ∀ (ns : List Int) (m : Int), kindOk k m = true → (∀ n ∈ ns, kindOk k n = true) → kindOk k (minmax mx ns m) = true
  | [], m, h, _ => h
  | x :: ns, m, h, h2 => by
    simp only [minmax]
    refine minmax_ok mx ns _ ?_ (fun n hn => h2 n (List.mem_cons_of_mem _ hn))
    have hx := h2 x List.mem_cons_self
    cases mx <;> simp only [cond_true, cond_false] <;> split <;> assumption

theorem builtinK_sound {b : Builtin} {ty : TypeId} {consts : Array Bool} {tys : List TypeId} {args : List PV} {vals : List Value} {K : PV → St → Res β} {tm : Array Value} (h : builtinK E b tys args st K ≠ .stuck) (h0 : N0 ≤ st.heap.length) (s : SI F κ w st.heap) (ht : TR F κ w st tm)
    (hl : vals.length = args.length) (ha : ∀ (i : Nat) (p : PV) (v : Value), args[i]? = some p → vals[i]? = some v → RP F κ st.heap.length w p v) :
    ∃ p u st' F' κ' w', builtinK E b tys args st K = K p st' ∧ (builtin b tys.toArray ty consts vals.toArray).run E.P w = .ok (.value u) w' ∧ Next' N0 F κ w st tm p u F' κ' w' st' := by
  unfold builtinK at h ⊢
  revert h
  split
  · rename_i t p
    intro h
    match vals, hl with
    | [v], _ =>
      have hp := ha 0 p v rfl rfl
      simp only [] at h
      have int : ∀ n : Nat, n ≤ big → RP F κ st.heap.length w (.t (.int .i64 n)) (goInt n) := fun n hn => .t (.int (kindOk_nat hn))
      cases hu : E.P.underlying t with
      | none => simp [hu] at h
      | some d =>
        cases d with
        | slice e =>
          simp only [hu] at h ⊢
          have hrun : ∀ (A : Option Addr) (n c : Nat), (builtin .len #[t] ty consts #[.slice A n c]).run E.P w = .ok (.value (goInt n)) w := fun A n c => by simp [builtin, Builtin.len_, run_underlying hu]
          cases hp with
          | nil => exact ⟨_, _, _, F, κ, w, rfl, hrun _ _ _, Next'.same h0 s ht (by simpa using int 0 (by simp))⟩
          | @own l A n c hN hk =>
            simp only [] at h ⊢
            cases ho : st.heap[l]? with
            | none => simp [ho] at h
            | some q =>
              have hro := s.ro l q ho
              cases q with
              | row e k xs =>
                obtain ⟨A', c', h1, h2⟩ := row_len hro
                rw [hk] at h1
                injection h1 with _ h1
                subst h1
                exact ⟨_, _, _, F, κ, w, rfl, hrun _ _ _, Next'.same h0 s ht (int _ h2)⟩
              | frow e k xs =>
                have h1 := hro.1
                rw [hk] at h1
                obtain ⟨h1, h2, h3⟩ := sl_len h1
                subst h1
                exact ⟨_, _, _, F, κ, w, rfl, hrun _ _ _, Next'.same h0 s ht (int _ h3)⟩
              | vec e xs =>
                simp only [ho] at h ⊢
                obtain ⟨h4, h5⟩ := chk_inv h
                rw [h5]
                obtain ⟨b, vs, c', h1, h2, h3, _⟩ := hro
                rw [hk] at h1
                injection h1 with _ h1
                subst h1
                exact ⟨_, _, _, F, κ, w, rfl, hrun _ _ _, Next'.same h0 s ht (int _ (by simpa using h4))⟩
              | _ => simp [ho] at h
          | @view l k lo hi A n c hN hv =>
            obtain ⟨B, n', c', A', ⟨v1, vb⟩, v2, v3, v4, v5⟩ := hv
            injection v2 with v2 v6 v7
            subst v6
            exact ⟨_, _, _, F, κ, w, rfl, hrun _ _ _, Next'.same h0 s ht (int _ (by omega))⟩
          | @full k xs A hx =>
            have := sl_len hx
            exact ⟨_, _, _, F, κ, w, rfl, hrun _ _ _, Next'.same h0 s ht (int _ this.2.2)⟩
          | @t x _ hx =>
            simp only [] at h ⊢
            obtain ⟨k, xs, rfl, e⟩ := sllT_inv h
            rw [e]
            cases hx with
            | sl b o val hn hb => exact ⟨_, _, _, F, κ, w, rfl, hrun _ _ _, Next'.same h0 s ht (int _ hb)⟩
          | _ => exact absurd rfl h
        | string =>
          simp only [hu] at h ⊢
          cases hp with
          | @t x _ hx =>
            simp only [] at h ⊢
            obtain ⟨sb, rfl, e⟩ := strT_inv h
            rw [e]
            cases hx with
            | str hb => exact ⟨_, _, _, F, κ, w, rfl, by simp [builtin, Builtin.len_, run_underlying hu], Next'.same h0 s ht (int _ hb)⟩
          | _ => exact absurd rfl h
        | _ => simp [hu] at h
  · rename_i t t' p q
    intro h
    match vals, hl with
    | [v, u], _ =>
      obtain ⟨r, x, st', F', κ', w', e1, e2, e3⟩ := appendK_sound (ty := ty) (tm := tm) (N0 := N0) h h0 s ht (ha 0 p v rfl rfl) (ha 1 q u rfl rfl)
      exact ⟨r, x, st', F', κ', w', e1, by simp [builtin, e2], e3⟩
  · rename_i t p
    intro h
    match vals, hl with
    | [v], _ =>
      obtain ⟨st', w', e1, e2, e3⟩ := clearK_sound (ty := ty) (tm := tm) (N0 := N0) h h0 s ht (ha 0 p v rfl rfl)
      exact ⟨_, _, st', F, κ, w', e1, by simp [builtin, e2], e3⟩
  · rename_i t t' p q
    intro h
    match vals, hl with
    | [v, u], _ =>
      obtain ⟨r, x, st', w', e1, e2, e3⟩ := copyK_sound (ty := ty) (tm := tm) (N0 := N0) h h0 s ht (ha 0 p v rfl rfl) (ha 1 q u rfl rfl)
      exact ⟨r, x, st', F, κ, w', e1, by simp [builtin, e2], e3⟩
  · rename_i t ts x r
    intro h
    match vals, hl with
    | v :: vs, hl =>
      obtain ⟨k, hk, e⟩ := someK_inv h
      rw [e] at h ⊢
      obtain ⟨n, rfl, e⟩ := iT_inv h
      rw [e] at h ⊢
      have hv := ha 0 _ v rfl rfl
      cases hv with
      | t hv =>
      cases hv with
      | int hok =>
      obtain ⟨ns, e1, e2, e3⟩ := intsK_sound (κ := κ) (w := w) (F := F) (N := st.heap.length) (vs := vs) h (by simpa using hl) (fun i q u g1 g2 => ha (i + 1) q u (by simpa using g1) (by simpa using g2))
      rw [e1]
      have := foldlM_max (w := w) true E.P k ns n vs e2
      simp only [if_true, Bool.false_eq_true, if_false] at this
      exact ⟨_, _, _, F, κ, w, rfl, by simp [builtin, Builtin.max_, Builtin.min_, this], Next'.same h0 s ht (.t (.int (minmax_ok _ ns n hok e3)))⟩
  · rename_i t ts x r
    intro h
    match vals, hl with
    | v :: vs, hl =>
      obtain ⟨k, hk, e⟩ := someK_inv h
      rw [e] at h ⊢
      obtain ⟨n, rfl, e⟩ := iT_inv h
      rw [e] at h ⊢
      have hv := ha 0 _ v rfl rfl
      cases hv with
      | t hv =>
      cases hv with
      | int hok =>
      obtain ⟨ns, e1, e2, e3⟩ := intsK_sound (κ := κ) (w := w) (F := F) (N := st.heap.length) (vs := vs) h (by simpa using hl) (fun i q u g1 g2 => ha (i + 1) q u (by simpa using g1) (by simpa using g2))
      rw [e1]
      have := foldlM_max (w := w) false E.P k ns n vs e2
      simp only [if_true, Bool.false_eq_true, if_false] at this
      exact ⟨_, _, _, F, κ, w, rfl, by simp [builtin, Builtin.max_, Builtin.min_, this], Next'.same h0 s ht (.t (.int (minmax_ok _ ns n hok e3)))⟩
  · intro h; exact absurd rfl h

theorem apK_sound (hc : CallerOk E rc) {x : T} {v : Value} {ts : List T} {vals : List Value} {K : T → Res β} (h : apK E rc x ts K ≠ .stuck) (s : SI F κ w st.heap) (hx : Rd F w x v)
    (hl : vals.length = ts.length) (ha : ∀ (i : Nat) (x : T) (v : Value), ts[i]? = some x → vals[i]? = some v → Rd F w x v) :
    ∃ g vf vc, v = .func (.func g) vf vc ∧ Invokes E.P g (vf ++ vals.toArray ++ vc) w fun u w' => ∃ r F', apK E rc x ts K = K r ∧ Rd F' w' r u ∧ Grown F w F' w' := by
  unfold apK at h ⊢
  cases hx with
  | @fn g fs cs vf vc hlf hlc hrf hrc =>
    simp only [] at h ⊢
    obtain ⟨hm, e⟩ := cond_inv' h
    rw [e] at h ⊢
    refine ⟨g, _, _, rfl, ?_⟩
    have hall : ∀ (i : Nat) (x : T) (v : Value), (fs ++ ts ++ cs)[i]? = some x → (vf ++ vals ++ vc)[i]? = some v → Rd F w x v := by
      intro i x v g1 g2
      rcases Nat.lt_or_ge i fs.length with h1 | h1
      · rw [List.append_assoc, List.getElem?_append_left h1] at g1
        rw [List.append_assoc, List.getElem?_append_left (by omega)] at g2
        exact hrf i x v g1 g2
      · rw [List.append_assoc, List.getElem?_append_right h1] at g1
        rw [List.append_assoc, List.getElem?_append_right (by omega), hlf] at g2
        rcases Nat.lt_or_ge (i - fs.length) ts.length with h2 | h2
        · rw [List.getElem?_append_left h2] at g1
          rw [List.getElem?_append_left (by omega)] at g2
          exact ha _ x v g1 g2
        · rw [List.getElem?_append_right h2] at g1
          rw [List.getElem?_append_right (by omega), hl] at g2
          exact hrc _ x v g1 g2
    have := hc.pure g (fs ++ ts ++ cs) (bind_inv h) F w (vf ++ vals ++ vc) (by simp; omega) hall s.fl
    rw [show (vf ++ vals ++ vc).toArray = vf.toArray ++ vals.toArray ++ vc.toArray by simp] at this
    refine this.mono fun u w' => ?_
    rintro ⟨r, F', e1, ho, hg⟩
    rw [e1]
    refine ⟨r, F', rfl, ?_, hg⟩
    have hm0 : E.mode g = 0 := by simpa using hm
    cases ho with
    | frozen _ h => exact h
    | row h => omega
    | tup h => omega
  | _ => exact absurd rfl h

theorem opK_sound (hc : CallerOk E rc) {dr : Bool} {o : Oper} {K : PV → St → Res β} (h : opK E rc dr o st K ≠ .stuck) (h0 : N0 ≤ st.heap.length) (rel : Rel F κ st a w) {next : Act → World → Prop} {Q : Exit → Act → World → Prop}
    (hn : ∀ p u st' F' κ' w', opK E rc dr o st K = K p st' → Next' N0 F κ w st a.tmps p u F' κ' w' st' → next (a.put o.dst u) w') : o.wp E.P a w next Q := by
  have ht : TR F κ w st a.tmps := rel.tr
  have s := rel.si
  have ev : ∀ {t : TypeId} {x : Operand} {p : PV}, evalO E.P st.tmps t x = some p → RP F κ st.heap.length w p (a.eval x) := fun h => evalO_sound rel.tl ht h
  have evs : ∀ {ty : Nat → TypeId} {os : Array Operand} {j : Nat} {ps : List PV}, evalOs E.P st.tmps ty j os.toList = some ps → (os.map a.eval).toList.length = ps.length ∧ ∀ (i : Nat) (p : PV) (v : Value), ps[i]? = some p → (os.map a.eval).toList[i]? = some v → RP F κ st.heap.length w p v := fun h => by
    obtain ⟨a1, a2⟩ := evalOs_sound rel.tl ht h
    rw [Array.toList_map]
    exact ⟨by simp [a1], a2⟩
  have same : ∀ {p : PV} {u : Value}, RP F κ st.heap.length w p u → Next' N0 F κ w st a.tmps p u F κ w st := fun h => Next'.same h0 s ht h
  obtain ⟨dst, op, type, pos, after, guard⟩ := o
  unfold opK at h hn
  cases op
  case move x =>
    simp only [] at h hn
    obtain ⟨p, e1, e2⟩ := someK_inv h
    exact wp_value (by simp [execOp]) (hn _ _ _ _ _ _ e2 (same (ev e1)))
  case assign x =>
    simp only [] at h hn
    obtain ⟨p, e1, e2⟩ := someK_inv h
    exact wp_value (by simp [execOp]) (hn _ _ _ _ _ _ e2 (same (ev e1)))
  case pick c x y =>
    simp only [] at h hn
    obtain ⟨p, e1, e2⟩ := someK_inv h
    rw [e2] at h hn
    have hc := ev e1
    cases p with
    | t z =>
      simp only [] at h hn
      obtain ⟨b, rfl, e3⟩ := bT_inv h
      rw [e3] at h hn
      generalize hv : a.eval c = v at hc
      cases hc with
      | t hc =>
      cases hc with
      | bool =>
      cases b with
      | true =>
        simp only [cond_true] at h hn
        obtain ⟨p, e4, e5⟩ := someK_inv h
        exact wp_value (by simp [execOp, hv, asBool]) (hn _ _ _ _ _ _ e5 (same (ev e4)))
      | false =>
        simp only [cond_false] at h hn
        obtain ⟨p, e4, e5⟩ := someK_inv h
        exact wp_value (by simp [execOp, hv, asBool]) (hn _ _ _ _ _ _ e5 (same (ev e4)))
    | _ => exact absurd rfl h
  case alloc e =>
    simp only [] at h hn
    obtain ⟨n, e1, e2⟩ := someK_inv h
    rw [e2] at h hn
    obtain ⟨z, e3, e4⟩ := someK_inv h
    rw [e4] at h hn
    obtain ⟨g1, e5⟩ := chk_inv h
    simp only [Bool.and_eq_true] at g1
    obtain ⟨i, zv, i1, i2, i3⟩ := zero_of e3
    obtain ⟨w', κ', r1, r2⟩ := newVar_sound (E := E) (e := e) h0 s ht (pvConst_sound i3) g1.2
    exact wp_value (by simp [execOp, Instr.alloc, zeroValue, typeInfo, i1, i2, r1]) (hn _ _ _ _ _ _ e5 r2)
  case box e x =>
    simp only [] at h hn
    obtain ⟨n, e1, e2⟩ := someK_inv h
    rw [e2] at h hn
    obtain ⟨p, e3, e4⟩ := someK_inv h
    rw [e4] at h hn
    obtain ⟨g1, e5⟩ := chk_inv h
    obtain ⟨w', κ', r1, r2⟩ := newVar_sound (E := E) (e := e) h0 s ht (ev e3) g1
    exact wp_value (by simp [execOp, Instr.box, r1]) (hn _ _ _ _ _ _ e5 r2)
  case build t parts =>
    simp only [] at h hn
    obtain ⟨ps, e1, e2⟩ := someK_inv h
    rw [e2] at h hn
    obtain ⟨a1, a2⟩ := partsOf_sound rel.tl ht e1
    obtain ⟨q, u, e3, e4, e5⟩ := buildK_sound (vs := parts.map fun (i, x) => (i, a.eval x)) (F := F) (κ := κ) (N := st.heap.length) (w := w) h (by simp [a1]) (by simpa using a2)
    exact wp_value (by simp only [execOp, Sem.run_bind, e4, Result.andThen_ok, Sem.run_pure]) (hn _ _ _ _ _ _ e3 (same e5))
  case buildSlice t n parts =>
    simp only [] at h hn
    obtain ⟨ps, e1, e2⟩ := someK_inv h
    rw [e2] at h hn
    obtain ⟨a1, a2⟩ := partsOf_sound rel.tl ht e1
    obtain ⟨q, u, st', F', κ', w', e3, e4, e5, _⟩ := buildSliceK_sound (N0 := N0) (tm := a.tmps) (vs := parts.map fun (i, x) => (i, a.eval x)) h h0 s ht (by simp [a1]) (by simpa using a2)
    exact wp_value (by simp only [execOp, Sem.run_bind, e4, Result.andThen_ok, Sem.run_pure]) (hn _ _ _ _ _ _ e3 e5)
  case load t x =>
    simp only [] at h hn
    obtain ⟨p, e1, e2⟩ := someK_inv h
    rw [e2] at h hn
    obtain ⟨q, u, e3, e4, e5⟩ := loadK_sound h s (ev e1)
    exact wp_value (by simp only [execOp, Sem.run_bind, e4, Result.andThen_ok, Sem.run_pure]) (hn _ _ _ _ _ _ e3 (same e5))
  case store t x y =>
    simp only [] at h hn
    obtain ⟨p, e1, e2⟩ := someK_inv h
    rw [e2] at h hn
    obtain ⟨q, e3, e4⟩ := someK_inv h
    rw [e4] at h hn
    obtain ⟨st', F', w', e5, e6, e7⟩ := storeK_sound (N0 := N0) (tm := a.tmps) h h0 s ht (ev e1) (ev e3)
    unfold Oper.wp
    simp only [execOp, Sem.run_bind, e6, Result.andThen_ok, Sem.run_pure]
    exact hn _ _ _ _ _ _ e5 e7
  case nilCheck x =>
    simp only [] at h hn
    obtain ⟨p, e1, e2⟩ := someK_inv h
    rw [e2] at h hn
    have hp := ev e1
    have fin : ∀ (A : Addr), a.eval x = .pointer (some A) → (execOp a.eval ⟨dst, .nilCheck x, type, pos, after, guard⟩).run E.P w = .ok (.value (a.eval x)) w := fun A hA => by simp [execOp, hA]
    cases p with
    | ptr l o => generalize hv : a.eval x = v at hp fin; cases hp; exact wp_value (fin _ rfl) (hn _ _ _ _ _ _ rfl (same (hv ▸ ev e1)))
    | eptr l k i o => generalize hv : a.eval x = v at hp fin; cases hp; exact wp_value (fin _ rfl) (hn _ _ _ _ _ _ rfl (same (hv ▸ ev e1)))
    | rp k y o => generalize hv : a.eval x = v at hp fin; cases hp; exact wp_value (fin _ rfl) (hn _ _ _ _ _ _ rfl (same (hv ▸ ev e1)))
    | t y =>
      simp only [] at h hn
      obtain ⟨z, rfl, e3⟩ := ptrT_inv h
      rw [e3] at hn
      generalize hv : a.eval x = v at hp fin
      cases hp with
      | t hp =>
      obtain ⟨b, o, rfl⟩ := hp.ref_inv
      exact wp_value (fin _ rfl) (hn _ _ _ _ _ _ rfl (same (hv ▸ ev e1)))
    | _ => exact absurd rfl h
  case binOp op t x y t' =>
    simp only [] at h hn
    obtain ⟨p, e1, e2⟩ := someK_inv h
    rw [e2] at h hn
    obtain ⟨q, e3, e4⟩ := someK_inv h
    rw [e4] at h hn
    obtain ⟨r, u, e5, e6, e7⟩ := binK_sound h (ev e1) (ev e3) evalO_is evalO_is
    refine wp_value (u := u) (w' := w) ?_ (hn _ _ _ _ _ _ e5 (same e7))
    show (do pure (Next.value (← (do eqGuard op t x y (a.eval x) (a.eval y); binOp op t (a.eval x) (a.eval y) : Sem Value))) : Sem Next).run E.P w = _
    rw [Sem.run_bind, e6]
    rfl
  case unOp op t x =>
    simp only [] at h hn
    obtain ⟨p, e1, e2⟩ := someK_inv h
    rw [e2] at h hn
    obtain ⟨r, u, e5, e6, e7⟩ := unK_sound h (ev e1)
    exact wp_value (by simp only [execOp, Sem.run_bind, e6, Result.andThen_ok, Sem.run_pure]) (hn _ _ _ _ _ _ e5 (same e7))
  case convert t t' x =>
    simp only [] at h hn
    obtain ⟨p, e1, e2⟩ := someK_inv h
    rw [e2] at h hn
    obtain ⟨r, u, e5, e6, e7⟩ := convK_sound h (ev e1)
    exact wp_value (by simp only [execOp, Sem.run_bind, e6, Result.andThen_ok, Sem.run_pure]) (hn _ _ _ _ _ _ e5 (same e7))
  case makeInterface t x =>
    simp only [] at h hn
    obtain ⟨g1, e0⟩ := cond_inv h
    rw [e0] at h hn
    obtain ⟨p, e1, e2⟩ := someK_inv h
    rw [e2] at h hn
    obtain ⟨y, e3, e4⟩ := someK_inv h
    rw [e4] at h hn
    obtain ⟨F1, f1, f2, f3⟩ := Frz.rows s p.rows
    have hx : Rd F1 w y (a.eval x) := frz_sound s (ev e1) f1.fm e3 f2
    have hrun : (execOp a.eval ⟨dst, .makeInterface t x, type, pos, after, guard⟩).run E.P w = .ok (.value (.iface t (a.eval x))) w := by
      unfold concP at g1
      cases hu : E.P.underlying t with
      | none => simp [hu] at g1
      | some d => cases d <;> simp [hu] at g1 <;> simp [execOp, Instr.makeInterface, run_underlying hu]
    cases hr : p.rows.isEmpty with
    | true =>
      rw [hr] at h hn
      have : p.rows = [] := by simpa using hr
      refine wp_value hrun (hn _ _ _ F κ _ rfl (same (.t (.iface ?_))))
      exact frz_sound s (ev e1) (fun _ h => h) e3 (by rw [this]; simp)
    | false =>
      rw [hr] at h hn
      simp only [cond_false] at h hn
      obtain ⟨g2, e5⟩ := cond_inv h
      rw [e5] at hn
      exact wp_value hrun (hn _ _ _ F1 κ _ rfl (f1.next (β := β) h0 ht (.t (.iface hx))))
  case makeFunc fn first captured =>
    simp only [] at h hn
    obtain ⟨f, e1, e2⟩ := someK_inv h
    rw [e2] at h hn
    obtain ⟨fs, e3, e4⟩ := someK_inv h
    rw [e4] at h hn
    obtain ⟨cs, e5, e6⟩ := someK_inv h
    rw [e6] at h hn
    obtain ⟨a1, a2⟩ := evs e3
    obtain ⟨b1, b2⟩ := evs e5
    have hfn : fn = .func f := by cases fn <;> simp [funcOf] at e1; rw [e1]
    subst hfn
    have hrun : (execOp a.eval ⟨dst, .makeFunc (.func f) first captured, type, pos, after, guard⟩).run E.P w = .ok (.value (.func (.func f) (first.map a.eval).toList.toArray (captured.map a.eval).toList.toArray)) w := by simp only [execOp, Instr.makeFunc, Array.toArray_toList, Sem.run_bind, Sem.run_pure, Result.andThen_ok]
    cases hm : E.mcap f with
    | true =>
      rw [hm] at h hn
      exact wp_value hrun (hn _ _ _ _ _ _ rfl (same (.fn a1 b1 a2 b2)))
    | false =>
      rw [hm] at h hn
      simp only [cond_false] at h hn
      obtain ⟨⟨xs, H1⟩, e7, e8⟩ := someK_inv h
      rw [e8] at h hn
      simp only [] at h hn
      obtain ⟨⟨ys, H2⟩, e9, e10⟩ := someK_inv h
      rw [e10] at h hn
      obtain ⟨Fa, fa, x1, x2⟩ := captures_sound s a1 a2 e7
      obtain ⟨Fb, fb, y1, y2⟩ := captures_sound (vs := (captured.map a.eval).toList) fa.si b1 (fun i p v g1 g2 => by rw [fa.len]; exact (b2 i p v g1 g2).freeze fa.fm) e9
      exact wp_value hrun (hn _ _ _ Fb κ _ rfl ((fa.trans fb).next (β := β) h0 ht (.t (.fn (show _ = xs.length by rw [x1]; exact a1) (show _ = ys.length by rw [y1]; exact b1) (fun i x v g1 g2 => (x2 i x v g1 g2).mono fb.fm (fun _ _ => rfl)) y2))))
  case makeSlice t x y =>
    simp only [] at h hn
    obtain ⟨p, e1, e2⟩ := someK_inv h
    rw [e2] at h hn
    obtain ⟨q, e3, e4⟩ := someK_inv h
    rw [e4] at h hn
    obtain ⟨r, u, st', F', κ', w', e5, e6, e7⟩ := makeSliceK_sound (N0 := N0) (tm := a.tmps) h h0 s ht (ev e1) (ev e3)
    exact wp_value (by simp only [execOp, Sem.run_bind, e6, Result.andThen_ok, Sem.run_pure]) (hn _ _ _ _ _ _ e5 e7)
  case slice t x lo hi mx =>
    simp only [] at h hn
    obtain ⟨p, e1, e2⟩ := someK_inv h
    rw [e2] at h hn
    obtain ⟨q1, e3, e4⟩ := someK_inv h
    rw [e4] at h hn
    obtain ⟨q2, e5, e6⟩ := someK_inv h
    rw [e6] at h hn
    obtain ⟨q3, e7, e8⟩ := someK_inv h
    rw [e8] at h hn
    obtain ⟨r, u, st', F', e10, e11, e12⟩ := sliceK_sound (N0 := N0) (tm := a.tmps) h h0 s ht (ev e1) (optO_sound rel.tl ht e3) (optO_sound rel.tl ht e5) (optO_sound rel.tl ht e7)
    exact wp_value (by simp only [execOp, Sem.run_bind, e11, Result.andThen_ok, Sem.run_pure]) (hn _ _ _ _ _ _ e10 e12)
  case fieldAddr t x f =>
    simp only [] at h hn
    obtain ⟨p, e1, e2⟩ := someK_inv h
    rw [e2] at h hn
    obtain ⟨r, u, e5, e6, e7⟩ := fieldAddrK_sound h (ev e1)
    exact wp_value (by simp only [execOp, Sem.run_bind, e6, Result.andThen_ok, Sem.run_pure]) (hn _ _ _ _ _ _ e5 (same e7))
  case indexAddr t x y =>
    simp only [] at h hn
    obtain ⟨p, e1, e2⟩ := someK_inv h
    rw [e2] at h hn
    obtain ⟨q, e3, e4⟩ := someK_inv h
    rw [e4] at h hn
    obtain ⟨r, u, e5, e6, e7⟩ := indexK_sound h s (ev e1) (ev e3)
    exact wp_value (by simp only [execOp, Sem.run_bind, e6, Result.andThen_ok, Sem.run_pure]) (hn _ _ _ _ _ _ e5 (same e7))
  case index t x y =>
    simp only [] at h hn
    obtain ⟨p, e1, e2⟩ := someK_inv h
    rw [e2] at h hn
    obtain ⟨q, e3, e4⟩ := someK_inv h
    rw [e4] at h hn
    obtain ⟨r, u, e5, e6, e7⟩ := arrK_sound h (ev e1) (ev e3)
    exact wp_value (by simp only [execOp, Sem.run_bind, e6, Result.andThen_ok, Sem.run_pure]) (hn _ _ _ _ _ _ e5 (same e7))
  case field t x f =>
    simp only [] at h hn
    obtain ⟨p, e1, e2⟩ := someK_inv h
    rw [e2] at h hn
    obtain ⟨r, u, e5, e6, e7⟩ := fldK_sound h (ev e1)
    exact wp_value (by simp only [execOp, Sem.run_bind, e6, Result.andThen_ok, Sem.run_pure]) (hn _ _ _ _ _ _ e5 (same e7))
  case extract x i =>
    simp only [] at h hn
    obtain ⟨p, e1, e2⟩ := someK_inv h
    rw [e2] at h hn
    have hp := ev e1
    generalize hv : a.eval x = v at hp
    cases p with
    | tup ps =>
      simp only [] at h hn
      obtain ⟨q, e3, e4⟩ := someK_inv h
      cases hp with
      | @tup _ vs hl hr =>
        have hi : i < vs.length := by have := (List.getElem?_eq_some_iff.1 e3).1; omega
        exact wp_value (by simp [execOp, hv, Instr.extract, hi]) (hn _ _ _ _ _ _ e4 (same (hr i q _ e3 (List.getElem?_eq_getElem hi))))
    | t y =>
      simp only [] at h hn
      obtain ⟨l, z, rfl, e3, e4⟩ := compT_inv h
      cases hp with
      | t hp =>
      cases hp with
      | @tup _ vs hl hr =>
        have hi : i < vs.length := by have := (List.getElem?_eq_some_iff.1 e3).1; omega
        exact wp_value (by simp [execOp, hv, Instr.extract, hi]) (hn _ _ _ _ _ _ e4 (same (.t (hr i z _ e3 (List.getElem?_eq_getElem hi)))))
    | _ => exact absurd rfl h
  case call c =>
    obtain ⟨callee, cargs, argTypes⟩ := c
    simp only [] at h hn
    have direct : ∀ (f : FuncId) (args : List PV) (vals : List Value), callK E rc dr f args st K ≠ .stuck → (∀ p u st' F' κ' w', callK E rc dr f args st K = K p st' → Next' N0 F κ w st a.tmps p u F' κ' w' st' → next (a.put dst u) w') →
        vals.length = args.length → (∀ (i : Nat) (p : PV) (v : Value), args[i]? = some p → vals[i]? = some v → RP F κ st.heap.length w p v) →
        (execOp a.eval ⟨dst, .call ⟨callee, cargs, argTypes⟩, type, pos, after, guard⟩) = callFunc f vals.toArray → (⟨dst, .call ⟨callee, cargs, argTypes⟩, type, pos, after, guard⟩ : Oper).wp E.P a w next Q := by
      intro f args vals h1 h2 h3 h4 h5
      unfold Oper.wp
      rw [h5]
      exact (callK_sound (N0 := N0) (tm := a.tmps) hc h1 h0 s ht h3 h4).upon fun v w' ⟨p, st', F', κ', g1, g2⟩ => h2 p v st' F' κ' w' g1 g2
    cases callee with
    | builtin b =>
      simp only [] at h hn
      obtain ⟨args, e1, e2⟩ := someK_inv h
      rw [e2] at h hn
      obtain ⟨a1, a2⟩ := evs e1
      obtain ⟨p, u, st', F', κ', w', e3, e4, e5⟩ := builtinK_sound (ty := type) (consts := cargs.map fun | .const _ => true | _ => false) (N0 := N0) (tm := a.tmps) h h0 s ht a1 a2
      simp only [Array.toArray_toList] at e4
      refine wp_value (u := u) (w' := w') ?_ (hn _ _ _ _ _ _ e3 e5)
      simp only [execOp, resolve, invoke, Sem.run_bind, Sem.run_pure, Result.andThen_ok]
      exact e4
    | value fo =>
      have val : ∀ (h : (someK (evalO E.P st.tmps 0 fo) fun p => someK (evalOs E.P st.tmps (fun i => argTypes.getD i 0) 0 cargs.toList) fun args => match p with
          | .t x => someK (PV.frzs st.heap args) fun ts => bif (PV.rowss args).isEmpty then apK E rc x ts fun r => K (.t r) st else .stuck
          | .fn f fs cs => callK E rc dr f (fs ++ args ++ cs) st K
          | _ => .stuck) ≠ .stuck) (hn : ∀ p u st' F' κ' w', (someK (evalO E.P st.tmps 0 fo) fun p => someK (evalOs E.P st.tmps (fun i => argTypes.getD i 0) 0 cargs.toList) fun args => match p with
          | .t x => someK (PV.frzs st.heap args) fun ts => bif (PV.rowss args).isEmpty then apK E rc x ts fun r => K (.t r) st else .stuck
          | .fn f fs cs => callK E rc dr f (fs ++ args ++ cs) st K
          | _ => .stuck) = K p st' → Next' N0 F κ w st a.tmps p u F' κ' w' st' → next (a.put dst u) w'), (⟨dst, .call ⟨.value fo, cargs, argTypes⟩, type, pos, after, guard⟩ : Oper).wp E.P a w next Q := by
        intro h hn
        obtain ⟨p, e1, e2⟩ := someK_inv h
        rw [e2] at h hn
        obtain ⟨args, e3, e4⟩ := someK_inv h
        rw [e4] at h hn
        obtain ⟨a1, a2⟩ := evs e3
        have hp := ev e1
        generalize hv : a.eval fo = v at hp
        cases hp with
        | @t x _ hx =>
          simp only [] at h hn
          obtain ⟨ts, e5, e6⟩ := someK_inv h
          rw [e6] at h hn
          obtain ⟨g1, e7⟩ := cond_inv' h
          rw [e7] at h hn
          have hnr : PV.rowss args = [] := by simpa using g1
          obtain ⟨t1, t2⟩ := frzs_sound s a2 e5 (fun _ h => h) (by rw [hnr]; simp)
          obtain ⟨g, vf, vc, rfl, hi⟩ := apK_sound hc h s hx (vals := (cargs.map a.eval).toList) (by omega) t2
          unfold Oper.wp
          have : execOp a.eval ⟨dst, .call ⟨.value fo, cargs, argTypes⟩, type, pos, after, guard⟩ = callFunc g (vf ++ (cargs.map a.eval) ++ vc) := by simp [execOp, resolve, hv, Deferred.ofValue, invoke]
          rw [this]
          rw [Array.toArray_toList] at hi
          exact hi.upon fun u w' ⟨r, F', g1, g2, g3⟩ => hn _ _ _ F' κ w' g1 (g3.next h0 s ht (.t g2))
        | @fn f fs cs vf vc hlf hlc hrf hrc =>
          refine direct f (fs ++ args ++ cs) (vf ++ (cargs.map a.eval).toList ++ vc) h hn (by simp at a1 ⊢; omega) (fun i p v g1 g2 => ?_) ?_
          · rcases Nat.lt_or_ge i fs.length with h1 | h1
            · rw [List.append_assoc, List.getElem?_append_left h1] at g1
              rw [List.append_assoc, List.getElem?_append_left (by omega)] at g2
              exact hrf i p v g1 g2
            · rw [List.append_assoc, List.getElem?_append_right h1] at g1
              rw [List.append_assoc, List.getElem?_append_right (by omega), hlf] at g2
              rcases Nat.lt_or_ge (i - fs.length) args.length with h2 | h2
              · rw [List.getElem?_append_left h2] at g1
                rw [List.getElem?_append_left (by omega)] at g2
                exact a2 _ p v g1 g2
              · rw [List.getElem?_append_right h2] at g1
                rw [List.getElem?_append_right (by omega), a1] at g2
                exact hrc _ p v g1 g2
          · rw [show vf ++ (cargs.map a.eval).toList ++ vc = vf ++ cargs.toList.map a.eval ++ vc by rw [Array.toList_map], show (vf ++ cargs.toList.map a.eval ++ vc).toArray = vf.toArray ++ (cargs.toList.map a.eval).toArray ++ vc.toArray by simp, amap]
            simp [execOp, resolve, hv, Deferred.ofValue, invoke]
        | _ => exact absurd rfl h
      cases fo with
      | func f =>
        simp only [] at h hn
        obtain ⟨args, e1, e2⟩ := someK_inv h
        rw [e2] at h hn
        obtain ⟨a1, a2⟩ := evs e1
        exact direct f args _ h hn a1 a2 (by rw [Array.toArray_toList]; simp [execOp, resolve, Act.eval, Deferred.ofValue, invoke])
      | _ => exact val h hn
    | _ => exact absurd rfl h
  all_goals exact absurd rfl h
end
end Go.Sim
