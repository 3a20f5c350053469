/- Regions that draw their order: what stands beside each other may come in either order. -/
import Derived.Test.YtmidmdabmalhgaaD20
namespace Go.Sim
open Go.RowKit
set_option linter.unusedVariables false
set_option linter.unusedSimpArgs false
set_option linter.unusedSectionVars false

section
variable {β : Type} {E : Env} {rc : Caller} {tm tm' : List PV} {H : List AObj} {ops : Array Oper}

theorem evalO_same {P : Program} {ty : TypeId} {x : Operand} (h : ∀ t, x = .tmp t → tm'[t]? = tm[t]?) : evalO P tm' ty x = evalO P tm ty x := by
  cases x with
  | tmp t => simp only [evalO, List.getD_eq_getElem?_getD, h t rfl]
  | _ => rfl
theorem evalOs_same {P : Program} {ty : Nat → TypeId} : ∀ {xs : List Operand} {i : Nat}, (∀ x ∈ xs, ∀ t, x = .tmp t → tm'[t]? = tm[t]?) → evalOs P tm' ty i xs = evalOs P tm ty i xs
  | [], i, _ => rfl
  | x :: xs, i, h => by
    simp only [evalOs]
    rw [evalO_same (h x List.mem_cons_self), evalOs_same (fun y hy => h y (List.mem_cons_of_mem _ hy))]
theorem partsOf_same {P : Program} {ty : Nat → TypeId} : ∀ {xs : List (Nat × Operand)}, (∀ x ∈ xs, ∀ t, x.2 = .tmp t → tm'[t]? = tm[t]?) → partsOf P tm' ty xs = partsOf P tm ty xs
  | [], _ => rfl
  | (k, x) :: xs, h => by
    simp only [partsOf]
    rw [evalO_same (h (k, x) List.mem_cons_self), partsOf_same (fun y hy => h y (List.mem_cons_of_mem _ hy))]
theorem optO_same {P : Program} {x : Option Operand} (h : ∀ y, x = some y → ∀ t, y = .tmp t → tm'[t]? = tm[t]?) : optO P tm' x = optO P tm x := by
  cases x with
  | none => rfl
  | some y => simp only [optO, evalO_same (h y rfl)]

theorem sliceK_quiet {t : TypeId} {p : PV} {lo hi mx : Option PV} {K : PV → St → Res β} : sliceK E true ⟨tm', H⟩ t p lo hi mx K = sliceK E true ⟨tm, H⟩ t p lo hi mx fun q _ => K q ⟨tm', H⟩ := by
  unfold sliceK
  dsimp only
  split
  · rfl
  · split
    · rfl
    · split
      · cases mx <;> rfl
      · cases hr : p.rows.isEmpty with
        | false => rfl
        | true =>
          have : p.rows = [] := by simpa using hr
          simp only [this]
          cases mx <;> rfl
  · rfl
theorem buildSliceK_quiet {t : TypeId} {n : Nat} {ps : List (Nat × PV)} {K : PV → St → Res β} : buildSliceK E true ⟨tm', H⟩ t n ps K = buildSliceK E true ⟨tm, H⟩ t n ps fun q _ => K q ⟨tm', H⟩ := by
  unfold buildSliceK
  split
  · split
    · congr 1
      simp only []
      split
      · rfl
      · simp
    · rfl
  · rfl
theorem callK_quiet {f : FuncId} {args : List PV} {K : PV → St → Res β} : callK E rc true f args ⟨tm', H⟩ K = callK E rc true f args ⟨tm, H⟩ fun q _ => K q ⟨tm', H⟩ := by
  unfold callK
  split
  · unfold inplK
    simp only [Bool.not_true, Bool.false_and, cond_false]
  simp only []
  split
  · split
    · congr 1
    · rfl
    · rfl
  · rfl
theorem builtinK_quiet {b : Builtin} {tys : List TypeId} {args : List PV} {K : PV → St → Res β} (hb : (!(b matches .append) && !(b matches .clear) && !(b matches .copy)) = true) : builtinK E b tys args ⟨tm', H⟩ K = builtinK E b tys args ⟨tm, H⟩ fun q _ => K q ⟨tm', H⟩ := by
  unfold builtinK
  split
  · rfl
  · cases hb
  · cases hb
  · cases hb
  · rfl
  · rfl
  · rfl

theorem quiet_opK (hrc : rc.Nat) {o : Oper} (hq : quietOp o.op = true) (h : ∀ x ∈ o.op.operands, ∀ t, x = .tmp t → tm'[t]? = tm[t]?) (K : PV → St → Res β) :
    opK E rc true o ⟨tm', H⟩ K = (opK E rc true o ⟨tm, H⟩ fun p _ => .ok p).bind fun p => K p ⟨tm', H⟩ := by
  have := nat_opK (E := E) (st := ⟨tm, H⟩) (Strict.bind (β := PV) fun p => K p ⟨tm', H⟩) hrc true o fun p _ => .ok p
  rw [this]
  simp only [Res.bind_ok]
  clear this
  obtain ⟨dst, op, type, pos, after, guard⟩ := o
  cases op <;> simp only [quietOp, Bool.false_eq_true] at hq <;> simp only [Op.operands] at h <;> simp only [opK]
  case move x => rw [evalO_same (tm' := tm') (tm := tm) (h x (by simp))]
  case assign x => rw [evalO_same (tm' := tm') (tm := tm) (h x (by simp))]
  case pick c x y => rw [evalO_same (tm' := tm') (tm := tm) (h c (by simp)), evalO_same (tm' := tm') (tm := tm) (h x (by simp)), evalO_same (tm' := tm') (tm := tm) (h y (by simp))]
  case build t ps => rw [partsOf_same (tm' := tm') (tm := tm) (fun x hx => h x.2 (by simp; exact ⟨x.1, by simpa using hx⟩))]
  case buildSlice t n ps =>
    rw [partsOf_same (tm' := tm') (tm := tm) (fun x hx => h x.2 (by simp; exact ⟨x.1, by simpa using hx⟩))]
    congr 1; funext ps; exact buildSliceK_quiet
  case load t x => rw [evalO_same (tm' := tm') (tm := tm) (h x (by simp))]; rfl
  case nilCheck x => rw [evalO_same (tm' := tm') (tm := tm) (h x (by simp))]
  case binOp op t x y t' => rw [evalO_same (tm' := tm') (tm := tm) (h x (by simp)), evalO_same (tm' := tm') (tm := tm) (h y (by simp))]
  case unOp op t x => rw [evalO_same (tm' := tm') (tm := tm) (h x (by simp))]
  case convert s d x => rw [evalO_same (tm' := tm') (tm := tm) (h x (by simp))]
  case makeInterface t x =>
    rw [evalO_same (tm' := tm') (tm := tm) (h x (by simp))]
    simp only [cond_true]
  case slice t x lo hi mx =>
    rw [evalO_same (tm' := tm') (tm := tm) (h x (by simp)), optO_same (tm' := tm') (tm := tm) (x := lo) (fun y hy => h y (by subst hy; simp)), optO_same (tm' := tm') (tm := tm) (x := hi) (fun y hy => h y (by subst hy; simp)), optO_same (tm' := tm') (tm := tm) (x := mx) (fun y hy => h y (by subst hy; simp))]
    congr 1; funext p; congr 1; funext lo; congr 1; funext hi; congr 1; funext mx
    exact sliceK_quiet
  case fieldAddr t x f => rw [evalO_same (tm' := tm') (tm := tm) (h x (by simp))]
  case indexAddr t x y => rw [evalO_same (tm' := tm') (tm := tm) (h x (by simp)), evalO_same (tm' := tm') (tm := tm) (h y (by simp))]; rfl
  case index t x y => rw [evalO_same (tm' := tm') (tm := tm) (h x (by simp)), evalO_same (tm' := tm') (tm := tm) (h y (by simp))]
  case field t x f => rw [evalO_same (tm' := tm') (tm := tm) (h x (by simp))]
  case extract x i => rw [evalO_same (tm' := tm') (tm := tm) (h x (by simp))]
  case call c =>
    obtain ⟨callee, args, tys⟩ := c
    simp only [Call.operands] at h
    have hargs : ∀ x ∈ args.toList, ∀ t, x = .tmp t → tm'[t]? = tm[t]? := fun x hx => h x (by cases callee <;> simp <;> simp at hx <;> simp [hx])
    simp only [] at hq ⊢
    cases callee with
    | builtin b =>
      simp only []
      rw [evalOs_same (tm' := tm') (tm := tm) hargs]
      congr 1; funext args
      exact builtinK_quiet (by cases b <;> first | rfl | cases hq)
    | value fo =>
      have hfo : ∀ t, fo = .tmp t → tm'[t]? = tm[t]? := fun t ht => h fo (by simp) t ht
      cases fo with
      | func f =>
        simp only []
        rw [evalOs_same (tm' := tm') (tm := tm) hargs]
        congr 1
      | _ =>
        simp only []
        rw [evalO_same (tm' := tm') (tm := tm) hfo, evalOs_same (tm' := tm') (tm := tm) hargs]
        congr 1
    | _ => rfl

theorem mem_looksAt {o : Oper} {t : Tmp} (h : Operand.tmp t ∈ o.op.operands) : t ∈ o.looksAt ops :=
  List.mem_append_left _ (List.mem_filterMap.2 ⟨.tmp t, by simpa using h, rfl⟩)

theorem guardOf_same {o : Oper} (h : ∀ t ∈ o.looksAt ops, tm'[t]? = tm[t]?) : guardOf ops tm' o = guardOf ops tm o := by
  unfold guardOf
  cases hg : o.guard with
  | none => rfl
  | some jw =>
    obtain ⟨j, want⟩ := jw
    simp only []
    cases hd : (ops[j]?).bind (·.dst) with
    | none => rfl
    | some d =>
      have := h d (by unfold Oper.looksAt; rw [hg]; simp only []; rw [hd]; simp)
      simp only [List.getD_eq_getElem?_getD, this]

/-- A quiet step: the same wherever the slots it looks at are the same. -/
theorem quiet_step (hrc : rc.Nat) {o : Oper} (hq : quietOp o.op = true) {st1 : St} (h : opsK E rc ops [(o, true)] ⟨tm, H⟩ (fun s => (.ok s : Res St)) = .ok st1) :
    ∃ p, st1 = ⟨setT tm o.dst p, H⟩ ∧ ∀ tm', (∀ t ∈ o.looksAt ops, tm'[t]? = tm[t]?) → opsK E rc ops [(o, true)] ⟨tm', H⟩ (fun s => (.ok s : Res St)) = .ok ⟨setT tm' o.dst p, H⟩ := by
  rw [opsK_one] at h
  cases hg : guardOf ops tm o with
  | none => rw [hg] at h; cases h
  | some b =>
    rw [hg] at h
    cases b with
    | false =>
      simp only [opsK, Res.ok.injEq] at h
      refine ⟨undefV, h.symm, fun tm' hs => ?_⟩
      rw [opsK_one, guardOf_same hs, hg]
      rfl
    | true =>
      simp only [] at h
      rw [quiet_opK hrc hq (tm := tm) (fun _ _ _ _ => rfl)] at h
      cases hr : opK E rc true o ⟨tm, H⟩ fun p _ => (.ok p : Res PV) with
      | ok p =>
        rw [hr] at h
        simp only [Res.bind_ok, opsK, Res.ok.injEq] at h
        refine ⟨p, h.symm, fun tm' hs => ?_⟩
        rw [opsK_one, guardOf_same hs, hg]
        simp only []
        rw [quiet_opK hrc hq (tm := tm) (fun x hx t ht => hs t (mem_looksAt (ht ▸ hx))), hr]
        rfl
      | absurd => rw [hr] at h; cases h
      | stuck => rw [hr] at h; cases h

theorem setT_get {d : Option Tmp} {p : PV} {t : Tmp} (h : ∀ e, d = some e → e ≠ t) : (setT tm d p)[t]? = tm[t]? := by
  cases d with
  | none => rfl
  | some e => simp only [setT]; exact List.getElem?_set_ne (h e rfl)
theorem setT_comm {d e : Option Tmp} {p q : PV} (h : ∀ t, d = some t → e ≠ some t) : setT (setT tm d p) e q = setT (setT tm e q) d p := by
  cases d with
  | none => rfl
  | some t =>
    cases e with
    | none => rfl
    | some u => simp only [setT]; exact List.set_comm _ _ (fun e => h t rfl (by rw [e]))

/-- Two that are apart may change places. -/
theorem commute (hrc : rc.Nat) {x y : Oper} (hx : quietOp x.op = true) (hy : quietOp y.op = true) (hap : x.apart ops y = true) {st st1 st2 : St} (h1 : opsK E rc ops [(x, true)] st (fun s => (.ok s : Res St)) = .ok st1)
    (h2 : opsK E rc ops [(y, true)] st1 (fun s => (.ok s : Res St)) = .ok st2) :
    ∃ st1', opsK E rc ops [(y, true)] st (fun s => (.ok s : Res St)) = .ok st1' ∧ opsK E rc ops [(x, true)] st1' (fun s => (.ok s : Res St)) = .ok st2 := by
  obtain ⟨tm, H⟩ := st
  obtain ⟨a1, a2, a3⟩ := Oper.apart_spec hap
  obtain ⟨p, rfl, hp⟩ := quiet_step hrc hx h1
  obtain ⟨q, rfl, hq⟩ := quiet_step hrc hy h2
  refine ⟨⟨setT tm y.dst q, H⟩, hq tm (fun t ht => (setT_get fun e he => ?_).symm), ?_⟩
  · rintro rfl; exact a1 e he ht
  · rw [hp (setT tm y.dst q) (fun t ht => setT_get fun e he => ?_), setT_comm a2]
    rintro rfl; exact a3 e he ht

/-- All of them come to an end. -/
def runs (E : Env) (rc : Caller) (ops : Array Oper) (l : List (Oper × Bool)) (st st' : St) : Prop := opsK E rc ops l st (fun s => (.ok s : Res St)) = .ok st'

theorem opsK_split (hrc : rc.Nat) (x : Oper × Bool) (r : List (Oper × Bool)) (st : St) (K : St → Res β) : opsK E rc ops (x :: r) st K = (opsK E rc ops [x] st (fun s => (.ok s : Res St))).bind fun st' => opsK E rc ops r st' K := by
  obtain ⟨o, dr⟩ := x
  have := nat_opsK (E := E) (Strict.bind (β := St) fun st' => opsK E rc ops r st' K) hrc ops [(o, dr)] st fun s => .ok s
  rw [this, opsK_one, opsK_one]
  rfl
theorem runs_cons (hrc : rc.Nat) {x : Oper × Bool} {r : List (Oper × Bool)} {st st' : St} : runs E rc ops (x :: r) st st' ↔ ∃ st1, runs E rc ops [x] st st1 ∧ runs E rc ops r st1 st' := by
  unfold runs
  rw [opsK_split hrc]
  constructor
  · intro h
    cases h1 : opsK E rc ops [x] st (fun s => (.ok s : Res St)) with
    | ok s => rw [h1] at h; exact ⟨s, rfl, h⟩
    | absurd => rw [h1] at h; cases h
    | stuck => rw [h1] at h; cases h
  · rintro ⟨s, h1, h2⟩
    rw [h1]; exact h2

/-- One that stands beside all ahead of it may come first. -/
theorem runs_first (hrc : rc.Nat) {y : Oper × Bool} {l2 : List (Oper × Bool)} : ∀ {l1 : List (Oper × Bool)} {st st' : St}, (∀ x ∈ l1, x.2 = true ∧ y.2 = true ∧ quietOp x.1.op = true ∧ quietOp y.1.op = true ∧ x.1.apart ops y.1 = true) →
    runs E rc ops (l1 ++ y :: l2) st st' → ∃ st1, runs E rc ops [y] st st1 ∧ runs E rc ops (l1 ++ l2) st1 st'
  | [], st, st', _, h => (runs_cons hrc).1 h
  | x :: l1, st, st', hx, h => by
    obtain ⟨s1, h1, h2⟩ := (runs_cons hrc).1 h
    obtain ⟨s2, h3, h4⟩ := runs_first hrc (fun z hz => hx z (List.mem_cons_of_mem _ hz)) h2
    obtain ⟨g1, g2, g3, g4, g5⟩ := hx x List.mem_cons_self
    obtain ⟨x, bx⟩ := x
    obtain ⟨y, bY⟩ := y
    simp only at g1 g2 g3 g4 g5
    subst g1
    subst g2
    obtain ⟨s1', h5, h6⟩ := commute hrc g3 g4 g5 h1 h3
    exact ⟨s1', h5, (runs_cons hrc).2 ⟨s2, h6, h4⟩⟩
end
end Go.Sim
