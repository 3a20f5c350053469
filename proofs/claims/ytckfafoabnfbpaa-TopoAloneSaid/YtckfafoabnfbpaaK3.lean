/- The texts of a proof, one behind the other: an interpreter and its soundness, what the functions of the program answer, and plain laws on that. -/
import Derived.Test.YtckfafoabnfbpaaK2
import Derived.LoopN
import Derived.Scope
set_option linter.unusedVariables false
set_option linter.unusedSimpArgs false
set_option linter.unnecessarySimpa false
set_option linter.unusedSectionVars false
/- Regions that draw their order: what stands beside each other may come in either order. -/
namespace Go.Sim
open Go.RowKit
set_option linter.unusedVariables false
set_option linter.unusedSimpArgs false
set_option linter.unusedSectionVars false

section
variable {β : Type} {E : Env} {rc : Caller} {tm tm' : List PV} {H : List AObj} {ops : Array Oper}

theorem evalO_same {P : Program} {ty : TypeId} {x : Operand} (h : ∀ t, x = .tmp t → tm'[t]? = tm[t]?) : evalO P tm' ty x = evalO P tm ty x := by
  cases x with
  | tmp t => simp only [evalO, List.getD_eq_getElem?_getD, h t rfl]
  | _ => rfl
theorem evalOs_same {P : Program} {ty : Nat → TypeId} : ∀ {xs : List Operand} {i : Nat}, (∀ x ∈ xs, ∀ t, x = .tmp t → tm'[t]? = tm[t]?) → evalOs P tm' ty i xs = evalOs P tm ty i xs
  | [], i, _ => rfl
  | x :: xs, i, h => by
    simp only [evalOs]
    rw [evalO_same (h x List.mem_cons_self), evalOs_same (fun y hy => h y (List.mem_cons_of_mem _ hy))]
theorem partsOf_same {P : Program} {ty : Nat → TypeId} : ∀ {xs : List (Nat × Operand)}, (∀ x ∈ xs, ∀ t, x.2 = .tmp t → tm'[t]? = tm[t]?) → partsOf P tm' ty xs = partsOf P tm ty xs
  | [], _ => rfl
  | (k, x) :: xs, h => by
    simp only [partsOf]
    rw [evalO_same (h (k, x) List.mem_cons_self), partsOf_same (fun y hy => h y (List.mem_cons_of_mem _ hy))]
theorem optO_same {P : Program} {x : Option Operand} (h : ∀ y, x = some y → ∀ t, y = .tmp t → tm'[t]? = tm[t]?) : optO P tm' x = optO P tm x := by
  cases x with
  | none => rfl
  | some y => simp only [optO, evalO_same (h y rfl)]

theorem sliceK_quiet {t : TypeId} {p : PV} {lo hi mx : Option PV} {K : PV → St → Res β} : sliceK E true ⟨tm', H⟩ t p lo hi mx K = sliceK E true ⟨tm, H⟩ t p lo hi mx fun q _ => K q ⟨tm', H⟩ := by
  unfold sliceK
  dsimp only
  split
  · rfl
  · split
    · rfl
    · split
      · cases mx <;> rfl
      · cases hr : p.rows.isEmpty with
        | false => rfl
        | true =>
          have : p.rows = [] := by simpa using hr
          simp only [this]
          cases mx <;> rfl
  · rfl
theorem buildSliceK_quiet {t : TypeId} {n : Nat} {ps : List (Nat × PV)} {K : PV → St → Res β} : buildSliceK E true ⟨tm', H⟩ t n ps K = buildSliceK E true ⟨tm, H⟩ t n ps fun q _ => K q ⟨tm', H⟩ := by
  unfold buildSliceK
  split
  · split
    · congr 1
      simp only []
      split
      · rfl
      · simp
    · rfl
  · rfl
theorem builtinK_quiet {b : Builtin} {tys : List TypeId} {args : List PV} {K : PV → St → Res β} (hb : (!(b matches .append) && !(b matches .clear) && !(b matches .copy) && !(b matches .delete)) = true) : builtinK E b tys args ⟨tm', H⟩ K = builtinK E b tys args ⟨tm, H⟩ fun q _ => K q ⟨tm', H⟩ := by
  unfold builtinK
  split
  · rfl
  · cases hb
  · cases hb
  · cases hb
  · cases hb
  · rfl
  · rfl
  · rfl

theorem quiet_opK (hrc : rc.Nat) {o : Oper} (hq : quietOp o.op = true) (h : ∀ x ∈ o.op.operands, ∀ t, x = .tmp t → tm'[t]? = tm[t]?) (K : PV → St → Res β) :
    opK E rc true o ⟨tm', H⟩ K = (opK E rc true o ⟨tm, H⟩ fun p _ => .ok p).bind fun p => K p ⟨tm', H⟩ := by
  have := nat_opK (E := E) (st := ⟨tm, H⟩) (Strict.bind (β := PV) fun p => K p ⟨tm', H⟩) hrc true o fun p _ => .ok p
  rw [this]
  simp only [Res.bind_ok]
  clear this
  obtain ⟨dst, op, type, pos, after, guard⟩ := o
  cases op <;> simp only [quietOp, Bool.false_eq_true] at hq <;> simp only [Op.operands] at h <;> simp only [opK]
  case move x => rw [evalO_same (tm' := tm') (tm := tm) (h x (by simp))]
  case assign x => rw [evalO_same (tm' := tm') (tm := tm) (h x (by simp))]
  case pick c x y => rw [evalO_same (tm' := tm') (tm := tm) (h c (by simp)), evalO_same (tm' := tm') (tm := tm) (h x (by simp)), evalO_same (tm' := tm') (tm := tm) (h y (by simp))]
  case build t ps => rw [partsOf_same (tm' := tm') (tm := tm) (fun x hx => h x.2 (by simp; exact ⟨x.1, by simpa using hx⟩))]
  case buildSlice t n ps =>
    rw [partsOf_same (tm' := tm') (tm := tm) (fun x hx => h x.2 (by simp; exact ⟨x.1, by simpa using hx⟩))]
    congr 1; funext ps; exact buildSliceK_quiet
  case lookup t x ix ok => rw [evalO_same (tm' := tm') (tm := tm) (h x (by simp)), evalO_same (tm' := tm') (tm := tm) (h ix (by simp))]; rfl
  case load t x => rw [evalO_same (tm' := tm') (tm := tm) (h x (by simp))]; rfl
  case nilCheck x => rw [evalO_same (tm' := tm') (tm := tm) (h x (by simp))]
  case binOp op t x y t' => rw [evalO_same (tm' := tm') (tm := tm) (h x (by simp)), evalO_same (tm' := tm') (tm := tm) (h y (by simp))]
  case unOp op t x => rw [evalO_same (tm' := tm') (tm := tm) (h x (by simp))]
  case convert s d x => rw [evalO_same (tm' := tm') (tm := tm) (h x (by simp))]
  case makeInterface t x =>
    rw [evalO_same (tm' := tm') (tm := tm) (h x (by simp))]
    simp only [cond_true]
  case slice t x lo hi mx =>
    rw [evalO_same (tm' := tm') (tm := tm) (h x (by simp)), optO_same (tm' := tm') (tm := tm) (x := lo) (fun y hy => h y (by subst hy; simp)), optO_same (tm' := tm') (tm := tm) (x := hi) (fun y hy => h y (by subst hy; simp)), optO_same (tm' := tm') (tm := tm) (x := mx) (fun y hy => h y (by subst hy; simp))]
    congr 1; funext p; congr 1; funext lo; congr 1; funext hi; congr 1; funext mx
    exact sliceK_quiet
  case fieldAddr t x f => rw [evalO_same (tm' := tm') (tm := tm) (h x (by simp))]
  case indexAddr t x y => rw [evalO_same (tm' := tm') (tm := tm) (h x (by simp)), evalO_same (tm' := tm') (tm := tm) (h y (by simp))]; rfl
  case index t x y => rw [evalO_same (tm' := tm') (tm := tm) (h x (by simp)), evalO_same (tm' := tm') (tm := tm) (h y (by simp))]
  case field t x f => rw [evalO_same (tm' := tm') (tm := tm) (h x (by simp))]
  case extract x i => rw [evalO_same (tm' := tm') (tm := tm) (h x (by simp))]
  case call c =>
    obtain ⟨callee, args, tys⟩ := c
    simp only [Call.operands] at h
    have hargs : ∀ x ∈ args.toList, ∀ t, x = .tmp t → tm'[t]? = tm[t]? := fun x hx => h x (by cases callee <;> simp <;> simp at hx <;> simp [hx])
    simp only [] at hq ⊢
    cases callee with
    | builtin b =>
      simp only []
      rw [evalOs_same (tm' := tm') (tm := tm) hargs]
      congr 1; funext args
      exact builtinK_quiet (by cases b <;> first | rfl | cases hq)
    | value fo =>
      have hfo : ∀ t, fo = .tmp t → tm'[t]? = tm[t]? := fun t ht => h fo (by simp) t ht
      cases fo with
      | func f =>
        simp only []
        rw [evalOs_same (tm' := tm') (tm := tm) hargs]
        congr 1
      | _ =>
        simp only []
        rw [evalO_same (tm' := tm') (tm := tm) hfo, evalOs_same (tm' := tm') (tm := tm) hargs]
        congr 1
    | _ => rfl

theorem mem_looksAt {o : Oper} {t : Tmp} (h : Operand.tmp t ∈ o.op.operands) : t ∈ o.looksAt ops :=
  List.mem_append_left _ (List.mem_filterMap.2 ⟨.tmp t, by simpa using h, rfl⟩)

theorem guardOf_same {o : Oper} (h : ∀ t ∈ o.looksAt ops, tm'[t]? = tm[t]?) : guardOf ops tm' o = guardOf ops tm o := by
  unfold guardOf
  cases hg : o.guard with
  | none => rfl
  | some jw =>
    obtain ⟨j, want⟩ := jw
    simp only []
    cases hd : (ops[j]?).bind (·.dst) with
    | none => rfl
    | some d =>
      have := h d (by unfold Oper.looksAt; rw [hg]; simp only []; rw [hd]; simp)
      simp only [List.getD_eq_getElem?_getD, this]

/-- A quiet step: the same wherever the slots it looks at are the same. -/
theorem quiet_step (hrc : rc.Nat) {o : Oper} (hq : quietOp o.op = true) {st1 : St} (h : opsK E rc ops [(o, true)] ⟨tm, H⟩ (fun s => (.ok s : Res St)) = .ok st1) :
    ∃ p, st1 = ⟨setT tm o.dst p, H⟩ ∧ ∀ tm', (∀ t ∈ o.looksAt ops, tm'[t]? = tm[t]?) → opsK E rc ops [(o, true)] ⟨tm', H⟩ (fun s => (.ok s : Res St)) = .ok ⟨setT tm' o.dst p, H⟩ := by
  rw [opsK_one] at h
  cases hg : guardOf ops tm o with
  | none => rw [hg] at h; cases h
  | some b =>
    rw [hg] at h
    cases b with
    | false =>
      simp only [opsK, Res.ok.injEq] at h
      refine ⟨undefV, h.symm, fun tm' hs => ?_⟩
      rw [opsK_one, guardOf_same hs, hg]
      rfl
    | true =>
      simp only [] at h
      rw [quiet_opK hrc hq (tm := tm) (fun _ _ _ _ => rfl)] at h
      cases hr : opK E rc true o ⟨tm, H⟩ fun p _ => (.ok p : Res PV) with
      | ok p =>
        rw [hr] at h
        simp only [Res.bind_ok, opsK, Res.ok.injEq] at h
        refine ⟨p, h.symm, fun tm' hs => ?_⟩
        rw [opsK_one, guardOf_same hs, hg]
        simp only []
        rw [quiet_opK hrc hq (tm := tm) (fun x hx t ht => hs t (mem_looksAt (ht ▸ hx))), hr]
        rfl
      | absurd => rw [hr] at h; cases h
      | stuck => rw [hr] at h; cases h

theorem setT_get {d : Option Tmp} {p : PV} {t : Tmp} (h : ∀ e, d = some e → e ≠ t) : (setT tm d p)[t]? = tm[t]? := by
  cases d with
  | none => rfl
  | some e => simp only [setT]; exact List.getElem?_set_ne (h e rfl)
theorem setT_comm {d e : Option Tmp} {p q : PV} (h : ∀ t, d = some t → e ≠ some t) : setT (setT tm d p) e q = setT (setT tm e q) d p := by
  cases d with
  | none => rfl
  | some t =>
    cases e with
    | none => rfl
    | some u => simp only [setT]; exact List.set_comm _ _ (fun e => h t rfl (by rw [e]))

/-! ### an entry of a map that is made beside others -/
theorem eqLs_self : ∀ {l : List Nat} {xs : List T}, (∀ n ∈ l, n = 0) → xs.length = l.length → (∀ x ∈ xs, x.isInt = true) → T.eqLs l xs xs = some true
  | [], [], _, _, _ => rfl
  | [], _ :: _, _, h, _ => by simp at h
  | n :: l, [], _, h, _ => by simp at h
  | n :: l, x :: xs, h0, hl, hi => by
    obtain rfl := h0 n List.mem_cons_self
    have hx := hi x List.mem_cons_self
    cases x with
    | int k a =>
      have := eqLs_self (fun n hn => h0 n (List.mem_cons_of_mem _ hn)) (by simpa using hl) (fun x hx => hi x (List.mem_cons_of_mem _ hx))
      simp [T.eqLs, this]
    | _ => cases hx
theorem findE_push {l : List Nat} {k : T} {x : T} {c : Nat} (hk : T.eqLs l (k.flat l) (k.flat l) = some true) : ∀ {es : List (T × T × Nat)} {j : Nat}, findE l k es j = some none → findE l k (es ++ [(k, x, c)]) j = some (some (j + es.length, x, c))
  | [], j, _ => by simp [findE, hk]
  | e :: es, j, h => by
    unfold findE at h
    rw [List.cons_append]
    unfold findE
    cases hq : T.eqLs l (k.flat l) (e.1.flat l) with
    | none => simp [hq] at h
    | some b =>
      cases b with
      | true => simp [hq] at h
      | false =>
        simp only [hq] at h ⊢
        rw [findE_push hk h]
        simp; omega

/-- What 'mapEntryK' makes of memory, and what a lookup finds there. -/
theorem entry_make {t : TypeId} {p ix : PV} {r : Res β} {K : PV → St → Res β} (hr : mapEntryK E ⟨tm, H⟩ t p ix K = r) (h : r ≠ .stuck) :
    ∃ q H2, (∀ (tm' : List PV) {γ : Type} (K' : PV → St → Res γ), mapEntryK E ⟨tm', H⟩ t p ix K' = K' q ⟨tm', H2⟩) ∧ r = K q ⟨tm, H2⟩ ∧ ∀ (tm' : List PV) {γ : Type} (K' : PV → Res γ), lookupK E ⟨tm', H2⟩ t p ix false K' = lookupK E ⟨tm', H⟩ t p ix false K' := by
  subst hr
  unfold mapEntryK mapK at h ⊢
  obtain ⟨z, hz, e⟩ := someK_inv h
  rw [e] at h ⊢
  cases hm : mapP E.P t with
  | none => simp [hm] at h
  | some ke =>
    obtain ⟨kt, et⟩ := ke
    simp only [hm] at h ⊢
    obtain ⟨l, hl, e⟩ := someK_inv h
    rw [e] at h ⊢
    cases p with
    | mp m =>
      cases ix with
      | t k =>
        simp only [] at h ⊢
        cases ho : H[m]? with
        | none => simp [ho] at h
        | some o =>
          cases o with
          | map es c =>
            simp only [ho] at h ⊢
            obtain ⟨g1, e⟩ := chk_inv h
            rw [e] at h ⊢
            have hlt : m < H.length := (List.getElem?_eq_some_iff.1 ho).1
            rcases entK_inv h with ⟨hf, e⟩ | ⟨i, x, b, hf, e⟩
            · rw [e] at h ⊢
              obtain ⟨g2, e⟩ := chk_inv h
              rw [e]
              obtain ⟨k1, k2, k3⟩ := keyT_inv g1
              have h0 : ∀ n ∈ l, n = 0 := by cases keyP_ok hl with | int _ => simp | struct _ _ _ _ h => exact h
              have hs := findE_push (x := z) (c := c) (eqLs_self h0 k2 k3) hf
              refine ⟨_, _, fun tm' γ K' => ?_, rfl, fun tm' γ K' => ?_⟩
              · simp only [hz, someK, hm, hl, ho, g1, chk, cond_true, entK, hf, g2]
              · unfold lookupK mapK
                simp only [hz, someK, hm, hl, ho, g1, chk, cond_true, entK, hf, List.getElem?_set_self hlt, hs]
                rfl
            · rw [e] at h ⊢
              obtain ⟨g2, e⟩ := chk_inv h
              rw [e]
              refine ⟨_, H, fun tm' γ K' => ?_, rfl, fun tm' γ K' => rfl⟩
              simp only [hz, someK, hm, hl, ho, g1, chk, cond_true, entK, hf, g2]
          | _ => simp [ho] at h
      | _ => exact absurd rfl h
    | _ => exact absurd rfl h

/-- A step that does not look at memory. -/
theorem heapless_opK {o : Oper} (hq : heapless o.op = true) (K : PV → St → Res β) (H' : List AObj) : opK E rc true o ⟨tm, H'⟩ K = opK E rc true o ⟨tm, H⟩ fun p _ => K p ⟨tm, H'⟩ := by
  obtain ⟨dst, op, type, pos, after, guard⟩ := o
  cases op <;> first | rfl | cases hq
theorem heapless_quiet {o : Op} (h : heapless o = true) : quietOp o = true := by cases o <;> first | rfl | cases h

theorem commute_entry (hrc : rc.Nat) {x y : Oper} (hxy : entryPair x.op y.op = true) (hap : x.apart ops y = true) {st st1 st2 : St} (h1 : opsK E rc ops [(x, true)] st (fun s => (.ok s : Res St)) = .ok st1)
    (h2 : opsK E rc ops [(y, true)] st1 (fun s => (.ok s : Res St)) = .ok st2) :
    ∃ st1', opsK E rc ops [(y, true)] st (fun s => (.ok s : Res St)) = .ok st1' ∧ opsK E rc ops [(x, true)] st1' (fun s => (.ok s : Res St)) = .ok st2 := by
  obtain ⟨tm, H⟩ := st
  obtain ⟨a1, a2, a3⟩ := Oper.apart_spec hap
  obtain ⟨xd, xo, xt, xp, xa, xg⟩ := x
  obtain ⟨yd, yo, yt, yp, ya, yg⟩ := y
  cases yo <;> try exact absurd (show false = true from hxy) (by decide)
  rename_i t m k
  cases m <;> try exact absurd (show false = true from hxy) (by decide)
  rename_i m
  cases k <;> try exact absurd (show false = true from hxy) (by decide)
  rename_i k
  replace hxy : (heapless xo || lookSame t m k xo) = true := hxy
  have hqx : quietOp xo = true := by
    rw [Bool.or_eq_true] at hxy
    rcases hxy with h | h
    · exact heapless_quiet h
    · cases xo <;> first | rfl | exact absurd (show false = true from h) (by decide)
  obtain ⟨p, rfl, hp⟩ := quiet_step hrc hqx h1
  -- the flags and slots that 'y' looks at are the same ahead of 'x'
  have hsame : ∀ t ∈ Oper.looksAt ops ⟨yd, .mapEntry t (.tmp m) (.tmp k), yt, yp, ya, yg⟩, tm[t]? = (setT tm xd p)[t]? := fun t ht => (setT_get fun e he => by rintro rfl; exact a1 e he ht).symm
  have hgy := guardOf_same (ops := ops) (o := ⟨yd, .mapEntry t (.tmp m) (.tmp k), yt, yp, ya, yg⟩) hsame
  have hoy : ∀ s ∈ (Op.mapEntry t (.tmp m) (.tmp k)).operands, ∀ i, s = .tmp i → tm[i]? = (setT tm xd p)[i]? := fun s hs i hi => hsame i (mem_looksAt (hi ▸ hs))
  have xsame : ∀ q : PV, ∀ t ∈ Oper.looksAt ops ⟨xd, xo, xt, xp, xa, xg⟩, (setT tm yd q)[t]? = tm[t]? := fun q t ht => setT_get fun e he => by rintro rfl; exact a3 e he ht
  rw [opsK_one] at h2
  cases hg : guardOf ops (setT tm xd p) ⟨yd, .mapEntry t (.tmp m) (.tmp k), yt, yp, ya, yg⟩ with
  | none => rw [hg] at h2; cases h2
  | some b =>
    rw [hg] at h2
    cases b with
    | false =>
      simp only [opsK, Res.ok.injEq] at h2
      subst h2
      refine ⟨⟨setT tm yd undefV, H⟩, by rw [opsK_one, hgy, hg]; rfl, ?_⟩
      rw [hp _ (xsame undefV), setT_comm a2]
    | true =>
      simp only [opK] at h2
      obtain ⟨pm, em, f1⟩ := someK_inv (by rw [h2]; simp)
      rw [f1] at h2
      obtain ⟨pk, ek, f2⟩ := someK_inv (by rw [h2]; simp)
      rw [f2] at h2
      obtain ⟨q, H2, m1, m2, m3⟩ := entry_make h2 (by simp)
      simp only [opsK, Res.ok.injEq] at m2
      subst m2
      have em' : evalO E.P tm t (.tmp m) = some pm := by rw [← em]; exact evalO_same fun i hi => hoy _ (by simp [Op.operands]) i hi
      have ek' : evalO E.P tm 0 (.tmp k) = some pk := by rw [← ek]; exact evalO_same fun i hi => hoy _ (by simp [Op.operands]) i hi
      refine ⟨⟨setT tm yd q, H2⟩, ?_, ?_⟩
      · rw [opsK_one, hgy, hg]
        simp only [opK, em', ek', someK, m1, opsK]
      · -- 'x' at what 'y' has made
        have hx2 : opsK E rc ops [(⟨xd, xo, xt, xp, xa, xg⟩, true)] ⟨setT tm yd q, H2⟩ (fun s => (.ok s : Res St)) = .ok ⟨setT (setT tm yd q) xd p, H2⟩ := by
          have hx3 := hp _ (xsame q)
          rw [opsK_one] at hx3 ⊢
          cases hgx : guardOf ops (setT tm yd q) ⟨xd, xo, xt, xp, xa, xg⟩ with
          | none => rw [hgx] at hx3; cases hx3
          | some b =>
            rw [hgx] at hx3
            cases b with
            | false =>
              simp only [opsK, Res.ok.injEq, St.mk.injEq, and_true] at hx3 ⊢
              exact hx3
            | true =>
              have key : ∀ K : PV → St → Res St, opK E rc true ⟨xd, xo, xt, xp, xa, xg⟩ ⟨setT tm yd q, H2⟩ K = opK E rc true ⟨xd, xo, xt, xp, xa, xg⟩ ⟨setT tm yd q, H⟩ fun r _ => K r ⟨setT tm yd q, H2⟩ := fun K => by
                rw [Bool.or_eq_true] at hxy
                rcases hxy with h | h
                · exact heapless_opK h K H2
                · cases xo <;> try exact absurd (show false = true from h) (by decide)
                  rename_i t' mo ko ok
                  cases mo <;> try exact absurd (show false = true from h) (by decide)
                  rename_i mm
                  cases ko <;> try exact absurd (show false = true from h) (by decide)
                  rename_i kk
                  simp only [lookSame, Bool.and_eq_true, Bool.not_eq_true', beq_iff_eq] at h
                  obtain ⟨⟨⟨rfl, rfl⟩, rfl⟩, rfl⟩ := h
                  simp only [opK]
                  have em2 : evalO E.P (setT tm yd q) t' (.tmp mm) = some pm := by rw [← em']; exact evalO_same fun i hi => xsame q i (mem_looksAt (hi ▸ by simp [Op.operands]))
                  have ek2 : evalO E.P (setT tm yd q) 0 (.tmp kk) = some pk := by rw [← ek']; exact evalO_same fun i hi => xsame q i (mem_looksAt (hi ▸ by simp [Op.operands]))
                  simp only [em2, ek2, someK, m3]
              simp only [] at hx3 ⊢
              rw [key]
              rw [quiet_opK hrc hqx (tm := setT tm yd q) (fun _ _ _ _ => rfl)] at hx3 ⊢
              cases hr : opK E rc true ⟨xd, xo, xt, xp, xa, xg⟩ ⟨setT tm yd q, H⟩ fun p _ => (.ok p : Res PV) with
              | ok p' =>
                rw [hr] at hx3
                simp only [Res.bind_ok, opsK, Res.ok.injEq, St.mk.injEq, and_true] at hx3 ⊢
                exact hx3
              | absurd => rw [hr] at hx3; cases hx3
              | stuck => rw [hr] at hx3; cases hx3
        rw [hx2, setT_comm a2]

/-- What storing does to memory has nothing to do with the slots. -/
theorem storeK_make {t : TypeId} {p v : PV} {r : Res β} {K : St → Res β} (hr : storeK E ⟨tm, H⟩ t p v K = r) (h : r ≠ .stuck) :
    ∃ H1, r = K ⟨tm, H1⟩ ∧ ∀ (γ : Type) (tm' : List PV) (K' : St → Res γ), storeK E ⟨tm', H⟩ t p v K' = K' ⟨tm', H1⟩ := by
  subst hr
  unfold storeK at h ⊢
  cases hs : szP E.P t with
  | none => simp only [hs] at h; exact absurd rfl h
  | some s =>
  cases ha : aggP E.P t with
  | none => simp only [hs, ha] at h; exact absurd rfl h
  | some a =>
  simp only [hs, ha] at h ⊢
  cases h1 : !((a && decide (2 ≤ s)) || (!a && s == 1)) with
  | true => rw [h1] at h; exact absurd rfl h
  | false =>
  rw [h1] at h
  simp only [cond_false] at h ⊢
  cases h2 : v.okS s with
  | false => rw [h2] at h; exact absurd rfl h
  | true =>
  rw [h2] at h
  simp only [chk, cond_true] at h ⊢
  cases p with
  | ptr l o =>
    simp only [] at h ⊢
    cases h3 : H[l]? with
    | none => rw [h3] at h; exact absurd rfl h
    | some ob =>
    rw [h3] at h
    cases ob <;> try exact absurd rfl h
    rename_i e n w
    simp only [] at h ⊢
    cases h4 : o == 0 && s == n with
    | true => exact ⟨_, rfl, fun _ _ _ => rfl⟩
    | false =>
    rw [h4] at h
    simp only [cond_false] at h ⊢
    cases h5 : decide (o + s ≤ n) with
    | true => exact ⟨_, rfl, fun _ _ _ => rfl⟩
    | false => rw [h5] at h; exact absurd rfl h
  | eptr l k i o =>
    simp only [] at h ⊢
    cases h3 : H[l]? with
    | none => rw [h3] at h; exact absurd rfl h
    | some ob =>
    rw [h3] at h
    cases ob <;> try exact absurd rfl h
    rotate_left
    · rename_i e k' m xs
      simp only [] at h ⊢
      cases h4 : k' == k && decide (o + s ≤ k) with
      | true => exact ⟨_, rfl, fun _ _ _ => rfl⟩
      | false => rw [h4] at h; exact absurd rfl h
    rename_i e k' xs
    simp only [] at h ⊢
    cases h4 : !(k' == k) with
    | true => rw [h4] at h; exact absurd rfl h
    | false =>
    rw [h4] at h
    simp only [cond_false] at h ⊢
    cases h5 : v.frz H with
    | none => rw [h5] at h; exact absurd rfl h
    | some y =>
    rw [h5] at h
    simp only [someK] at h ⊢
    cases h6 : v.rows.contains l with
    | true => rw [h6] at h; exact absurd rfl h
    | false =>
    rw [h6] at h
    simp only [cond_false] at h ⊢
    cases h7 : o == 0 && s == k with
    | true =>
      rw [h7] at h
      simp only [cond_true] at h ⊢
      cases h8 : !(k == 1) || !y.isAgg with
      | true => exact ⟨_, rfl, fun _ _ _ => rfl⟩
      | false => rw [h8] at h; exact absurd rfl h
    | false =>
    rw [h7] at h
    simp only [cond_false] at h ⊢
    cases h8 : decide (o + s ≤ k) with
    | true => exact ⟨_, rfl, fun _ _ _ => rfl⟩
    | false => rw [h8] at h; exact absurd rfl h
  | _ => exact absurd rfl h
theorem elems_make {k : Nat} {x : PV} {ys : Res β} {K : List T → Res β} {z : β} (h : elemsK ⟨tm, H⟩ k x K = .ok z) : ∃ xs, K xs = .ok z ∧ ∀ (γ : Type) (tm' : List PV) (K' : List T → Res γ), elemsK ⟨tm', H⟩ k x K' = K' xs := by
  unfold elemsK at h ⊢
  cases x with
  | nil => exact ⟨[], h, fun _ _ _ => rfl⟩
  | own l =>
    simp only [] at h ⊢
    cases h1 : H[l]? with
    | none => rw [h1] at h; cases h
    | some ob =>
    rw [h1] at h
    cases ob <;> try cases h
    all_goals
      rename_i e k' xs
      simp only [] at h ⊢
      cases h2 : k' == k with
      | true => rw [h2] at h; exact ⟨xs, h, fun _ _ _ => rfl⟩
      | false => rw [h2] at h; cases h
  | view l k0 lo hi =>
    simp only [] at h ⊢
    cases h1 : H[l]? with
    | none => rw [h1] at h; cases h
    | some ob =>
    rw [h1] at h
    cases ob <;> try cases h
    all_goals
      rename_i e k' xs
      simp only [] at h ⊢
      cases h2 : k' == k && k0 == k && decide (lo ≤ hi) && decide (hi ≤ xs.length) with
      | true => rw [h2] at h; exact ⟨_, h, fun _ _ _ => rfl⟩
      | false => rw [h2] at h; cases h
  | full k' xs =>
    simp only [] at h ⊢
    cases h2 : k' == k with
    | true => rw [h2] at h; exact ⟨_, h, fun _ _ _ => rfl⟩
    | false => rw [h2] at h; cases h
  | t y =>
    simp only [] at h ⊢
    unfold slT at h ⊢
    cases y <;> try cases h
    rename_i k' xs
    simp only [] at h ⊢
    split at h
    · rename_i h2
      subst h2
      exact ⟨_, h, fun _ _ _ => by rw [if_pos rfl]⟩
    · cases h
  | _ => cases h
/-- What copying does to memory has nothing to do with the slots. -/
theorem copyK_make {t t' : TypeId} {p x : PV} {K : PV → St → Res β} {z : β} (h : copyK E ⟨tm, H⟩ t t' p x K = .ok z) :
    ∃ q H1, K q ⟨tm, H1⟩ = .ok z ∧ ∀ (γ : Type) (tm' : List PV) (K' : PV → St → Res γ), copyK E ⟨tm', H⟩ t t' p x K' = K' q ⟨tm', H1⟩ := by
  unfold copyK at h ⊢
  cases he : elP E.P t with
  | none => simp only [he] at h; cases h
  | some e =>
  cases hs : szP E.P e with
  | none => simp only [he, hs] at h; cases h
  | some s =>
  cases s with
  | zero => simp only [he, hs] at h; cases h
  | succ k =>
  simp only [he, hs] at h ⊢
  cases h1 : t == t' with
  | false => rw [h1] at h; cases h
  | true =>
  rw [h1] at h
  simp only [cond_true] at h ⊢
  obtain ⟨ys, h2, h3⟩ := elems_make (ys := .stuck) h
  simp only [h3]
  cases hr : rowView H p with
  | none => simp only [hr] at h2; cases h2
  | some v =>
  obtain ⟨l, k', a, b, f⟩ := v
  simp only [hr] at h2 ⊢
  cases h4 : H[l]? with
  | none => rw [h4] at h2; cases h2
  | some ob =>
  rw [h4] at h2
  cases ob <;> try cases h2
  rename_i e0 k0 xs
  simp only [] at h2 ⊢
  cases h5 : e0 == e && k0 == k + 1 && k' == k + 1 with
  | false => rw [h5] at h2; cases h2
  | true =>
  rw [h5] at h2
  simp only [cond_true] at h2 ⊢
  cases h6 : decide (a ≤ b) && decide (b ≤ xs.length) with
  | false => rw [h6] at h2; cases h2
  | true =>
  rw [h6] at h2
  exact ⟨_, _, h2, fun _ _ _ => rfl⟩
theorem builtin_copy {tys : List TypeId} {args : List PV} {st : St} {K : PV → St → Res β} {z : β} (h : builtinK E .copy tys args st K = .ok z) : ∃ t t' p x, tys = [t, t'] ∧ args = [p, x] := by
  match tys, args with
  | [t, t'], [p, x] => exact ⟨t, t', p, x, rfl, rfl⟩
  | [], _ => cases h
  | [_], _ => cases h
  | _ :: _ :: _ :: _, _ => cases h
  | [_, _], [] => cases h
  | [_, _], [_] => cases h
  | [_, _], _ :: _ :: _ :: _ => cases h
theorem builtin_copyK {t t' : TypeId} {p x : PV} {st : St} {K : PV → St → Res β} : builtinK E .copy [t, t'] [p, x] st K = copyK E st t t' p x K := rfl
theorem store_step {o : Oper} (hq : isStore o.op = true) {st1 : St} (h : opsK E rc ops [(o, true)] ⟨tm, H⟩ (fun s => (.ok s : Res St)) = .ok st1) :
    ∃ p H1, st1 = ⟨setT tm o.dst p, H1⟩ ∧ ∀ tm', (∀ t ∈ o.looksAt ops, tm'[t]? = tm[t]?) → opsK E rc ops [(o, true)] ⟨tm', H⟩ (fun s => (.ok s : Res St)) = .ok ⟨setT tm' o.dst p, H1⟩ := by
  rw [opsK_one] at h
  cases hg : guardOf ops tm o with
  | none => rw [hg] at h; cases h
  | some b =>
    rw [hg] at h
    cases b with
    | false =>
      simp only [opsK, Res.ok.injEq] at h
      refine ⟨undefV, H, h.symm, fun tm' hs => ?_⟩
      rw [opsK_one, guardOf_same hs, hg]
      rfl
    | true =>
      obtain ⟨dst, op, type, pos, after, guard⟩ := o
      cases op
      case store t a x =>
        simp only [opK] at h
        obtain ⟨pa, ea, f1⟩ := someK_inv (by rw [h]; simp)
        rw [f1] at h
        obtain ⟨px, ex, f2⟩ := someK_inv (by rw [h]; simp)
        rw [f2] at h
        obtain ⟨H1, m1, m2⟩ := storeK_make h (by simp)
        simp only [opsK, Res.ok.injEq] at m1
        refine ⟨undefV, H1, m1, fun tm' hs => ?_⟩
        have ea' : evalO E.P tm' 0 a = some pa := by rw [← ea]; exact evalO_same fun i hi => hs i (mem_looksAt (hi ▸ by simp [Op.operands]))
        have ex' : evalO E.P tm' t x = some px := by rw [← ex]; exact evalO_same fun i hi => hs i (mem_looksAt (hi ▸ by simp [Op.operands]))
        rw [opsK_one, guardOf_same hs, hg]
        simp only [opK, ea', ex', someK, m2, opsK]
      case call c =>
        obtain ⟨callee, args, argTypes⟩ := c
        cases callee <;> try exact absurd (show false = true from hq) (by decide)
        rename_i bi
        cases bi <;> try exact absurd (show false = true from hq) (by decide)
        simp only [opK] at h
        obtain ⟨ps, es, f1⟩ := someK_inv (by rw [h]; simp)
        rw [f1] at h
        have es' : ∀ tm' : List PV, (∀ t ∈ Oper.looksAt ops ⟨dst, .call ⟨.builtin .copy, args, argTypes⟩, type, pos, after, guard⟩, tm'[t]? = tm[t]?) → evalOs E.P tm' (fun i => argTypes.getD i 0) 0 args.toList = some ps := fun tm' hs => by
          rw [← es]; exact evalOs_same fun x hx i hi => hs i (mem_looksAt (hi ▸ by simpa [Op.operands, Call.operands] using hx))
        obtain ⟨t, t', p, x, e1, e2⟩ := builtin_copy h
        subst e2
        rw [e1, builtin_copyK] at h
        obtain ⟨q, H1, m1, m2⟩ := copyK_make h
        simp only [opsK, Res.ok.injEq] at m1
        refine ⟨q, H1, m1.symm, fun tm' hs => ?_⟩
        rw [opsK_one, guardOf_same hs, hg]
        simp only [opK, es' tm' hs, someK, e1]
        rw [builtin_copyK, m2]
        rfl
      all_goals exact absurd (show false = true from hq) (by decide)
theorem heapless_step (hrc : rc.Nat) {o : Oper} (hq : heapless o.op = true) {st1 : St} (h : opsK E rc ops [(o, true)] ⟨tm, H⟩ (fun s => (.ok s : Res St)) = .ok st1) :
    ∃ p, st1 = ⟨setT tm o.dst p, H⟩ ∧ ∀ tm' H', (∀ t ∈ o.looksAt ops, tm'[t]? = tm[t]?) → opsK E rc ops [(o, true)] ⟨tm', H'⟩ (fun s => (.ok s : Res St)) = .ok ⟨setT tm' o.dst p, H'⟩ := by
  obtain ⟨p, e, hp⟩ := quiet_step hrc (heapless_quiet hq) h
  refine ⟨p, e, fun tm' H' hs => ?_⟩
  have h2 := hp tm' hs
  rw [opsK_one] at h2 ⊢
  cases hg : guardOf ops tm' o with
  | none => rw [hg] at h2; cases h2
  | some b =>
    rw [hg] at h2
    cases b with
    | false =>
      simp only [opsK, Res.ok.injEq, St.mk.injEq, and_true] at h2 ⊢
      exact h2
    | true =>
      simp only [] at h2 ⊢
      rw [heapless_opK hq _ H']
      rw [quiet_opK hrc (heapless_quiet hq) (tm := tm') (fun _ _ _ _ => rfl)] at h2 ⊢
      cases hr : opK E rc true o ⟨tm', H⟩ fun p _ => (.ok p : Res PV) with
      | ok p' =>
        rw [hr] at h2
        simp only [Res.bind_ok, opsK, Res.ok.injEq, St.mk.injEq, and_true] at h2 ⊢
        exact h2
      | absurd => rw [hr] at h2; cases h2
      | stuck => rw [hr] at h2; cases h2
theorem commute_store (hrc : rc.Nat) {x y : Oper} (hxy : (isStore y.op && heapless x.op || isStore x.op && heapless y.op) = true) (hap : x.apart ops y = true) {st st1 st2 : St} (h1 : opsK E rc ops [(x, true)] st (fun s => (.ok s : Res St)) = .ok st1)
    (h2 : opsK E rc ops [(y, true)] st1 (fun s => (.ok s : Res St)) = .ok st2) :
    ∃ st1', opsK E rc ops [(y, true)] st (fun s => (.ok s : Res St)) = .ok st1' ∧ opsK E rc ops [(x, true)] st1' (fun s => (.ok s : Res St)) = .ok st2 := by
  obtain ⟨tm, H⟩ := st
  obtain ⟨a1, a2, a3⟩ := Oper.apart_spec hap
  have g1 : ∀ p, ∀ t ∈ y.looksAt ops, tm[t]? = (setT tm x.dst p)[t]? := fun p t ht => (setT_get fun e he => by rintro rfl; exact a1 e he ht).symm
  have g3 : ∀ q, ∀ t ∈ x.looksAt ops, (setT tm y.dst q)[t]? = tm[t]? := fun q t ht => setT_get fun e he => by rintro rfl; exact a3 e he ht
  rw [Bool.or_eq_true, Bool.and_eq_true, Bool.and_eq_true] at hxy
  rcases hxy with ⟨hy, hx⟩ | ⟨hx, hy⟩
  · obtain ⟨p, rfl, hp⟩ := heapless_step hrc hx h1
    obtain ⟨q, H1, rfl, hq⟩ := store_step hy h2
    exact ⟨⟨setT tm y.dst q, H1⟩, hq tm (g1 p), by rw [hp _ H1 (g3 q), setT_comm a2]⟩
  · obtain ⟨q, H1, rfl, hq⟩ := store_step hx h1
    obtain ⟨p, rfl, hp⟩ := heapless_step hrc hy h2
    exact ⟨⟨setT tm y.dst p, H⟩, hp tm H (g1 q), by rw [hq _ (g3 p), setT_comm a2]⟩

theorem get_more {H : List AObj} {b o : AObj} {l : Nat} (h : H[l]? = some o) : (H ++ [b])[l]? = some o := by
  rw [List.getElem?_append_left (List.getElem?_eq_some_iff.1 h).1]; exact h
theorem frz_more {H : List AObj} {b : AObj} {p : PV} {x : T} (h : p.frz H = some x) : p.frz (H ++ [b]) = some x :=
  frz_congr (fun l => ⟨fun e k xs h => .inl (get_more h), fun o h _ => get_more h⟩) p x h
theorem frzs_more {H : List AObj} {b : AObj} {ps : List PV} {xs : List T} (h : PV.frzs H ps = some xs) : PV.frzs (H ++ [b]) ps = some xs := by
  have h1 : (PV.tup ps).frz H = some (.tup xs) := by simp only [PV.frz, h, Option.map_some]
  have h2 := frz_more (b := b) h1
  simp only [PV.frz, Option.map_eq_some_iff] at h2
  obtain ⟨ys, h3, h4⟩ := h2
  injection h4 with h4
  rw [h3, h4]
theorem load_more {t : TypeId} {p : PV} {K : PV → Res β} {z : β} {b : AObj} (h : loadK E ⟨tm, H⟩ t p K = .ok z) : loadK E ⟨tm, H ++ [b]⟩ t p K = .ok z := by
  unfold loadK at h ⊢
  cases hs : szP E.P t with
  | none => simp only [hs] at h; cases h
  | some s =>
  cases ha : aggP E.P t with
  | none => simp only [hs, ha] at h; cases h
  | some a =>
  simp only [hs, ha] at h ⊢
  cases h1 : !((a && decide (2 ≤ s)) || (!a && s == 1)) with
  | true => rw [h1] at h; cases h
  | false =>
  rw [h1] at h
  simp only [cond_false] at h ⊢
  cases p with
  | ptr l o =>
    simp only [] at h ⊢
    cases h3 : H[l]? with
    | none => rw [h3] at h; cases h
    | some ob => rw [h3] at h; rw [get_more h3]; exact h
  | eptr l k i o =>
    simp only [] at h ⊢
    cases h3 : H[l]? with
    | none => rw [h3] at h; cases h
    | some ob => rw [h3] at h; rw [get_more h3]; exact h
  | _ => exact h
theorem index_more {t : TypeId} {p ix : PV} {K : PV → Res β} {z : β} {b : AObj} (h : indexK E ⟨tm, H⟩ t p ix K = .ok z) : indexK E ⟨tm, H ++ [b]⟩ t p ix K = .ok z := by
  unfold indexK at h ⊢
  cases he : elP E.P t with
  | none => simp only [he] at h; cases h
  | some e =>
  cases hs : szP E.P e with
  | none => simp only [he, hs] at h; cases h
  | some k =>
  simp only [he, hs] at h ⊢
  cases ix with
  | t iv =>
    simp only [] at h ⊢
    cases iv with
    | int kk i =>
      simp only [anyT] at h ⊢
      cases p with
      | own l =>
        simp only [] at h ⊢
        cases h3 : H[l]? with
        | none => rw [h3] at h; cases h
        | some ob => rw [h3] at h; rw [get_more h3]; exact h
      | view l k0 lo hi =>
        simp only [] at h ⊢
        cases h3 : H[l]? with
        | none => rw [h3] at h; cases h
        | some ob => rw [h3] at h; rw [get_more h3]; exact h
      | _ => exact h
    | _ => exact h
  | _ => exact h
theorem callK_more {f : FuncId} {args : List PV} {z : PV} {b : AObj} (h : callK E rc true f args ⟨tm, H⟩ (fun p _ => (.ok p : Res PV)) = .ok z) : callK E rc true f args ⟨tm, H ++ [b]⟩ (fun p _ => (.ok p : Res PV)) = .ok z := by
  unfold callK at h ⊢
  cases hi : E.inpl f with
  | some g =>
    simp only [hi] at h
    unfold inplK inplO at h
    simp only [Bool.not_true, Bool.false_and, cond_false] at h
    split at h
    · split at h <;> cases h
    · split at h
      · split at h <;> cases h
      · cases h
    · cases h
  | none =>
  simp only [hi] at h ⊢
  cases hf : (bif E.mode f == 3 then none else PV.frzs H args) with
  | none => simp only [hf, Bool.true_or, cond_true] at h; cases h
  | some ts =>
    have hm : (E.mode f == 3) = false := by
      cases hm : E.mode f == 3 with
      | true => rw [hm] at hf; cases hf
      | false => rfl
    rw [hm] at hf
    simp only [cond_false] at hf
    have hf2 : (bif E.mode f == 3 then none else PV.frzs (H ++ [b]) args) = some ts := by rw [hm]; exact frzs_more hf
    simp only [hm, cond_false, hf] at h
    simp only [hf2]
    split at h
    · rename_i hm0
      first | exact h | (simp only [hm0]; exact h)
    · cases h
    · cases h
theorem plain_quiet {o : Op} (h : plainOp o = true) : quietOp o = true := by
  cases o <;> first | rfl | cases h | skip
  rename_i c
  obtain ⟨callee, args, tys⟩ := c
  cases callee <;> first | rfl | cases h
theorem plain_more {o : Oper} (hq : plainOp o.op = true) {z : PV} {b : AObj} (h : opK E rc true o ⟨tm, H⟩ (fun p _ => (.ok p : Res PV)) = .ok z) : opK E rc true o ⟨tm, H ++ [b]⟩ (fun p _ => (.ok p : Res PV)) = .ok z := by
  obtain ⟨dst, op, type, pos, after, guard⟩ := o
  cases op
  case load t a =>
    simp only [opK] at h ⊢
    obtain ⟨p, e, f1⟩ := someK_inv (by rw [h]; simp)
    rw [f1] at h
    rw [e]
    exact load_more h
  case indexAddr t x ix =>
    simp only [opK] at h ⊢
    obtain ⟨p, e, f1⟩ := someK_inv (by rw [h]; simp)
    rw [f1] at h
    obtain ⟨q, e2, f2⟩ := someK_inv (by rw [h]; simp)
    rw [f2] at h
    rw [e, e2]
    exact index_more h
  case call c =>
    obtain ⟨callee, args, tys⟩ := c
    cases callee <;> try exact absurd (show false = true from hq) (by decide)
    rename_i fo
    cases fo <;> try exact absurd (show false = true from hq) (by decide)
    simp only [opK] at h ⊢
    obtain ⟨ps, e, f1⟩ := someK_inv (by rw [h]; simp)
    rw [f1] at h
    rw [e]
    exact callK_more h
  all_goals first | exact h | exact absurd (show false = true from hq) (by decide)
theorem plain_step (hrc : rc.Nat) {o : Oper} (hq : plainOp o.op = true) {p : PV} {b : AObj} (h : opsK E rc ops [(o, true)] ⟨tm, H⟩ (fun s => (.ok s : Res St)) = .ok ⟨setT tm o.dst p, H⟩) :
    opsK E rc ops [(o, true)] ⟨tm, H ++ [b]⟩ (fun s => (.ok s : Res St)) = .ok ⟨setT tm o.dst p, H ++ [b]⟩ := by
  rw [opsK_one] at h ⊢
  cases hg : guardOf ops tm o with
  | none => rw [hg] at h; cases h
  | some w =>
    rw [hg] at h
    cases w with
    | false =>
      simp only [opsK, Res.ok.injEq, St.mk.injEq, and_true] at h ⊢
      exact h
    | true =>
      simp only [] at h ⊢
      rw [quiet_opK hrc (plain_quiet hq) (tm := tm) (fun _ _ _ _ => rfl)] at h ⊢
      cases hr : opK E rc true o ⟨tm, H⟩ fun p _ => (.ok p : Res PV) with
      | ok p' =>
        rw [hr] at h
        rw [plain_more hq hr]
        simp only [Res.bind_ok, opsK, Res.ok.injEq, St.mk.injEq, and_true] at h ⊢
        exact h
      | absurd => rw [hr] at h; cases h
      | stuck => rw [hr] at h; cases h
theorem alloc_step {o : Oper} (hq : isAlloc o.op = true) {st1 : St} (h : opsK E rc ops [(o, true)] ⟨tm, H⟩ (fun s => (.ok s : Res St)) = .ok st1) :
    ∃ p H1, st1 = ⟨setT tm o.dst p, H1⟩ ∧ (H1 = H ∨ ∃ b, H1 = H ++ [b]) ∧ ∀ tm', (∀ t ∈ o.looksAt ops, tm'[t]? = tm[t]?) → opsK E rc ops [(o, true)] ⟨tm', H⟩ (fun s => (.ok s : Res St)) = .ok ⟨setT tm' o.dst p, H1⟩ := by
  rw [opsK_one] at h
  cases hg : guardOf ops tm o with
  | none => rw [hg] at h; cases h
  | some b =>
    rw [hg] at h
    cases b with
    | false =>
      simp only [opsK, Res.ok.injEq] at h
      refine ⟨undefV, H, h.symm, .inl rfl, fun tm' hs => ?_⟩
      rw [opsK_one, guardOf_same hs, hg]
      rfl
    | true =>
      obtain ⟨dst, op, type, pos, after, guard⟩ := o
      cases op
      case alloc e =>
        simp only [opK] at h
        obtain ⟨n, e1, f1⟩ := someK_inv (by rw [h]; simp)
        rw [f1] at h
        obtain ⟨z, e2, f2⟩ := someK_inv (by rw [h]; simp)
        rw [f2] at h
        cases hc : zeroOk E.P e n && z.okS n with
        | false => rw [hc] at h; cases h
        | true =>
          rw [hc] at h
          simp only [chk, cond_true, opsK, Res.ok.injEq] at h
          refine ⟨_, _, h.symm, .inr ⟨_, rfl⟩, fun tm' hs => ?_⟩
          rw [opsK_one, guardOf_same hs, hg]
          simp only [opK, e1, e2, someK, hc, chk, cond_true, opsK]
      all_goals exact absurd (show false = true from hq) (by decide)
theorem commute_alloc (hrc : rc.Nat) {x y : Oper} (hy : isAlloc y.op = true) (hx : plainOp x.op = true) (hap : x.apart ops y = true) {st st1 st2 : St} (h1 : opsK E rc ops [(x, true)] st (fun s => (.ok s : Res St)) = .ok st1)
    (h2 : opsK E rc ops [(y, true)] st1 (fun s => (.ok s : Res St)) = .ok st2) :
    ∃ st1', opsK E rc ops [(y, true)] st (fun s => (.ok s : Res St)) = .ok st1' ∧ opsK E rc ops [(x, true)] st1' (fun s => (.ok s : Res St)) = .ok st2 := by
  obtain ⟨tm, H⟩ := st
  obtain ⟨a1, a2, a3⟩ := Oper.apart_spec hap
  have g1 : ∀ p, ∀ t ∈ y.looksAt ops, tm[t]? = (setT tm x.dst p)[t]? := fun p t ht => (setT_get fun e he => by rintro rfl; exact a1 e he ht).symm
  have g3 : ∀ q, ∀ t ∈ x.looksAt ops, (setT tm y.dst q)[t]? = tm[t]? := fun q t ht => setT_get fun e he => by rintro rfl; exact a3 e he ht
  obtain ⟨p, rfl, hp⟩ := quiet_step hrc (plain_quiet hx) h1
  obtain ⟨q, H1, rfl, hH, hq⟩ := alloc_step hy h2
  refine ⟨⟨setT tm y.dst q, H1⟩, hq tm (g1 p), ?_⟩
  have h3 := hp _ (g3 q)
  rw [setT_comm a2]
  rcases hH with rfl | ⟨b, rfl⟩
  · exact h3
  · exact plain_step hrc hx h3

/-- Two that stand beside each other may change places. -/
theorem commute (hrc : rc.Nat) {x y : Oper} (hxy : (quietOp x.op && quietOp y.op || besidePair x.op y.op) = true) (hap : x.apart ops y = true) {st st1 st2 : St} (h1 : opsK E rc ops [(x, true)] st (fun s => (.ok s : Res St)) = .ok st1)
    (h2 : opsK E rc ops [(y, true)] st1 (fun s => (.ok s : Res St)) = .ok st2) :
    ∃ st1', opsK E rc ops [(y, true)] st (fun s => (.ok s : Res St)) = .ok st1' ∧ opsK E rc ops [(x, true)] st1' (fun s => (.ok s : Res St)) = .ok st2 := by
  rw [Bool.or_eq_true, Bool.and_eq_true] at hxy
  rcases hxy with ⟨hx, hy⟩ | hxy
  · obtain ⟨tm, H⟩ := st
    obtain ⟨a1, a2, a3⟩ := Oper.apart_spec hap
    obtain ⟨p, rfl, hp⟩ := quiet_step hrc hx h1
    obtain ⟨q, rfl, hq⟩ := quiet_step hrc hy h2
    refine ⟨⟨setT tm y.dst q, H⟩, hq tm (fun t ht => (setT_get fun e he => ?_).symm), ?_⟩
    · rintro rfl; exact a1 e he ht
    · rw [hp (setT tm y.dst q) (fun t ht => setT_get fun e he => ?_), setT_comm a2]
      rintro rfl; exact a3 e he ht
  · unfold besidePair at hxy
    rw [Bool.or_eq_true, Bool.or_eq_true] at hxy
    rcases hxy with (hxy | hxy) | hxy
    · exact commute_entry hrc hxy hap h1 h2
    · exact commute_store hrc hxy hap h1 h2
    · rw [Bool.and_eq_true] at hxy
      exact commute_alloc hrc hxy.1 hxy.2 hap h1 h2

/-- All of them come to an end. -/
def runs (E : Env) (rc : Caller) (ops : Array Oper) (l : List (Oper × Bool)) (st st' : St) : Prop := opsK E rc ops l st (fun s => (.ok s : Res St)) = .ok st'

theorem opsK_split (hrc : rc.Nat) (x : Oper × Bool) (r : List (Oper × Bool)) (st : St) (K : St → Res β) : opsK E rc ops (x :: r) st K = (opsK E rc ops [x] st (fun s => (.ok s : Res St))).bind fun st' => opsK E rc ops r st' K := by
  obtain ⟨o, dr⟩ := x
  have := nat_opsK (E := E) (Strict.bind (β := St) fun st' => opsK E rc ops r st' K) hrc ops [(o, dr)] st fun s => .ok s
  rw [this, opsK_one, opsK_one]
  rfl
theorem runs_cons (hrc : rc.Nat) {x : Oper × Bool} {r : List (Oper × Bool)} {st st' : St} : runs E rc ops (x :: r) st st' ↔ ∃ st1, runs E rc ops [x] st st1 ∧ runs E rc ops r st1 st' := by
  unfold runs
  rw [opsK_split hrc]
  constructor
  · intro h
    cases h1 : opsK E rc ops [x] st (fun s => (.ok s : Res St)) with
    | ok s => rw [h1] at h; exact ⟨s, rfl, h⟩
    | absurd => rw [h1] at h; cases h
    | stuck => rw [h1] at h; cases h
  · rintro ⟨s, h1, h2⟩
    rw [h1]; exact h2

/-- One that stands beside all ahead of it may come first. -/
theorem runs_first (hrc : rc.Nat) {y : Oper × Bool} {l2 : List (Oper × Bool)} : ∀ {l1 : List (Oper × Bool)} {st st' : St}, (∀ x ∈ l1, x.2 = true ∧ y.2 = true ∧ (quietOp x.1.op && quietOp y.1.op || besidePair x.1.op y.1.op) = true ∧ x.1.apart ops y.1 = true) →
    runs E rc ops (l1 ++ y :: l2) st st' → ∃ st1, runs E rc ops [y] st st1 ∧ runs E rc ops (l1 ++ l2) st1 st'
  | [], st, st', _, h => (runs_cons hrc).1 h
  | x :: l1, st, st', hx, h => by
    obtain ⟨s1, h1, h2⟩ := (runs_cons hrc).1 h
    obtain ⟨s2, h3, h4⟩ := runs_first hrc (fun z hz => hx z (List.mem_cons_of_mem _ hz)) h2
    obtain ⟨g1, g2, g3, g5⟩ := hx x List.mem_cons_self
    obtain ⟨x, bx⟩ := x
    obtain ⟨y, bY⟩ := y
    simp only at g1 g2 g3 g5
    subst g1
    subst g2
    obtain ⟨s1', h5, h6⟩ := commute hrc g3 g5 h1 h3
    exact ⟨s1', h5, (runs_cons hrc).2 ⟨s2, h6, h4⟩⟩
end
end Go.Sim

/- Regions that draw their order: any order does. -/
namespace Go.Sim
open Go.RowKit
set_option linter.unusedVariables false
set_option linter.unusedSimpArgs false
set_option linter.unusedSectionVars false

theorem edges_bits (acc : Array Nat) (j : Nat) : ∀ (es : List Edge) (s : Nat), (es.foldl (fun s e => if Region.binds .any e then s ||| 2 ^ e.on ||| acc.getD e.on 0 else s) s).testBit j = true →
    s.testBit j = true ∨ ∃ e ∈ es, Region.binds .any e = true ∧ (e.on = j ∨ (acc.getD e.on 0).testBit j = true)
  | [], s, h => .inl h
  | e :: es, s, h => by
    simp only [List.foldl_cons] at h
    rcases edges_bits acc j es _ h with h1 | ⟨e', h1, h2⟩
    · by_cases hb : Region.binds .any e = true
      · rw [if_pos hb] at h1
        simp only [Nat.testBit_or, Nat.testBit_two_pow, Bool.or_eq_true, decide_eq_true_eq] at h1
        rcases h1 with (h1 | h1) | h1
        · exact .inl h1
        · exact .inr ⟨e, List.mem_cons_self, hb, .inl h1⟩
        · exact .inr ⟨e, List.mem_cons_self, hb, .inr h1⟩
      · rw [if_neg hb] at h1; exact .inl h1
    · exact .inr ⟨e', List.mem_cons_of_mem _ h1, h2⟩

/-- What 'before' tells of number i. -/
def BefInv (ops : Array Oper) (acc : Array Nat) (k : Nat) : Prop := acc.size = k ∧ ∀ i, i < k → ∀ j, (acc.getD i 0).testBit j = true → ∃ o, ops[i]? = some o ∧ ∃ e ∈ o.after.toList, Region.binds .any e = true ∧ (e.on = j ∨ (e.on < i ∧ (acc.getD e.on 0).testBit j = true))

theorem before_aux (ops : Array Oper) : ∀ (rest : List Oper) (acc : Array Nat) (k : Nat), (∀ m, rest[m]? = ops[k + m]?) → BefInv ops acc k →
    BefInv ops (rest.foldl (fun acc o => acc.push (o.after.foldl (fun s e => if Region.binds .any e then s ||| 2 ^ e.on ||| acc.getD e.on 0 else s) 0)) acc) (k + rest.length)
  | [], acc, k, _, h => h
  | o :: rest, acc, k, hr, h => by
    simp only [List.foldl_cons, List.length_cons]
    rw [show k + (rest.length + 1) = (k + 1) + rest.length by omega]
    refine before_aux ops rest _ (k + 1) (fun m => by have := hr (m + 1); simpa [Nat.add_assoc, Nat.add_comm 1 m] using this) ⟨by simp [h.1], fun i hi j hj => ?_⟩
    have hget : ∀ x i, i < k → (acc.push x).getD i 0 = acc.getD i 0 := fun x i hi => by
      have : i < acc.size := by rw [h.1]; exact hi
      simp [Array.getD_eq_getD_getElem?, Array.getElem?_push, Nat.ne_of_lt this]
    by_cases e0 : i < k
    · rw [hget _ i e0] at hj
      obtain ⟨o', g1, e, g2, g3, g4⟩ := h.2 i e0 j hj
      refine ⟨o', g1, e, g2, g3, g4.imp id fun ⟨a, b⟩ => ⟨a, by rw [hget _ _ (by omega)]; exact b⟩⟩
    · have hik : i = k := by omega
      subst hik
      have ho : ops[i]? = some o := by simpa using (hr 0).symm
      have hlast : ∀ x, (acc.push x).getD i 0 = x := fun x => by simp [Array.getD_eq_getD_getElem?, ← h.1]
      rw [hlast, ← Array.foldl_toList] at hj
      rcases edges_bits acc j _ 0 hj with h1 | ⟨e, g2, g3, g4⟩
      · simp at h1
      · refine ⟨o, ho, e, g2, g3, g4.imp id fun g => ?_⟩
        have hlt : e.on < i := by
          rcases Nat.lt_or_ge e.on i with h1 | h1
          · exact h1
          · rw [Array.getD_eq_getD_getElem?, Array.getElem?_eq_none (by rw [h.1]; exact h1)] at g; simp at g
        exact ⟨hlt, by rw [hget _ _ hlt]; exact g⟩
theorem before_inv (ops : Array Oper) : BefInv ops (Region.before ops) ops.size := by
  have := before_aux ops ops.toList #[] 0 (by simp) ⟨rfl, fun i hi => by omega⟩
  simpa [Region.before] using this

def Closed (ops : Array Oper) (listed : Array Bool) : Prop := ∀ i o, ops[i]? = some o → listed.getD i false = true → ∀ e ∈ o.after.toList, Region.binds .any e = true → listed.getD e.on false = true

theorem before_listed {ops : Array Oper} {listed : Array Bool} (hcl : Closed ops listed) : ∀ n i, i < n → i < ops.size → ∀ j, (∀ o, ops[i]? = some o → ∀ e ∈ o.after.toList, Region.binds .any e = true → listed.getD e.on false = true) →
    ((Region.before ops).getD i 0).testBit j = true → listed.getD j false = true
  | 0, i, hi, _, _, _, _ => by omega
  | n + 1, i, hi, hs, j, he, hb => by
    obtain ⟨o, h1, e, h2, h3, h4⟩ := (before_inv ops).2 i hs j hb
    have hl := he o h1 e h2 h3
    rcases h4 with rfl | ⟨h4, h5⟩
    · exact hl
    · exact before_listed hcl n e.on (by omega) (by omega) j (fun o' ho' => hcl e.on o' ho' hl) h5

section
variable {β : Type} {E : Env} {rc : Caller} {st : St} {F : Nat → Prop} {κ : Nat → Value} {w : World} {N0 : Nat} {a : Act} {ops : Array Oper}

theorem Rel.drew (rel : Rel F κ st a w) : Rel F κ st a { w with drawn := w.drawn + 1 } := by
  have mono : ∀ {p : PV} {v : Value}, RP F κ st.heap.length w p v → RP F κ st.heap.length { w with drawn := w.drawn + 1 } p v := fun {p v} h => RP.mono (w := w) (w' := { w with drawn := w.drawn + 1 }) (fun _ h => h) (fun _ _ => rfl) h fun l hl => ⟨rfl, h.bound l hl⟩
  exact ⟨rel.tl, fun i p v h1 h2 => mono (rel.tr i p v h1 h2), rel.dn, rel.si.fresh (Nat.le_refl _) (fun _ _ => rfl) (fun _ h => h) (fun _ h => .inl h) rel.si.fl⟩

def flagged (ops : Array Oper) (i : Nat) : Oper × Bool := (ops.getD i default, beside (Region.before ops) ops.size i)
theorem drawFlags_eq : drawFlags ops = (List.range ops.size).map (flagged ops) := by
  unfold drawFlags flagged
  apply List.ext_getElem
  · simp
  · intro i h1 h2
    have hi : i < ops.size := by simpa using h2
    simp [Array.getD_eq_getD_getElem?, hi]

theorem drawOk_pair (hd : drawOk ops = true) {i j : Nat} (hi : i < ops.size) (hj : j < ops.size) (hij : i < j) (hb : ((Region.before ops).getD j 0).testBit i = false) :
    (flagged ops i).2 = true ∧ (flagged ops j).2 = true ∧ (quietOp (flagged ops i).1.op && quietOp (flagged ops j).1.op || besidePair (flagged ops i).1.op (flagged ops j).1.op) = true ∧ (flagged ops i).1.apart ops (flagged ops j).1 = true := by
  unfold drawOk at hd
  simp only [Bool.and_eq_true, List.all_eq_true] at hd
  have hm : ∀ i, i < ops.size → (ops.getD i default, i) ∈ ops.toList.zipIdx := fun i hi => by
    rw [List.mem_zipIdx_iff_getElem?]
    simp [Array.getD_eq_getD_getElem?, hi]
  have := hd.2 _ (hm j hj) _ (hm i hi)
  simp only [hij, decide_true, Bool.not_true, Bool.false_or, hb] at this
  rw [Bool.and_eq_true, Bool.and_eq_true, Bool.not_eq_true'] at this
  obtain ⟨⟨h1, h2⟩, h4⟩ := this
  have hbs : ∀ x y, y < ops.size → x ≠ y → ordered (Region.before ops) x y = false → beside (Region.before ops) ops.size x = true := by
    intro x y hy hne ho
    unfold beside
    rw [List.any_eq_true]
    exact ⟨y, List.mem_range.2 hy, by simp [hne, ho]⟩
  exact ⟨hbs i j hj (by omega) (by unfold ordered; rw [h1, hb]; rfl), hbs j i hi (by omega) (by unfold ordered; rw [h1, hb]; rfl), h2, h4⟩

theorem any_sound (hc : CallerOk E rc) (hd : drawOk ops = true) {Q : Exit → Act → World → Prop} {st0 stf : St} {F0 : Nat → Prop} {κ0 : Nat → Value} {w0 : World}
    (hq : ∀ F' κ' a' w', Rel F' κ' stf a' w' → EvD N0 F0 κ0 w0 st0.heap F' κ' w' stf.heap → Q .normal a' w') : ∀ (fuel : Nat) (listed : Array Bool) (u : List Nat) (st : St) (F : Nat → Prop) (κ : Nat → Value) (a : Act) (w : World),
    listed.size = ops.size → u.Pairwise (· < ·) → (∀ i, i ∈ u ↔ i < ops.size ∧ listed.getD i true = false) → u.length ≤ fuel → Closed ops listed → runs E rc ops (u.map (flagged ops)) st stf → Rel F κ st a w → EvD N0 F0 κ0 w0 st0.heap F κ w st.heap →
    wpAny E.P .any ops Q fuel listed a w := by
  have done : ∀ (st : St) (F : Nat → Prop) (κ : Nat → Value) (a : Act) (w : World), runs E rc ops [] st stf → Rel F κ st a w → EvD N0 F0 κ0 w0 st0.heap F κ w st.heap → Q .normal a w := by
    intro st F κ a w hr rel ev
    simp only [runs, opsK, Res.ok.injEq] at hr
    subst hr
    exact hq F κ a w rel ev
  have hready : ∀ (listed : Array Bool) (i : Nat), i ∈ Region.ready .any ops listed ↔ i < ops.size ∧ listed.getD i true = false ∧ ∀ o, ops[i]? = some o → ∀ e ∈ o.after.toList, Region.binds .any e = true → listed.getD e.on false = true := by
    intro listed i
    simp only [Region.ready, List.mem_filter, List.mem_range, Bool.and_eq_true, Bool.not_eq_true']
    constructor
    · rintro ⟨h1, h2, h3⟩
      refine ⟨h1, h2, fun o ho e he hb => ?_⟩
      rw [ho] at h3
      simp only [Option.map_some, Option.getD_some, Array.all_eq_true_iff_forall_mem] at h3
      have := h3 e (by simpa using he)
      simpa [hb] using this
    · rintro ⟨h1, h2, h3⟩
      refine ⟨h1, h2, ?_⟩
      rw [Array.getElem?_eq_getElem h1]
      simp only [Option.map_some, Option.getD_some, Array.all_eq_true_iff_forall_mem]
      intro e he
      cases hb : Region.binds .any e with
      | false => rfl
      | true => simpa using h3 _ (Array.getElem?_eq_getElem h1) e (by simpa using he) hb
  -- while something is left, something is ready
  have hmin : ∀ (listed : Array Bool) (u : List Nat), listed.size = ops.size → u.Pairwise (· < ·) → (∀ i, i ∈ u ↔ i < ops.size ∧ listed.getD i true = false) → Region.ready .any ops listed = [] → u = [] := by
    intro listed u hsz hp hu hr
    cases u with
    | nil => rfl
    | cons i u =>
      exfalso
      have hi := (hu i).1 List.mem_cons_self
      have : i ∈ Region.ready .any ops listed := by
        rw [hready]
        refine ⟨hi.1, hi.2, fun o ho e he hb => ?_⟩
        have hlt : e.on < i := by
          unfold drawOk at hd
          simp only [Bool.and_eq_true, List.all_eq_true] at hd
          have := hd.1 (o, i) (by rw [List.mem_zipIdx_iff_getElem?]; simpa using ho)
          simp only [Array.all_eq_true_iff_forall_mem] at this
          have := this e (by simpa using he)
          simpa [hb] using this
        have hs : e.on < listed.size := by omega
        cases hl : listed.getD e.on false with
        | true => rfl
        | false =>
          have hmem : e.on ∈ i :: u := (hu e.on).2 ⟨by omega, by
            rw [Array.getD_eq_getD_getElem?, Array.getElem?_eq_getElem hs] at hl ⊢; exact hl⟩
          rcases List.mem_cons.1 hmem with h1 | h1
          · omega
          · have := (List.pairwise_cons.1 hp).1 e.on h1; omega
      rw [hr] at this
      cases this
  intro fuel
  induction fuel with
  | zero =>
    intro listed u st F κ a w hsz hp hu hl hcl hr rel ev
    have : u = [] := List.eq_nil_of_length_eq_zero (by omega)
    subst this
    refine ⟨?_, done st F κ a w hr rel ev⟩
    cases hrd : Region.ready .any ops listed with
    | nil => rfl
    | cons i l =>
      have h1 : i ∈ Region.ready .any ops listed := by rw [hrd]; exact List.mem_cons_self
      rw [hready] at h1
      exact absurd ((hu i).2 ⟨h1.1, h1.2.1⟩) (by simp)
  | succ fuel ih =>
    intro listed u st F κ a w hsz hp hu hl hcl hr rel ev
    refine ⟨fun hrd => ?_, fun i hi => ?_⟩
    · have := hmin listed u hsz hp hu hrd
      subst this
      exact done st F κ a w hr rel ev
    · rw [hready] at hi
      obtain ⟨hi1, hi2, hi3⟩ := hi
      obtain ⟨u1, u2, rfl⟩ := List.append_of_mem ((hu i).2 ⟨hi1, hi2⟩)
      have hp' := List.pairwise_append.1 hp
      have hp2 := List.pairwise_cons.1 hp'.2.1
      have hlt1 : ∀ x ∈ u1, x < i := fun x hx => hp'.2.2 x hx i List.mem_cons_self
      rw [List.map_append, List.map_cons] at hr
      obtain ⟨st1, r1, r2⟩ := runs_first hc.nat (fun x hx => by
        obtain ⟨j, hj, rfl⟩ := List.mem_map.1 hx
        have hju := (hu j).1 (List.mem_append_left _ hj)
        refine drawOk_pair hd hju.1 hi1 (hlt1 j hj) ?_
        cases hb : ((Region.before ops).getD i 0).testBit j with
        | false => rfl
        | true =>
          have := before_listed hcl (i + 1) i (Nat.lt_succ_self _) hi1 j hi3 hb
          have hs : j < listed.size := by omega
          have h2 := hju.2
          rw [Array.getD_eq_getD_getElem?, Array.getElem?_eq_getElem hs] at this h2
          simp only [Option.getD_some] at this h2
          rw [this] at h2
          cases h2) hr
      have hop : ops[i]? = some (ops.getD i default) := by simp [Array.getD_eq_getD_getElem?, hi1]
      have next : ∀ (F' : Nat → Prop) (κ' : Nat → Value) (a' : Act) (w' : World), Rel F' κ' st1 a' w' → EvD N0 F0 κ0 w0 st0.heap F' κ' w' st1.heap → wpAny E.P .any ops Q fuel (listed.setIfInBounds i true) a' w' := by
        intro F' κ' a' w' rel' ev'
        refine ih (listed.setIfInBounds i true) (u1 ++ u2) st1 F' κ' a' w' (by simp [hsz]) ?_ (fun j => ?_) (by simp at hl ⊢; omega) (fun j o ho hj e he hb => ?_) (by rw [List.map_append]; exact r2) rel' ev'
        · exact List.pairwise_append.2 ⟨hp'.1, hp2.2, fun x hx y hy => hp'.2.2 x hx y (List.mem_cons_of_mem _ hy)⟩
        · have := hu j
          simp only [List.mem_append, List.mem_cons] at this ⊢
          by_cases e : j = i
          · subst e
            rw [Array.getD_eq_getD_getElem?, Array.getElem?_setIfInBounds_self_of_lt (by omega)]
            simp only [Option.getD_some]
            constructor
            · rintro (h | h)
              · have := hlt1 j h; omega
              · have := hp2.1 j h; omega
            · rintro ⟨_, h⟩; cases h
          · rw [Array.getD_eq_getD_getElem?, Array.getElem?_setIfInBounds_ne (fun h => e h.symm), ← Array.getD_eq_getD_getElem?, ← this]
            constructor
            · rintro (h | h)
              · exact .inl h
              · exact .inr (.inr h)
            · rintro (h | h | h)
              · exact .inl h
              · exact absurd h e
              · exact .inr h
        · have keep : ∀ m, listed.getD m false = true → (listed.setIfInBounds i true).getD m false = true := fun m hm => by
            by_cases e : m = i
            · subst e; rw [Array.getD_eq_getD_getElem?, Array.getElem?_setIfInBounds_self_of_lt (by omega)]; rfl
            · rw [Array.getD_eq_getD_getElem?, Array.getElem?_setIfInBounds_ne (fun h => e h.symm), ← Array.getD_eq_getD_getElem?]; exact hm
          by_cases e0 : j = i
          · subst e0; exact keep _ (hi3 o ho e he hb)
          · rw [Array.getD_eq_getD_getElem?, Array.getElem?_setIfInBounds_ne (fun h => e0 h.symm), ← Array.getD_eq_getD_getElem?] at hj
            exact keep _ (hcl j o ho hj e he hb)
      unfold wpOp
      rw [hop]
      simp only []
      have r1' : opsK E rc ops [((ops.getD i default), (flagged ops i).2)] st (fun s => (.ok s : Res St)) = .ok st1 := r1
      rw [opsK_one] at r1'
      cases hg : guardOf ops st.tmps (ops.getD i default) with
      | none => rw [hg] at r1'; cases r1'
      | some b =>
        rw [hg] at r1'
        rw [guard_wanted rel hg]
        cases b with
        | true =>
          simp only [if_true] at r1' ⊢
          refine .inl (opK_sound (N0 := N0) (K := fun p st' => opsK E rc ops [] ⟨setT st'.tmps (ops.getD i default).dst p, st'.heap⟩ (fun s => (.ok s : Res St))) hc (by rw [r1']; simp) (by exact ev.hl) rel fun p v st' F' κ' w' e hn hdr => ?_)
          rw [r1'] at e
          simp only [opsK, Res.ok.injEq] at e
          subst e
          exact next F' κ' _ w' (hn.rel rel _) (ev.trans ⟨hn.ev, hdr⟩)
        | false =>
          simp only [Bool.false_eq_true, if_false, opsK, Res.ok.injEq] at r1' ⊢
          subst r1'
          exact next F κ _ w (rel.skip _) ev

theorem draw_sound (hm : E.P.follows .mixedOrders = true) (hc : CallerOk E rc) (hd : drawOk ops = true) {id : Nat} {Q : Exit → Act → World → Prop} {K : St → Res β} (h : opsK E rc ops (drawFlags ops) st K ≠ .stuck) (h0 : N0 ≤ st.heap.length) (rel : Rel F κ st a w)
    (hq : ∀ st' F' κ' a' w', opsK E rc ops (drawFlags ops) st K = K st' → Rel F' κ' st' a' w' → EvD N0 F κ w st.heap F' κ' w' st'.heap → Q .normal a' w') : (Code.region id ops true).wp E.P Q a w := by
  have hsplit : opsK E rc ops (drawFlags ops) st K = (opsK E rc ops (drawFlags ops) st (fun s => (.ok s : Res St))).bind K := by
    have := nat_opsK (E := E) (Strict.bind (β := St) K) hc.nat ops (drawFlags ops) st fun s => .ok s
    rw [this]
    rfl
  have hne : opsK E rc ops (drawFlags ops) st (fun s => (.ok s : Res St)) ≠ .stuck := by
    intro e; rw [hsplit, e] at h; exact h rfl
  have hfst : (drawFlags ops).map (·.1) = ops.toList := by
    apply List.ext_getElem
    · simp [drawFlags]
    · intro i h1 h2
      simp [drawFlags]
  -- a run in the text's order shows that they all come to an end
  obtain ⟨e, a', w', ⟨stf, hf⟩, _⟩ := region_sound (id := id) (Q := fun _ _ _ => ∃ stf, opsK E rc ops (drawFlags ops) st (fun s => (.ok s : Res St)) = .ok stf) hc hfst hne h0 rel (fun st' F' κ' a' w' e _ _ => ⟨st', e⟩) default [] []
  have hK : opsK E rc ops (drawFlags ops) st K = K stf := by rw [hsplit, hf]; rfl
  refine wp_region_any hm ?_
  have hd0 : EvD N0 F κ w st.heap F κ { w with drawn := w.drawn + 1 } st.heap := ⟨⟨rfl, rfl, rfl, Nat.le_refl _, fun _ _ _ => rfl, fun _ h => h, fun _ h => .inl h, fun _ h => .inl h, h0, fun l o _ h1 h2 => ⟨rfl, o, h1, h2⟩⟩, Nat.le_succ _⟩
  refine any_sound (N0 := N0) (st0 := st) (stf := stf) (F0 := F) (κ0 := κ) (w0 := w) hc hd (fun F' κ' a' w' r ev => hq stf F' κ' a' w' hK r ev) ops.size _ (List.range ops.size) st F κ a _ (by simp) (by simpa using List.pairwise_lt_range) (fun i => ?_) (by simp) (fun i o _ hi => ?_) (by rw [← drawFlags_eq]; exact hf) rel.drew hd0
  · simp only [List.mem_range]
    constructor
    · intro hi; exact ⟨hi, by simp [Array.getD_eq_getD_getElem?, hi]⟩
    · exact fun h => h.1
  · exfalso
    rw [Array.getD_eq_getD_getElem?] at hi
    rcases Nat.lt_or_ge i ops.size with h1 | h1
    · simp [h1] at hi
    · rw [Array.getElem?_eq_none (by simpa using h1)] at hi; cases hi
end
end Go.Sim

/- States as they are told at a loop's head. -/
namespace Go.Sim
open Go.RowKit
set_option linter.unusedVariables false
set_option linter.unusedSimpArgs false
set_option linter.unusedSectionVars false

/-- Objects have been added or told anew, in the same world. -/
structure Turn (F : Nat → Prop) (κ : Nat → Value) (w : World) (H : List AObj) (κ' : Nat → Value) (H' : List AObj) : Prop where
  si : SI F κ' w H'
  len : H.length ≤ H'.length
  kp : ∀ l, l < H.length → κ' l = κ l
  on : ∀ b, Own κ' H' b → Own κ H b
  nr : ∀ (l : Nat) (o : AObj), H[l]? = some o → o.notRow → ∃ o', H'[l]? = some o' ∧ o'.notRow

section
variable {F : Nat → Prop} {κ κ' κ'' : Nat → Value} {w : World} {H H' H'' : List AObj}

theorem Turn.refl (s : SI F κ w H) : Turn F κ w H κ H := ⟨s, Nat.le_refl _, fun _ _ => rfl, fun _ h => h, fun l o h h2 => ⟨o, h, h2⟩⟩
theorem Turn.trans (a : Turn F κ w H κ' H') (b : Turn F κ' w H' κ'' H'') : Turn F κ w H κ'' H'' :=
  ⟨b.si, Nat.le_trans a.len b.len, fun l hl => (b.kp l (Nat.lt_of_lt_of_le hl a.len)).trans (a.kp l hl), fun x h => a.on x (b.on x h), fun l o h h2 => by
    obtain ⟨o', h3, h4⟩ := a.nr l o h h2
    exact b.nr l o' h3 h4⟩
theorem Turn.rp (a : Turn F κ w H κ' H') {p : PV} {v : Value} (h : RP F κ H.length w p v) : RP F κ' H'.length w p v :=
  h.mono (fun _ h => h) (fun _ _ => rfl) fun l hl => ⟨a.kp l (h.bound l hl), Nat.lt_of_lt_of_le (h.bound l hl) a.len⟩

theorem Turn.nilRow (s : SI F κ w H) (e k : Nat) : Turn F κ w H (upd κ H.length (.slice none 0 0)) (H ++ [.row e k []]) := by
  refine ⟨s.push _ _ (Nat.le_refl _) (fun _ _ => rfl) (fun _ h => h) (fun _ h => .inl h) s.fl ?_ (fun b hb => ?_), by simp, fun l hl => upd_other κ _ (by omega), fun b hb => ?_, fun l o h h2 => ?_⟩
  · exact ⟨[], by rw [upd_same]; exact World.ownsRow_nil w 0 e k, by simp, by simp, by simp, by simp⟩
  · simp [blk, upd_same, Value.ownBlock] at hb
  · rcases hb.push with h | h
    · exact h
    · simp [blk, upd_same, Value.ownBlock] at h
  · refine ⟨o, ?_, h2⟩
    rw [List.getElem?_append_left (List.getElem?_eq_some_iff.1 h).1]; exact h

theorem prom_prefix : ∀ n : Nat, (∀ p : PV, SizeOf.sizeOf p < n → ∀ H, ∃ N, (p.prom H).2 = H ++ N) ∧ (∀ ps : List PV, SizeOf.sizeOf ps < n → ∀ H, ∃ N, (PV.proms H ps).2 = H ++ N) := by
  intro n
  induction n with
  | zero => exact ⟨fun p hp => absurd hp (Nat.not_lt_zero _), fun p hp => absurd hp (Nat.not_lt_zero _)⟩
  | succ n ih =>
    refine ⟨fun p hp H => ?_, fun ps hp H => ?_⟩
    · cases p with
      | nil e k => exact ⟨_, rfl⟩
      | agg cs => obtain ⟨N, h⟩ := ih.2 cs (by simp at hp; omega) H; exact ⟨N, by simpa [PV.prom] using h⟩
      | _ => exact ⟨[], by simp [PV.prom]⟩
    · cases ps with
      | nil => exact ⟨[], by simp [PV.proms]⟩
      | cons p r =>
        obtain ⟨N, h⟩ := ih.1 p (by simp at hp; omega) H
        obtain ⟨M, h2⟩ := ih.2 r (by simp at hp; omega) (p.prom H).2
        exact ⟨N ++ M, by simp only [PV.proms]; rw [h2, h, List.append_assoc]⟩

theorem prom_sound : ∀ n : Nat, (∀ p : PV, SizeOf.sizeOf p < n → ∀ (κ : Nat → Value) (H : List AObj) (v : Value), SI F κ w H → RP F κ H.length w p v → ∃ κ', Turn F κ w H κ' (p.prom H).2 ∧ RP F κ' (p.prom H).2.length w (p.prom H).1 v) ∧
    (∀ ps : List PV, SizeOf.sizeOf ps < n → ∀ (κ : Nat → Value) (H : List AObj) (vs : List Value), SI F κ w H → vs.length = ps.length → (∀ (i : Nat) (p : PV) (v : Value), ps[i]? = some p → vs[i]? = some v → RP F κ H.length w p v) →
      ∃ κ', Turn F κ w H κ' (PV.proms H ps).2 ∧ (PV.proms H ps).1.length = ps.length ∧ ∀ (i : Nat) (p : PV) (v : Value), (PV.proms H ps).1[i]? = some p → vs[i]? = some v → RP F κ' (PV.proms H ps).2.length w p v) := by
  intro n
  induction n with
  | zero => exact ⟨fun p hp => absurd hp (Nat.not_lt_zero _), fun p hp => absurd hp (Nat.not_lt_zero _)⟩
  | succ n ih =>
    refine ⟨fun p hp κ H v s h => ?_, fun ps hp κ H vs s hl h => ?_⟩
    · cases p with
      | nil e k =>
        cases h
        exact ⟨_, Turn.nilRow s e k, .own (by simp [PV.prom]) (upd_same κ _ _)⟩
      | agg cs =>
        cases h with
        | @agg _ vs hl h1 hr =>
          obtain ⟨κ', h2, h3, h4⟩ := ih.2 cs (by simp at hp; omega) κ H vs s hl hr
          exact ⟨κ', by simpa [PV.prom] using h2, by simp only [PV.prom]; exact .agg (by omega) h1 h4⟩
      | _ => exact ⟨κ, Turn.refl s, h⟩
    · cases ps with
      | nil => exact ⟨κ, Turn.refl s, rfl, by simp [PV.proms]⟩
      | cons p r =>
        match vs, hl with
        | v :: vs, hl =>
          obtain ⟨κ1, a1, a2⟩ := ih.1 p (by simp at hp; omega) κ H v s (h 0 p v rfl rfl)
          obtain ⟨κ2, b1, b2, b3⟩ := ih.2 r (by simp at hp; omega) κ1 (p.prom H).2 vs a1.si (by simpa using hl) (fun i q u g1 g2 => a1.rp (h (i + 1) q u (by simpa using g1) (by simpa using g2)))
          refine ⟨κ2, by simpa [PV.proms] using a1.trans b1, by simp [PV.proms, b2], fun i q u g1 g2 => ?_⟩
          cases i with
          | zero =>
            simp [PV.proms] at g1 g2
            subst g1
            subst g2
            exact b1.rp a2
          | succ i => exact b3 i q u (by simpa [PV.proms] using g1) (by simpa using g2)

/-- A box told anew. -/
theorem Turn.box (s : SI F κ w H) {l e n : Nat} {p p' : PV} (h : H[l]? = some (.box e n p)) (hp : ∀ v, RP F κ H.length w p v → RP F κ H.length w p' v) : Turn F κ w H κ (H.set l (.box e n p')) := by
  have hl : l < H.length := (List.getElem?_eq_some_iff.1 h).1
  obtain ⟨b, vs, vv, r1, r2, r3, r4, r5, r6⟩ := s.ro l _ h
  have hblk : ∀ q, blk κ l (.box e n q) = some b := fun q => by simp [blk, r1, ptrBlock]
  refine ⟨s.objSet h (hblk p) (hblk p') rfl (fun _ _ => rfl) ⟨b, vs, vv, r1, r2, r3, r4, r5, hp vv r6⟩, by simp, fun _ _ => rfl, fun c hc => ?_, fun i o hi hn => ?_⟩
  · obtain ⟨i, o, hi, ho⟩ := hc
    rcases set_get hl hi with ⟨rfl, rfl⟩ | ⟨hne, h2⟩
    · exact ⟨i, _, h, by rw [hblk] at ho ⊢; exact ho⟩
    · exact ⟨i, o, h2, ho⟩
  · by_cases e0 : i = l
    · subst e0; exact ⟨_, List.getElem?_set_self hl, fun _ _ _ h => by cases h⟩
    · exact ⟨o, by rw [List.getElem?_set_ne (fun h => e0 h.symm)]; exact hi, hn⟩

theorem promBoxes_sound : ∀ (n i : Nat) (κ : Nat → Value) (H : List AObj), SI F κ w H → ∃ κ', Turn F κ w H κ' (promBoxes i n H)
  | 0, i, κ, H, s => ⟨κ, Turn.refl s⟩
  | n + 1, i, κ, H, s => by
    simp only [promBoxes]
    split
    · rename_i e m v ho
      obtain ⟨b, vs, vv, r1, r2, r3, r4, r5, r6⟩ := s.ro i _ ho
      obtain ⟨κ1, a1, a2⟩ := (prom_sound (F := F) (w := w) (SizeOf.sizeOf v + 1)).1 v (Nat.lt_succ_self _) κ H vv s r6
      obtain ⟨N, hN⟩ := (prom_prefix (SizeOf.sizeOf v + 1)).1 v (Nat.lt_succ_self _) H
      have ho' : (v.prom H).2[i]? = some (.box e m v) := by rw [hN, List.getElem?_append_left (List.getElem?_eq_some_iff.1 ho).1]; exact ho
      obtain ⟨b', vs', vv', q1, q2, q3, q4, q5, q6⟩ := a1.si.ro i _ ho'
      have hvv : vv'.cells = vv.cells := by
        rw [a1.kp i (List.getElem?_eq_some_iff.1 ho).1, r1] at q1
        injection q1 with q1; injection q1 with q1; injection q1 with q1
        subst q1
        rw [r2] at q2
        injection q2 with q2
        injection q2 with q2
        rw [← q3, ← r3, q2]
      have hbox : Turn F κ1 w (v.prom H).2 κ1 ((v.prom H).2.set i (.box e m (v.prom H).1)) := by
        have hl : i < (v.prom H).2.length := (List.getElem?_eq_some_iff.1 ho').1
        have hblk : ∀ q, blk κ1 i (.box e m q) = some b' := fun q => by simp [blk, q1, ptrBlock]
        refine ⟨a1.si.objSet ho' (hblk _) (hblk _) rfl (fun _ _ => rfl) ⟨b', vs', vv, q1, q2, by rw [q3, hvv], q4, q5, a2⟩, by simp, fun _ _ => rfl, fun c hc => ?_, fun j o hj hn => ?_⟩
        · obtain ⟨j, o, hj, ho2⟩ := hc
          rcases set_get hl hj with ⟨rfl, rfl⟩ | ⟨hne, h2⟩
          · exact ⟨j, _, ho', by rw [hblk] at ho2 ⊢; exact ho2⟩
          · exact ⟨j, o, h2, ho2⟩
        · by_cases e0 : j = i
          · subst e0; exact ⟨_, List.getElem?_set_self hl, fun _ _ _ h => by cases h⟩
          · exact ⟨o, by rw [List.getElem?_set_ne (fun h => e0 h.symm)]; exact hj, hn⟩
      obtain ⟨κ2, c1⟩ := promBoxes_sound n (i + 1) κ1 _ hbox.si
      exact ⟨κ2, a1.trans (hbox.trans c1)⟩
    · exact promBoxes_sound n (i + 1) κ H s

/-! ### names told in another order -/
theorem idx_get : ∀ {xs : List Nat} {l : Nat}, l ∈ xs → xs[idx xs l]? = some l
  | x :: xs, l, h => by
    simp only [idx]
    cases hx : x == l with
    | true => simp at hx; simp [hx]
    | false =>
      have hne : x ≠ l := by simpa using hx
      have := idx_get ((List.mem_cons.1 h).resolve_left fun e => hne e.symm)
      simpa using this
theorem rens_get (f : Nat → Nat) : ∀ (qs : List PV) (i : Nat), (PV.rens f qs)[i]? = (qs[i]?).map (PV.ren f)
  | [], i => by simp [PV.rens]
  | q :: r, 0 => by simp [PV.rens]
  | q :: r, i + 1 => by simpa [PV.rens] using rens_get f r i
theorem rens_length (f : Nat → Nat) : ∀ (qs : List PV), (PV.rens f qs).length = qs.length
  | [] => rfl
  | q :: r => by simp [PV.rens, rens_length f r]

theorem RP.ren {order : List Nat} {N : Nat} {p : PV} {v : Value} (h : RP F κ N w p v) : (∀ l ∈ p.locs, l ∈ order) → RP F (fun i => κ (order.getD i 0)) order.length w (p.ren (idx order)) v := by
  have hk : ∀ l, l ∈ order → κ (order.getD (idx order l) 0) = κ l ∧ idx order l < order.length := fun l hl => by
    have := idx_get hl
    exact ⟨by rw [List.getD_eq_getElem?_getD, this]; rfl, (List.getElem?_eq_some_iff.1 this).1⟩
  induction h with
  | t h => exact fun _ => .t h
  | nil => exact fun _ => .nil
  | @agg cs vs hl h1 _ ih =>
    intro ho
    simp only [PV.ren]
    refine .agg (by rw [rens_length]; exact hl) h1 fun i p v a b => ?_
    rw [rens_get, Option.map_eq_some_iff] at a
    obtain ⟨q, a, rfl⟩ := a
    exact ih i q v a b fun l hl => ho l (by simp only [PV.locs]; exact mem_locss (List.mem_of_getElem? a) hl)
  | @tup cs vs hl _ ih =>
    intro ho
    simp only [PV.ren]
    refine .tup (by rw [rens_length]; exact hl) fun i p v a b => ?_
    rw [rens_get, Option.map_eq_some_iff] at a
    obtain ⟨q, a, rfl⟩ := a
    exact ih i q v a b fun l hl => ho l (by simp only [PV.locs]; exact mem_locss (List.mem_of_getElem? a) hl)
  | @fn f fs cs vf vc h1 h2 r1 r2 i1 i2 =>
    intro ho
    simp only [PV.ren]
    refine .fn (by rw [rens_length]; exact h1) (by rw [rens_length]; exact h2) (fun i p v a b => ?_) (fun i p v a b => ?_)
    · rw [rens_get, Option.map_eq_some_iff] at a
      obtain ⟨q, a, rfl⟩ := a
      exact i1 i q v a b fun l hl => ho l (by simp only [PV.locs, List.mem_append]; exact .inl (mem_locss (List.mem_of_getElem? a) hl))
    · rw [rens_get, Option.map_eq_some_iff] at a
      obtain ⟨q, a, rfl⟩ := a
      exact i2 i q v a b fun l hl => ho l (by simp only [PV.locs, List.mem_append]; exact .inr (mem_locss (List.mem_of_getElem? a) hl))
  | @ptr l o b _ h => intro ho; obtain ⟨a, c⟩ := hk l (ho l (by simp [PV.locs])); exact .ptr c (a.trans h)
  | @own l A n c _ h => intro ho; obtain ⟨a, c⟩ := hk l (ho l (by simp [PV.locs])); exact .own c (a.trans h)
  | @eptr l k i o b n c _ h hi => intro ho; obtain ⟨a, c⟩ := hk l (ho l (by simp [PV.locs])); exact .eptr c (a.trans h) hi
  | @view l k lo hi A n c _ h => intro ho; obtain ⟨a, c⟩ := hk l (ho l (by simp [PV.locs])); exact .view c (by rw [a]; exact h)
  | @mp l b _ h => intro ho; obtain ⟨a, c⟩ := hk l (ho l (by simp [PV.locs])); exact .mp c (a.trans h)
  | full h => exact fun _ => .full h
  | rp val a b c d e f => exact fun _ => .rp val a b c d e f
  | junk => exact fun _ => .junk

theorem RO.ren {order : List Nat} {N l m : Nat} {o : AObj} (h : RO F κ N w l o) (hl : order[m]? = some l) (ho : ∀ l ∈ o.locs, l ∈ order) : RO F (fun i => κ (order.getD i 0)) order.length w m (o.ren (idx order)) := by
  have hk : κ (order.getD m 0) = κ l := by rw [List.getD_eq_getElem?_getD, hl]; rfl
  cases o with
  | box e n v =>
    obtain ⟨b, vs, vv, h1, h2, h3, h4, h5, h6⟩ := h
    exact ⟨b, vs, vv, hk.trans h1, h2, h3, h4, h5, h6.ren ho⟩
  | fbox e n v =>
    obtain ⟨b, h1, h2, h3⟩ := h
    exact ⟨b, hk.trans h1, by simp only []; rw [hk]; exact h2, h3⟩
  | row e k xs =>
    obtain ⟨cs, h1, h2⟩ := h
    exact ⟨cs, by simp only []; rw [hk]; exact h1, h2⟩
  | frow e k xs =>
    obtain ⟨h1, h2⟩ := h
    exact ⟨by simp only []; rw [hk]; exact h1, by simp only []; rw [hk]; exact h2⟩
  | vec e k n xs =>
    obtain ⟨cs, h1, h2, h3, h4, h5⟩ := h
    refine ⟨cs, by simp only []; rw [hk]; exact h1, h2, by rw [rens_length]; exact h3, h4, fun i p v a d => ?_⟩
    rw [rens_get, Option.map_eq_some_iff] at a
    obtain ⟨q, a, rfl⟩ := a
    exact (h5 i q v a d).ren fun l' hl' => ho l' (by simp only [AObj.locs]; exact mem_locss (List.mem_of_getElem? a) hl')
  | map es c =>
    obtain ⟨b, ms, h1, h2⟩ := h
    exact ⟨b, ms, hk.trans h1, h2⟩
  | iter a since seen last =>
    obtain ⟨b, bm, h1, h2, h3, h4⟩ := h
    have hm := ho a (by simp [AObj.locs])
    have h5 := idx_get hm
    refine ⟨b, bm, hk.trans h1, ?_, (List.getElem?_eq_some_iff.1 h5).1, h4⟩
    simp only []
    rw [List.getD_eq_getElem?_getD, h5]; exact h2
  | dead => trivial

theorem nodupB_inj : ∀ {xs : List Nat}, nodupB xs = true → ∀ (i j : Nat) (l : Nat), xs[i]? = some l → xs[j]? = some l → i = j
  | [], _, i, j, l, h, _ => by simp at h
  | x :: xs, hn, i, j, l, hi, hj => by
    simp only [nodupB, Bool.and_eq_true, Bool.not_eq_true'] at hn
    have hx : x ∉ xs := fun h => by have := hn.1; rw [List.contains_iff_mem.2 h] at this; cases this
    cases i with
    | zero =>
      simp at hi
      subst hi
      cases j with
      | zero => rfl
      | succ j => exact absurd (List.mem_of_getElem? (show xs[j]? = some x by simpa using hj)) hx
    | succ i =>
      cases j with
      | zero =>
        simp at hj
        subst hj
        exact absurd (List.mem_of_getElem? (show xs[i]? = some x by simpa using hi)) hx
      | succ j => rw [nodupB_inj hn.2 i j l (by simpa using hi) (by simpa using hj)]

theorem blk_ren (f : Nat → Nat) {κ κ' : Nat → Value} {l m : Nat} {o : AObj} (h : κ' m = κ l) : blk κ' m (o.ren f) = blk κ l o := by
  cases o <;> simp [blk, AObj.ren, h]
theorem notRow_ren (f : Nat → Nat) {o : AObj} (h : o.notRow) : (o.ren f).notRow := by
  cases o with
  | row e k xs => exact absurd rfl (h e k xs)
  | _ => intro e k xs h; cases h

theorem tellIn_sound {base : Nat} {order : List Nat} {tm : List PV} {a : Act} (rel : Rel F κ ⟨tm, H⟩ a w) (hb : base ≤ H.length) :
    ∃ κ', Rel F κ' (tellIn base order tm H) a w ∧ Ev base F κ w H F κ' w (tellIn base order tm H).heap := by
  unfold tellIn
  cases hok : orderOk base order tm H with
  | false => exact ⟨κ, rel, Ev.refl hb⟩
  | true =>
    simp only [cond_true]
    unfold orderOk at hok
    simp only [Bool.and_eq_true, List.all_eq_true, decide_eq_true_eq, beq_iff_eq] at hok
    obtain ⟨⟨⟨⟨h1, h2⟩, h3⟩, h4⟩, h5⟩ := hok
    have hget : ∀ (m : Nat) (o : AObj), (order.map fun l => (H.getD l .dead).ren (idx order))[m]? = some o → ∃ l o0, order[m]? = some l ∧ H[l]? = some o0 ∧ o = o0.ren (idx order) ∧ (∀ l' ∈ o0.locs, l' ∈ order) := by
      intro m o h
      rw [List.getElem?_map, Option.map_eq_some_iff] at h
      obtain ⟨l, g1, g2⟩ := h
      have hl := h2 l (List.mem_of_getElem? g1)
      have hg : H[l]? = some (H.getD l .dead) := by rw [List.getD_eq_getElem?_getD, List.getElem?_eq_getElem hl.1]; rfl
      exact ⟨l, _, g1, hg, g2.symm, fun l' hl' => List.contains_iff_mem.1 (hl.2 l' hl')⟩
    have hkey : ∀ m l, order[m]? = some l → κ (order.getD m 0) = κ l := fun m l h => by rw [List.getD_eq_getElem?_getD, h]; rfl
    have hbase : ∀ l, l < base → order[l]? = some l := fun l hl => by
      have := congrArg (fun x => x[l]?) h4
      simp only [List.getElem?_take, if_pos hl, List.getElem?_range hl] at this
      exact this
    refine ⟨fun i => κ (order.getD i 0), ⟨by simp only []; rw [rens_length]; exact rel.tl, fun i p v g1 g2 => ?_, rel.dn, ⟨fun m o h => ?_, fun m o b h hb => ?_, fun m m' o o' b g1 g2 g3 g4 => ?_, rel.si.fl⟩⟩, ⟨rfl, rfl, rfl, Nat.le_refl _, fun _ _ _ => rfl, fun _ h => h, fun _ h => .inl h, fun b hb => ?_, by simpa using h5, fun l o hl g1 g2 => ?_⟩⟩
    · simp only [] at g1
      rw [rens_get, Option.map_eq_some_iff] at g1
      obtain ⟨q, g1, rfl⟩ := g1
      simp only [List.length_map]
      exact (rel.tr i q v g1 g2).ren fun l hl => List.contains_iff_mem.1 (h3 l (mem_locss (List.mem_of_getElem? g1) hl))
    · obtain ⟨l, o0, g1, g2, rfl, g4⟩ := hget m o h
      simp only [List.length_map]
      exact (rel.si.ro l o0 g2).ren g1 g4
    · obtain ⟨l, o0, g1, g2, rfl, g4⟩ := hget m o h
      rw [blk_ren (κ' := fun i => κ (order.getD i 0)) (κ := κ) (l := l) _ (hkey m l g1)] at hb
      exact rel.si.lt l o0 b g2 hb
    · obtain ⟨l, o0, a1, a2, rfl, a4⟩ := hget m o g1
      obtain ⟨l', o0', b1, b2, rfl, b4⟩ := hget m' o' g2
      rw [blk_ren (κ' := fun i => κ (order.getD i 0)) (κ := κ) (l := l) _ (hkey m l a1)] at g3
      rw [blk_ren (κ' := fun i => κ (order.getD i 0)) (κ := κ) (l := l') _ (hkey m' l' b1)] at g4
      have := rel.si.ne l l' o0 o0' b a2 b2 g3 g4
      subst this
      exact nodupB_inj h1 m m' l a1 b1
    · obtain ⟨m, o, g1, g2⟩ := hb
      obtain ⟨l, o0, a1, a2, rfl, a4⟩ := hget m o g1
      rw [blk_ren (κ' := fun i => κ (order.getD i 0)) (κ := κ) (l := l) _ (hkey m l a1)] at g2
      exact .inl ⟨l, o0, a2, g2⟩
    · have hl' := hbase l hl
      refine ⟨hkey l l hl', o.ren (idx order), ?_, notRow_ren _ g2⟩
      simp only [List.getElem?_map, hl', Option.map_some, List.getD_eq_getElem?_getD, g1, Option.getD_some]

theorem keepOnly_get (live : List Nat) (tm : List PV) (i : Nat) : (keepOnly live tm)[i]? = (tm[i]?).map fun p => bif live.contains i then p else .junk := by
  unfold keepOnly
  rw [List.getElem?_map, List.getElem?_zipIdx]
  cases tm[i]? <;> simp
theorem keepOnly_len (live : List Nat) (tm : List PV) : (keepOnly live tm).length = tm.length := by simp [keepOnly]

theorem canon_sound {base : Nat} {live : List Nat} {st : St} {a : Act} (rel : Rel F κ st a w) (hb : base ≤ st.heap.length) :
    ∃ κ', Rel F κ' (canon base live st) a w ∧ EvD base F κ w st.heap F κ' w (canon base live st).heap := by
  unfold canon
  simp only []
  have hk : ∀ (i : Nat) (p : PV) (v : Value), (keepOnly live st.tmps)[i]? = some p → a.tmps.toList[i]? = some v → RP F κ st.heap.length w p v := by
    intro i p v g1 g2
    rw [keepOnly_get, Option.map_eq_some_iff] at g1
    obtain ⟨q, g1, rfl⟩ := g1
    cases live.contains i with
    | true => exact rel.tr i q v g1 (by simpa using g2)
    | false => exact .junk
  obtain ⟨κ1, a1, a2, a3⟩ := (prom_sound (F := F) (w := w) (SizeOf.sizeOf (keepOnly live st.tmps) + 1)).2 _ (Nat.lt_succ_self _) κ st.heap a.tmps.toList rel.si (by rw [keepOnly_len]; simpa using rel.tl) hk
  obtain ⟨κ2, b1⟩ := promBoxes_sound st.heap.length 0 κ1 _ a1.si
  have ab := a1.trans b1
  have rel2 : Rel F κ2 ⟨(PV.proms st.heap (keepOnly live st.tmps)).1, promBoxes 0 st.heap.length (PV.proms st.heap (keepOnly live st.tmps)).2⟩ a w :=
    ⟨by simp only []; rw [a2, keepOnly_len]; exact rel.tl, fun i p v g1 g2 => b1.rp (a3 i p v g1 (by simpa using g2)), rel.dn, b1.si⟩
  obtain ⟨κ3, c1, c2⟩ := tellIn_sound (base := base) (order := reach (promBoxes 0 st.heap.length (PV.proms st.heap (keepOnly live st.tmps)).2) ((promBoxes 0 st.heap.length (PV.proms st.heap (keepOnly live st.tmps)).2).length + 1) (PV.locss (PV.proms st.heap (keepOnly live st.tmps)).1) (List.range base)) rel2 (Nat.le_trans hb ab.len)
  refine ⟨κ3, c1, ⟨Ev.trans ?_ c2, Nat.le_refl _⟩⟩
  exact ⟨rfl, rfl, rfl, Nat.le_refl _, fun _ _ _ => rfl, fun _ h => h, fun _ h => .inl h, fun b h => .inl (ab.on b h), Nat.le_trans hb ab.len, fun l o hl g1 g2 => ⟨ab.kp l (by omega), ab.nr l o g1 g2⟩⟩
end
end Go.Sim

/- Code, functions, calls. -/
namespace Go.Sim
open Go.RowKit
set_option linter.unusedVariables false
set_option linter.unusedSimpArgs false
set_option linter.unusedSectionVars false

section
variable {E : Env} {rc : Caller} {f : FuncId} {fn : Func} {n base : Nat}

theorem nat_k {β γ : Type} {g : Res β → Res γ} (e : Ex) (a : Res β) (b : Nat → Res β) (c : Res β) : g (e.k a b c) = e.k (g a) (fun i => g (b i)) (g c) := by cases e <;> rfl

theorem nat_codeK (hrc : rc.Nat) : ∀ (c : Code) {β γ : Type} {g : Res β → Res γ}, Strict g → ∀ (st : St) (K : Ex → St → Res β), g (codeK E rc f fn n base c st K) = codeK E rc f fn n base c st fun e s => g (K e s)
  | .skip, β, γ, g, hg, st, K => rfl
  | .region id ops dr, β, γ, g, hg, st, K => by
    simp only [codeK]
    cases dr with
    | true => simp only [cond_true, nat_cond hg, nat_opsK hg hrc, hg.stuck]
    | false => simp only [cond_false, nat_opsK hg hrc]
  | .seq a b, β, γ, g, hg, st, K => by
    simp only [codeK]
    rw [nat_codeK hrc a hg]
    congr 1; funext e s
    rw [nat_k (g := g), nat_codeK hrc b hg]
  | .cond c a b, β, γ, g, hg, st, K => by
    simp only [codeK, nat_someK hg]
    congr 1; funext p
    cases p <;> first | exact hg.stuck | skip
    simp only [nat_bT hg, nat_cond hg, nat_codeK hrc a hg, nat_codeK hrc b hg]
  | .block id c, β, γ, g, hg, st, K => by
    simp only [codeK]
    rw [nat_codeK hrc c hg]
    congr 1; funext e s
    rw [nat_k (g := g)]
    cases e <;> first | rfl | skip
    simp only [Ex.k]
    split <;> rfl
  | .loop c, β, γ, g, hg, st, K => by
    simp only [codeK]
    rw [nat_bind hg]
  | .exit id, β, γ, g, hg, st, K => rfl
  | .scope c, β, γ, g, hg, st, K => by simp only [codeK]; exact nat_codeK hrc c hg st K
  | .label l, β, γ, g, hg, st, K => rfl
  | .ret, β, γ, g, hg, st, K => rfl
  | .rangeFunc .., β, γ, g, hg, st, K => hg.stuck
  | .goto .., β, γ, g, hg, st, K => hg.stuck
  | .refuse .., β, γ, g, hg, st, K => hg.stuck

theorem nat_resultsK {β γ : Type} {g : Res β → Res γ} (hg : Strict g) {st : St} : ∀ (l : List ResultVar) (K : List PV → Res β), g (resultsK E st l K) = resultsK E st l fun ps => g (K ps)
  | [], K => rfl
  | .tmp t :: r, K => by simp only [resultsK]; rw [nat_resultsK hg]
  | .cell a t :: r, K => by
    simp only [resultsK, nat_loadK hg]
    congr 1; funext p
    exact nat_resultsK hg r _

theorem nat_funK (hrc : rc.Nat) {β γ : Type} {g : Res β → Res γ} (hg : Strict g) (args : List PV) (H : List AObj) (K : PV → List AObj → Res β) : g (funK E rc n f args H K) = funK E rc n f args H fun r H' => g (K r H') := by
  unfold funK
  split
  · exact hg.stuck
  · split
    · exact hg.stuck
    · rw [nat_codeK hrc _ hg]
      congr 1; funext e s
      rw [nat_k (g := g), nat_resultsK hg, hg.stuck]

def Ex.out : Ex → Exit
  | .norm => .normal
  | .exit i => .exit i
  | .ret => .ret

/-- The rule of a code's soundness. -/
def CodeOk (E : Env) (rc : Caller) (f : FuncId) (fn : Func) (n base : Nat) (c : Code) : Prop := ∀ (β : Type) (st : St) (K : Ex → St → Res β) (F : Nat → Prop) (κ : Nat → Value) (a : Act) (w : World) (Q : Exit → Act → World → Prop),
  codeK E rc f fn n base c st K ≠ .stuck → base ≤ st.heap.length → Rel F κ st a w →
  (∀ e st' F' κ' a' w', codeK E rc f fn n base c st K = K e st' → Rel F' κ' st' a' w' → EvD base F κ w st.heap F' κ' w' st'.heap → Q e.out a' w') → c.wp E.P Q a w

theorem iter_sound {B : St → Res (Ex × St)} {c : Code} {Q : Exit → Act → World → Prop} {P : Program}
    (hB : ∀ (st : St) (F : Nat → Prop) (κ : Nat → Value) (a : Act) (w : World) (Q : Exit → Act → World → Prop), B st ≠ .stuck → base ≤ st.heap.length → Rel F κ st a w → (∀ e st' F' κ' a' w', B st = .ok (e, st') → Rel F' κ' st' a' w' → EvD base F κ w st.heap F' κ' w' st'.heap → Q e.out a' w') → c.wp P Q a w) :
    ∀ (m : Nat) (st : St) (F : Nat → Prop) (κ : Nat → Value) (a : Act) (w : World), iterR B m st ≠ .stuck → base ≤ st.heap.length → Rel F κ st a w →
      (∀ e st' F' κ' a' w', iterR B m st = .ok (e, st') → Rel F' κ' st' a' w' → EvD base F κ w st.heap F' κ' w' st'.heap → Q e.out a' w') → Code.rounds P c Q m a w
  | 0, st, F, κ, a, w, h, hb, rel, hq => absurd rfl h
  | m + 1, st, F, κ, a, w, h, hb, rel, hq => by
    rw [rounds_succ]
    simp only [iterR] at h hq
    refine hB st F κ a w _ (bind_inv h) hb rel fun e st' F' κ' a' w' e1 r1 ev1 => ?_
    rw [e1] at h hq
    simp only [Res.bind_ok] at h hq
    cases e with
    | norm => exact iter_sound hB m st' F' κ' a' w' h ev1.hl r1 fun e2 st2 F2 κ2 a2 w2 e3 r2 ev2 => hq e2 st2 F2 κ2 a2 w2 e3 r2 (ev1.trans ev2)
    | exit i => exact hq (.exit i) st' F' κ' a' w' rfl r1 ev1
    | ret => exact hq .ret st' F' κ' a' w' rfl r1 ev1

theorem codeK_sound (hm : E.P.follows .mixedOrders = true) (hc : CallerOk E rc) : ∀ c : Code, CodeOk E rc f fn n base c
  | .skip => fun β st K F κ a w Q h hb rel hq => Go.wp_skip (hq .norm st F κ a w rfl rel (EvD.refl hb))
  | .region id ops dr => fun β st K F κ a w Q h hb rel hq => by
    simp only [codeK] at h hq
    cases dr with
    | true =>
      simp only [cond_true] at h hq
      obtain ⟨g1, e1⟩ := cond_inv' h
      rw [e1] at h hq
      exact draw_sound (N0 := base) hm hc g1 h hb rel fun st' F' κ' a' w' e r ev => hq .norm st' F' κ' a' w' e r ev
    | false =>
      simp only [cond_false] at h hq
      exact region_sound (N0 := base) hc (by rw [List.map_map]; exact List.map_id' _) h hb rel fun st' F' κ' a' w' e r ev => hq .norm st' F' κ' a' w' e r ev
  | .seq x y => fun β st K F κ a w Q h hb rel hq => by
    simp only [codeK] at h hq
    refine wp_seq (codeK_sound hm hc x _ st _ F κ a w _ h hb rel fun e st' F' κ' a' w' e1 r1 ev1 => ?_)
    rw [e1] at h hq
    cases e with
    | norm => exact codeK_sound hm hc y _ st' K F' κ' a' w' Q h ev1.hl r1 fun e2 st2 F2 κ2 a2 w2 e3 r2 ev2 => hq e2 st2 F2 κ2 a2 w2 e3 r2 (ev1.trans ev2)
    | exit i => exact hq (.exit i) st' F' κ' a' w' rfl r1 ev1
    | ret => exact hq .ret st' F' κ' a' w' rfl r1 ev1
  | .cond c x y => fun β st K F κ a w Q h hb rel hq => by
    simp only [codeK] at h hq
    obtain ⟨p, e1, e2⟩ := someK_inv h
    rw [e2] at h hq
    have hv := evalO_sound rel.tl rel.tr e1
    cases p with
    | t z =>
      simp only [] at h hq
      obtain ⟨b, rfl, e3⟩ := bT_inv h
      rw [e3] at h hq
      generalize hv' : a.eval c = v at hv
      cases hv with
      | t hv =>
      cases hv with
      | bool =>
      refine wp_cond hv' ?_
      cases b with
      | true => exact codeK_sound hm hc x _ st K F κ a w Q h hb rel hq
      | false => exact codeK_sound hm hc y _ st K F κ a w Q h hb rel hq
    | _ => exact absurd rfl h
  | .block id c => fun β st K F κ a w Q h hb rel hq => by
    simp only [codeK] at h hq
    refine wp_block (codeK_sound hm hc c _ st _ F κ a w _ h hb rel fun e st' F' κ' a' w' e1 r1 ev1 => ?_)
    cases e with
    | norm => exact hq .norm st' F' κ' a' w' e1 r1 ev1
    | exit i =>
      simp only [Ex.out, Exit.inBlock]
      simp only [Ex.k] at e1
      by_cases hi : i = id
      · rw [if_pos hi] at e1 ⊢; exact hq .norm st' F' κ' a' w' e1 r1 ev1
      · rw [if_neg hi] at e1 ⊢; exact hq (.exit i) st' F' κ' a' w' e1 r1 ev1
    | ret => exact hq .ret st' F' κ' a' w' e1 r1 ev1
  | .loop c => fun β st K F κ a w Q h hb rel hq => by
    simp only [codeK] at h hq
    obtain ⟨κ1, rel1, ev1⟩ := canon_sound (live := (E.hint f (firstRegion c)).1) rel hb
    refine wp_loop_rounds n (iter_sound (base := base) (fun st F κ a w Q h hb rel hq => ?_) n _ F κ1 a w (bind_inv h) ev1.hl rel1 fun e st' F' κ' a' w' e1 r1 ev2 => ?_)
    · refine codeK_sound hm hc c _ st _ F κ a w Q h hb rel fun e st' F' κ' a' w' e1 r1 ev1 => ?_
      cases e with
      | norm =>
        obtain ⟨κ2, rel2, ev2⟩ := canon_sound (base := base) (live := (E.hint f (firstRegion c)).1) r1 ev1.hl
        exact hq .norm _ F' κ2 a' w' e1 rel2 (ev1.trans ev2)
      | exit i =>
        obtain ⟨κ2, rel2, ev2⟩ := canon_sound (base := base) (live := (E.hint f (firstRegion c)).2) r1 ev1.hl
        exact hq (.exit i) _ F' κ2 a' w' e1 rel2 (ev1.trans ev2)
      | ret =>
        obtain ⟨κ2, rel2, ev2⟩ := canon_sound (base := base) (live := resTmps fn) r1 ev1.hl
        exact hq .ret _ F' κ2 a' w' e1 rel2 (ev1.trans ev2)
    · rw [e1] at hq
      exact hq e st' F' κ' a' w' rfl r1 (ev1.trans ev2)
  | .exit id => fun β st K F κ a w Q h hb rel hq => wp_exit (hq (.exit id) st F κ a w rfl rel (EvD.refl hb))
  | .scope c => fun β st K F κ a w Q h hb rel hq => by
    simp only [codeK] at h hq
    refine wp_scope_straight (codeK_sound hm hc c _ st K F κ a w _ h hb rel fun e st' F' κ' a' w' e1 r1 ev1 => ?_)
    have := hq e st' F' κ' a' w' e1 r1 ev1
    cases e <;> exact this
  | .label l => fun β st K F κ a w Q h hb rel hq => wp_label (hq .norm st F κ a w rfl rel (EvD.refl hb))
  | .ret => fun β st K F κ a w Q h hb rel hq => wp_ret (hq .ret st F κ a w rfl rel (EvD.refl hb))
  | .rangeFunc .. => fun β st K F κ a w Q h hb rel hq => absurd rfl h
  | .goto .. => fun β st K F κ a w Q h hb rel hq => absurd rfl h
  | .refuse .. => fun β st K F κ a w Q h hb rel hq => absurd rfl h
end
end Go.Sim

/- THE LAW: what the interpreter says of a call, the machine does. -/
namespace Go.Sim
open Go.RowKit
set_option linter.unusedVariables false
set_option linter.unusedSimpArgs false
set_option linter.unusedSectionVars false

theorem loadAt_asAddr {P : Program} {t : TypeId} {v u : Value} {w : World} (h : (Instr.loadAt t v).run P w = .ok u w) : (do loadVar t (← asAddr v) : Sem Value).run P w = .ok u w := by
  unfold Instr.loadAt at h
  cases v with
  | pointer p =>
    cases p with
    | none => simp [Instr.sureAddr, stuck] at h
    | some a => simpa [Instr.sureAddr, asAddr] using h
  | _ => simp [Instr.sureAddr, stuck] at h

section
variable {E : Env} {rc : Caller} {F : Nat → Prop} {κ : Nat → Value} {w : World} {st : St} {a : Act}

def resOne (tm : Array Value) : ResultVar → Sem Value
  | .tmp t => pure (tm.getD t undef)
  | .cell x t => do loadVar t (← asAddr (tm.getD x undef))
theorem pvRes_sound {N : Nat} : ∀ {ps : List PV} {vs : List Value}, vs.length = ps.length → (∀ (i : Nat) (p : PV) (v : Value), ps[i]? = some p → vs[i]? = some v → RP F κ N w p v) → RP F κ N w (pvRes ps) (if h : vs.length = 1 then vs[0] else .tuple vs.toArray)
  | [p], [v], _, h => h 0 p v rfl rfl
  | [], [], _, _ => .tup (vs := []) rfl (by simp)
  | p :: q :: ps, v :: u :: vs, hl, h => by
    rw [dif_neg (by simp)]
    exact .tup hl h
  | [], _ :: _, hl, _ => by simp at hl
  | [_], [], hl, _ => by simp at hl
  | [_], _ :: _ :: _, hl, _ => by simp at hl
  | _ :: _ :: _, [], hl, _ => by simp at hl
  | _ :: _ :: _, [_], hl, _ => by simp at hl

theorem resultsK_sound {β : Type} (rel : Rel F κ st a w) : ∀ {l : List ResultVar} {K : List PV → Res β}, resultsK E st l K ≠ .stuck →
    ∃ ps vs, resultsK E st l K = K ps ∧ (l.mapM (resOne a.tmps)).run E.P w = .ok vs w ∧ vs.length = ps.length ∧
      ∀ (i : Nat) (p : PV) (v : Value), ps[i]? = some p → vs[i]? = some v → RP F κ st.heap.length w p v
  | [], K, h => ⟨[], [], rfl, by simp [List.mapM_nil], rfl, by simp⟩
  | .tmp t :: r, K, h => by
    simp only [resultsK] at h ⊢
    obtain ⟨ps, vs, e1, e2, e3, e4⟩ := resultsK_sound rel h
    have hv := evalO_sound (P := E.P) rel.tl rel.tr (t := 0) (o := .tmp t) (p := st.tmps.getD t undefV) rfl
    refine ⟨_, a.tmps.getD t undef :: vs, e1, by simp only [List.mapM_cons, resOne, Sem.run_bind, Sem.run_pure, e2, Result.andThen_ok], by simp [e3], fun i p v g1 g2 => ?_⟩
    cases i with
    | zero => simp only [List.getElem?_cons_zero, Option.some.injEq] at g1 g2; subst g1; subst g2; exact hv
    | succ i => exact e4 i p v (by simpa using g1) (by simpa using g2)
  | .cell x t :: r, K, h => by
    simp only [resultsK] at h ⊢
    have hv := evalO_sound (P := E.P) rel.tl rel.tr (t := 0) (o := .tmp x) (p := st.tmps.getD x undefV) rfl
    obtain ⟨q, u, e5, e6, e7⟩ := loadK_sound h rel.si hv
    rw [e5] at h ⊢
    obtain ⟨ps, vs, e1, e2, e3, e4⟩ := resultsK_sound rel h
    have e8 := loadAt_asAddr e6
    refine ⟨_, u :: vs, e1, ?_, by simp [e3], fun i p v g1 g2 => ?_⟩
    · have e8' : (resOne a.tmps (.cell x t)).run E.P w = .ok u w := e8
      simp only [List.mapM_cons, Sem.run_bind, e8', Sem.run_pure, e2, Result.andThen_ok]
    · cases i with
      | zero => simp at g1 g2; subst g1; subst g2; exact e7
      | succ i => exact e4 i p v (by simpa using g1) (by simpa using g2)

/-- What is known of the program and its foreign parts. -/
structure EnvOk (E : Env) : Prop where
  inpl : ∀ (f : FuncId) (g : List AObj → List T → List PV → Res (List T)), E.inpl f = some g → InplOk E f g
  mixed : E.P.follows .mixedOrders = true
  named : ∀ (f : FuncId) (fn : Func), E.P.funcs[f]? = some fn → (fn.name == "runtime.NumGoroutine") = false
  ext : ∀ (f : FuncId) (e : List T → Res T), E.ext f = some e → ∀ ts, e ts ≠ .stuck → ∀ (F : Nat → Prop) (w : World) (vals : List Value), vals.length = ts.length → (∀ (i : Nat) (x : T) (v : Value), ts[i]? = some x → vals[i]? = some v → Rd F w x v) →
    (∀ b, F b → b < w.heap.size) → Invokes E.P f vals.toArray w fun v w' => ∃ x F', e ts = .ok x ∧ Out E f F' w.heap.size w' x v ∧ Grown F w F' w'

theorem funK_sound (he : EnvOk E) (hc : CallerOk E rc) {β : Type} {n : Nat} {f : FuncId} {args : List PV} {H : List AObj} {K : PV → List AObj → Res β} (h : funK E rc n f args H K ≠ .stuck) {vals : List Value} (hl : vals.length = args.length)
    (ha : ∀ (i : Nat) (p : PV) (v : Value), args[i]? = some p → vals[i]? = some v → RP F κ H.length w p v) (s : SI F κ w H) :
    Calls E.P f vals.toArray w fun e w' => ∃ v, e = .returned v ∧ ∃ r H' F' κ', funK E rc n f args H K = K r H' ∧ RP F' κ' H'.length w' r v ∧ SI F' κ' w' H' ∧ EvD H.length F κ w H F' κ' w' H' := by
  unfold funK at h ⊢
  cases hf : E.P.funcs[f]? with
  | none => simp [hf] at h
  | some fn =>
    simp only [hf] at h ⊢
    cases hb : fn.body with
    | none => simp [hb] at h
    | some c =>
      simp only [hb] at h ⊢
      refine calls_of_wp hf hb ?_
      have rel : Rel F κ ⟨args ++ List.replicate (fn.ntmps - args.length) undefV, H⟩ { tmps := vals.toArray ++ Array.replicate (fn.ntmps - vals.toArray.size) undef, defers := [] } w := by
        refine ⟨by simp [hl], fun i p v g1 g2 => ?_, rfl, s⟩
        simp only [] at g1 g2 ⊢
        rcases Nat.lt_or_ge i args.length with h1 | h1
        · rw [List.getElem?_append_left h1] at g1
          rw [Array.getElem?_append_left (by simpa [hl] using h1)] at g2
          exact ha i p v g1 (by simpa using g2)
        · rw [List.getElem?_append_right h1] at g1
          rw [Array.getElem?_append_right (by simpa [hl] using h1)] at g2
          have g3 := List.mem_of_getElem? g1
          have g4 := Array.mem_of_getElem? g2
          rw [List.mem_replicate] at g3
          rw [Array.mem_replicate] at g4
          rw [g3.2, g4.2]
          exact undef_rp
      have fin : ∀ (st' : St) (F' : Nat → Prop) (κ' : Nat → Value) (a' : Act) (w' : World), (resultsK E st' fn.results.toList fun ps => K (pvRes ps) st'.heap) ≠ .stuck → Rel F' κ' st' a' w' → EvD H.length F κ w H F' κ' w' st'.heap →
          a'.defers = [] ∧ ∃ v, (results fn a'.tmps).run E.P w' = .ok v w' ∧ ∃ v', Ending.returned v = .returned v' ∧ ∃ r H' F' κ', (resultsK E st' fn.results.toList fun ps => K (pvRes ps) st'.heap) = K r H' ∧ RP F' κ' H'.length w' r v' ∧ SI F' κ' w' H' ∧ EvD H.length F κ w H F' κ' w' H' := by
        intro st' F' κ' a' w' hne r1 ev1
        obtain ⟨ps, vs, e1, e2, e3, e4⟩ := resultsK_sound r1 hne
        have hres : (results fn a'.tmps).run E.P w' = .ok (if h : vs.length = 1 then vs[0] else .tuple vs.toArray) w' := by
          show (do let vs ← fn.results.mapM (resOne a'.tmps); pure (if h : vs.size = 1 then vs[0] else .tuple vs) : Sem Value).run E.P w' = _
          rw [Array.mapM_eq_mapM_toList]
          simp only [Sem.run_bind, map_eq_pure_bind, e2, Result.andThen_ok, Sem.run_pure, List.size_toArray]
          split <;> rfl
        exact ⟨r1.dn, _, hres, _, rfl, pvRes ps, st'.heap, F', κ', e1, pvRes_sound e3 e4, r1.si, ev1⟩
      refine codeK_sound he.mixed hc c _ _ _ F κ _ w _ h (Nat.le_refl _) rel fun e st' F' κ' a' w' e1 r1 ev1 => ?_
      rw [e1] at h ⊢
      cases e with
      | norm => exact fin st' F' κ' a' w' h r1 ev1
      | exit i => exact absurd rfl h
      | ret => exact fin st' F' κ' a' w' h r1 ev1

/-- From a call at trees, at a heap of its own, to what its caller leans on. -/
theorem outK_sound {f : FuncId} {p : PV} {v : Value} {H : List AObj} {w0 : World} {F0 : Nat → Prop} {κ0 : Nat → Value} (hfl : ∀ b, F0 b → b < w0.heap.size) (h : outK E f p H ≠ .stuck) (hp : RP F κ H.length w p v) (s : SI F κ w H) (ev : Ev 0 F0 κ0 w0 [] F κ w H) :
    ∃ x F', outK E f p H = .ok x ∧ Out E f F' w0.heap.size w x v ∧ Grown F0 w0 F' w := by
  have hno : ∀ b, ¬ Own κ0 [] b := fun b ⟨l, o, h, _⟩ => by simp at h
  have hown : ∀ b, Own κ H b → w0.heap.size ≤ b := fun b hb => (ev.on b hb).resolve_left (hno b)
  have hFn : ∀ b, F b → F0 b ∨ w0.heap.size ≤ b := fun b hb => (ev.fn b hb).elim .inl fun h => h.elim (fun h => absurd h (hno b)) .inr
  have grown : ∀ {F' : Nat → Prop} {H' : List AObj}, SI F' κ w H' → (∀ b, F b → F' b) → (∀ b, F' b → F b ∨ Own κ H b) → Grown F0 w0 F' w := fun s' a1 a2 =>
    ⟨ev.os, ev.tape, ev.output, ev.size, fun b hb => ev.frame b hb (hno b), fun b hb => a1 b (ev.fm b hb), fun b hb => (a2 b hb).elim (hFn b) (fun h => .inr (hown b h)), s'.fl⟩
  have rowOf : ∀ {F' : Nat → Prop} {H' : List AObj} {l e k : Nat} {xs : List T}, SI F' κ w H' → (∀ b, Own κ H' b → Own κ H b) → H'[l]? = some (.row e k xs) → Row F' w e k xs (κ l) ∧ ∀ b, (κ l).ownBlock = some b → w0.heap.size ≤ b ∧ b < w.heap.size ∧ ¬ F' b := by
    intro F' H' l e k xs s' a3 ho
    obtain ⟨cs, h1, h2⟩ := s'.ro l _ ho
    refine ⟨⟨cs, h1, h2⟩, fun b hb => ?_⟩
    obtain ⟨c1, c2⟩ := s'.lt l _ b ho (by simpa [blk] using hb)
    exact ⟨hown b (a3 b ⟨l, _, ho, by simpa [blk] using hb⟩), c1, c2⟩
  have rowNil : ∀ (F' : Nat → Prop) (e k : Nat), Row F' w e k [] (.slice none 0 0) ∧ ∀ b, (Value.slice none 0 0).ownBlock = some b → w0.heap.size ≤ b ∧ b < w.heap.size ∧ ¬ F' b :=
    fun F' e k => ⟨⟨[], World.ownsRow_nil w 0 e k, by simp, by simp, by simp, by simp⟩, fun b hb => by simp [Value.ownBlock] at hb⟩
  unfold outK at h ⊢
  match hm : E.mode f with
  | 0 =>
    simp only [hm] at h ⊢
    obtain ⟨x, e1, e2⟩ := someK_inv h
    obtain ⟨F', s', a1, a2, a3, a4, a5, a6⟩ := freeze_sound p.rows s
    exact ⟨x, F', e2, .frozen hm (frz_sound s hp a1 e1 a4), grown s' a1 a2⟩
  | 1 =>
    simp only [hm] at h ⊢
    cases hp with
    | @own l A n c hN hk =>
      simp only [] at h ⊢
      cases ho : H[l]? with
      | none => simp [ho] at h
      | some q =>
        cases q with
        | row e k xs =>
          simp only [ho] at h ⊢
          obtain ⟨g1, e1⟩ := cond_inv' h
          obtain ⟨b1, b2⟩ := rowOf s (fun _ h => h) ho
          rw [hk] at b1 b2
          exact ⟨_, F, e1, .row hm (by simpa using g1) b1 b2, grown s (fun _ h => h) (fun _ h => .inl h)⟩
        | _ => simp [ho] at h
    | @view l k lo hi A n c hN hv =>
      simp only [] at h ⊢
      cases ho : H[l]? with
      | none => simp [ho] at h
      | some q =>
        cases q with
        | row e k' xs =>
          simp only [ho] at h ⊢
          obtain ⟨g1, e1⟩ := cond_inv' h
          simp only [Bool.and_eq_true, beq_iff_eq, decide_eq_true_eq] at g1
          obtain ⟨⟨⟨g1, rfl⟩, rfl⟩, g2⟩ := g1
          obtain ⟨b1, b2⟩ := rowOf s (fun _ h => h) ho
          obtain ⟨b3, b4⟩ := Row.cut b1 hv g2
          exact ⟨_, F, e1, .row hm g1 b3 (fun b hb => b2 b (by rw [← b4]; exact hb)), grown s (fun _ h => h) (fun _ h => .inl h)⟩
        | _ => simp [ho] at h
    | @nil e k =>
      simp only [] at h ⊢
      obtain ⟨g1, e1⟩ := cond_inv' h
      exact ⟨_, F, e1, .row hm (by simpa using g1) (rowNil _ _ _).1 (rowNil F e k).2, grown s (fun _ h => h) (fun _ h => .inl h)⟩
    | _ => exact absurd rfl h
  | m + 2 =>
    simp only [hm] at h ⊢
    cases hp with
    | @tup ps vs hl hr =>
      match ps, vs, hl with
      | [], _, _ => exact absurd rfl h
      | p :: ps, v :: vs, hl =>
        have hp0 := hr 0 p v rfl rfl
        have hps : ∀ (i : Nat) (q : PV) (u : Value), ps[i]? = some q → vs[i]? = some u → RP F κ H.length w q u := fun i q u g1 g2 => hr (i + 1) q u (by simpa using g1) (by simpa using g2)
        obtain ⟨F', s', a1, a2, a3, a4, a5, a6⟩ := freeze_sound (PV.rowss ps) s
        cases hp0 with
        | @own l A n c hN hk =>
          simp only [] at h ⊢
          cases ho : H[l]? with
          | none => simp [ho] at h
          | some q =>
            cases q with
            | row e k xs =>
              simp only [ho] at h ⊢
              obtain ⟨g0, e0⟩ := cond_inv h
              rw [e0] at h ⊢
              obtain ⟨ys, e1, e2⟩ := someK_inv h
              rw [e2] at h ⊢
              obtain ⟨g1, e3⟩ := cond_inv' h
              simp only [Bool.and_eq_true, beq_iff_eq] at g1
              obtain ⟨c1, c2⟩ := frzs_sound s hps e1 a1 a4
              have ho' : (freezeRows (PV.rowss ps) H)[l]? = some (.row e k xs) := by
                rw [freezeRows_other _ _ (fun hmm => by rw [List.contains_iff_mem.2 hmm] at g0; cases g0)]; exact ho
              obtain ⟨b1, b2⟩ := rowOf s' a3 ho'
              rw [hk] at b1 b2
              exact ⟨_, F', e3, .tup (by omega) g1.1 b1 b2 g1.2 (by simp at hl; omega) c2, grown s' a1 a2⟩
            | _ => simp [ho] at h
        | @nil e k =>
          simp only [] at h ⊢
          obtain ⟨ys, e1, e2⟩ := someK_inv h
          rw [e2] at h ⊢
          obtain ⟨g1, e3⟩ := cond_inv' h
          simp only [Bool.and_eq_true, beq_iff_eq] at g1
          obtain ⟨c1, c2⟩ := frzs_sound s hps e1 a1 a4
          exact ⟨_, F', e3, .tup (by omega) g1.1 (rowNil _ _ _).1 (rowNil F' e k).2 g1.2 (by simp at hl; omega) c2, grown s' a1 a2⟩
        | _ => exact absurd rfl h
    | _ => exact absurd rfl h

theorem invokes_of_calls (he : EnvOk E) {f : FuncId} {args : Array Value} {R : Value → World → Prop} (hfn : ∃ fn c, E.P.funcs[f]? = some fn ∧ fn.body = some c) (h : Calls E.P f args w fun e w' => ∃ v, e = .returned v ∧ R v w' ∧ w.drawn ≤ w'.drawn) : Invokes E.P f args w R := by
  obtain ⟨fn, c, hf, hb⟩ := hfn
  have h1 : fn.name ≠ "runtime.NumGoroutine" := by have := he.named f fn hf; simpa using this
  unfold Invokes
  have : (callFunc f args).run E.P w = .ok (.enter f args) w := by simp [callFunc, hf, h1, hb]
  rw [this]
  exact h

theorem funK_body {β : Type} {n : Nat} {f : FuncId} {args : List PV} {H : List AObj} {K : PV → List AObj → Res β} (h : funK E rc n f args H K ≠ .stuck) : ∃ fn c, E.P.funcs[f]? = some fn ∧ fn.body = some c := by
  unfold funK at h
  cases hf : E.P.funcs[f]? with
  | none => simp [hf] at h
  | some fn =>
    cases hb : fn.body with
    | none => simp [hf, hb] at h
    | some c => exact ⟨fn, c, rfl, hb⟩

def GoOk (E : Env) (run : (β : Type) → FuncId → List PV → List AObj → (PV → List AObj → Res β) → Res β) : Prop := ∀ (β : Type) (f : FuncId) (args : List PV) (H : List AObj) (K : PV → List AObj → Res β), run β f args H K ≠ .stuck → ∀ (F : Nat → Prop) (κ : Nat → Value) (w : World) (vals : List Value), vals.length = args.length →
    (∀ (i : Nat) (p : PV) (v : Value), args[i]? = some p → vals[i]? = some v → RP F κ H.length w p v) → SI F κ w H →
    (∃ fn c, E.P.funcs[f]? = some fn ∧ fn.body = some c) ∧ Calls E.P f vals.toArray w fun e w' => ∃ v, e = .returned v ∧ ∃ r H' F' κ', run β f args H K = K r H' ∧ RP F' κ' H'.length w' r v ∧ SI F' κ' w' H' ∧ EvD H.length F κ w H F' κ' w' H'

theorem pure_calls (he : EnvOk E) {run : (β : Type) → FuncId → List PV → List AObj → (PV → List AObj → Res β) → Res β} (hr : GoOk E run) {f : FuncId} {ts : List T} (hx : E.ext f = none) (h : callPof E run f ts ≠ .stuck) {vals : List Value} (hl : vals.length = ts.length)
    (ha : ∀ (i : Nat) (x : T) (v : Value), ts[i]? = some x → vals[i]? = some v → Rd F w x v) (hfl : ∀ b, F b → b < w.heap.size) :
    (∃ fn c, E.P.funcs[f]? = some fn ∧ fn.body = some c) ∧ Calls E.P f vals.toArray w fun e w' => ∃ v, e = .returned v ∧ (∃ x F', callPof E run f ts = .ok x ∧ Out E f F' w.heap.size w' x v ∧ Grown F w F' w') ∧ w.drawn ≤ w'.drawn := by
  have hwf : T.wfs ts = true := T.wfs_iff.2 fun x hx => by
    obtain ⟨i, hi, rfl⟩ := List.getElem_of_mem hx
    exact (ha i _ _ (List.getElem?_eq_getElem hi) (List.getElem?_eq_getElem (by omega))).wf
  unfold callPof at h ⊢
  rw [hwf] at h ⊢
  simp only [cond_true, hx] at h ⊢
  obtain ⟨g1, g2⟩ := hr T f (ts.map .t) [] (outK E f) h F (fun _ => undef) w vals (by simpa using hl) (fun i p v a b => by
    rw [List.getElem?_map, Option.map_eq_some_iff] at a
    obtain ⟨x, a, rfl⟩ := a
    exact .t (ha i x v a b)) ⟨by simp, by simp, by simp, hfl⟩
  refine ⟨g1, Calls.mono g2 fun e w' => ?_⟩
  rintro ⟨v, rfl, r, H', F', κ', e1, e2, e3, e4⟩
  rw [e1] at h ⊢
  exact ⟨v, rfl, outK_sound hfl h e2 e3 e4.toEv, e4.drawn⟩

theorem callerOk_of (he : EnvOk E) {run : (β : Type) → FuncId → List PV → List AObj → (PV → List AObj → Res β) → Res β} (hn : (⟨callPof E run, run⟩ : Caller).Nat) (hr : GoOk E run) : CallerOk E ⟨callPof E run, run⟩ where
  nat := hn
  inpl := he.inpl
  pure := fun f ts h F w vals hl ha hfl => by
    cases hx : E.ext f with
    | some e =>
      have hwf : T.wfs ts = true := T.wfs_iff.2 fun x hx => by
        obtain ⟨i, hi, rfl⟩ := List.getElem_of_mem hx
        exact (ha i _ _ (List.getElem?_eq_getElem hi) (List.getElem?_eq_getElem (by omega))).wf
      have e1 : callPof E run f ts = e ts := by unfold callPof; rw [hwf, hx]; rfl
      simp only [] at h ⊢
      rw [e1] at h ⊢
      exact he.ext f e hx ts h F w vals hl ha hfl
    | none =>
      obtain ⟨g1, g2⟩ := pure_calls he hr hx h hl ha hfl
      exact invokes_of_calls he g1 g2
  go := fun β f args H K h F κ w vals hl ha s => by
    obtain ⟨g1, g2⟩ := hr β f args H K h F κ w vals hl ha s
    exact invokes_of_calls he g1 (Calls.mono g2 fun e w' ⟨v, h0, r, H', F', κ', h1, h2, h3, h4⟩ => ⟨v, h0, ⟨r, H', F', κ', h1, h2, h3, h4.toEv⟩, h4.drawn⟩)

theorem runK_ok (he : EnvOk E) : ∀ n, (recOf E n).Nat ∧ GoOk E (runK E n)
  | 0 => ⟨fun β γ g hg f args H K => hg.stuck, fun β f args H K h => absurd rfl h⟩
  | n + 1 => by
    obtain ⟨h1, h2⟩ := runK_ok he n
    have hc := callerOk_of he h1 h2
    refine ⟨fun β γ g hg f args H K => nat_funK hc.nat hg args H K, fun β f args H K h F κ w vals hl ha s => ⟨funK_body h, ?_⟩⟩
    exact funK_sound he hc h hl ha s

/-- THE LAW. -/
theorem callP_calls (he : EnvOk E) {n : Nat} {f : FuncId} {ts : List T} (hx : E.ext f = none) (h : callP E n f ts ≠ .stuck) {vals : List Value} (hl : vals.length = ts.length)
    (ha : ∀ (i : Nat) (x : T) (v : Value), ts[i]? = some x → vals[i]? = some v → Rd F w x v) (hfl : ∀ b, F b → b < w.heap.size) :
    Calls E.P f vals.toArray w fun e w' => ∃ v, e = .returned v ∧ ∃ x F', callP E n f ts = .ok x ∧ Out E f F' w.heap.size w' x v ∧ Grown F w F' w' :=
  Calls.mono (pure_calls he (runK_ok he n).2 hx h hl ha hfl).2 fun e w' ⟨v, h0, h1, _⟩ => ⟨v, h0, h1⟩
end
end Go.Sim

/- How a loop is met: the code of a loop within a function, what stands behind it, states written out. -/
namespace Go.Sim
open Go.RowKit
set_option linter.unusedVariables false

inductive Frm where
  | seq (b : Code)
  | block (id : Nat)

/-- The loop whose body begins with region r, and what stands behind it. -/
def findL (r : Nat) : Code → Option (Code × List Frm)
  | .seq a b => match findL r a with
    | some (c, fs) => some (c, fs ++ [.seq b])
    | none => findL r b
  | .block id c => match findL r c with
    | some (c', fs) => some (c', fs ++ [.block id])
    | none => none
  | .scope c => findL r c
  | .cond _ a b => match findL r a with
    | some x => some x
    | none => findL r b
  | .loop c => bif Nat.beq (firstRegion c) r then some (c, []) else none
  | _ => none

section
variable {β : Type} (E : Env) (rc : Caller) (f : FuncId) (fn : Func) (n base : Nat)
def tailK : List Frm → (Ex → St → Res β) → Ex → St → Res β
  | [], K => K
  | .seq b :: r, K => fun e st => e.k (codeK E rc f fn n base b st (tailK r K)) (fun i => tailK r K (.exit i) st) (tailK r K .ret st)
  | .block id :: r, K => fun e st => e.k (tailK r K .norm st) (fun i => if i = id then tailK r K .norm st else tailK r K (.exit i) st) (tailK r K .ret st)
def loopB (c : Code) : St → Res (Ex × St) := fun st => codeK E rc f fn n base c st fun e st => e.k (.ok (.norm, canon base (E.hint f (firstRegion c)).1 st))
      (fun i => .ok (.exit i, canon base (E.hint f (firstRegion c)).2 st)) (.ok (.ret, canon base (resTmps fn) st))
def rootK (K : PV → List AObj → Res β) : Ex → St → Res β := fun e st => e.k (resultsK E st fn.results.toList fun ps => K (pvRes ps) st.heap) (fun _ => .stuck) (resultsK E st fn.results.toList fun ps => K (pvRes ps) st.heap)
end

/-- A loop of a function. -/
def bodyL (E : Env) (n : Nat) (f : FuncId) (base r : Nat) : St → Res (Ex × St) := match E.P.funcs[f]? with
  | some fn => (match fn.body with
    | some c => (match findL r c with
      | some (c', _) => loopB E (recOf E n) f fn n base c'
      | none => fun _ => .stuck)
    | none => fun _ => .stuck)
  | none => fun _ => .stuck
/-- What stands behind it. -/
def tailL {β : Type} (E : Env) (n : Nat) (f : FuncId) (base r : Nat) (K : PV → List AObj → Res β) : Ex → St → Res β := match E.P.funcs[f]? with
  | some fn => (match fn.body with
    | some c => (match findL r c with
      | some (_, fs) => tailK E (recOf E n) f fn n base fs (rootK E fn K)
      | none => fun _ _ => .stuck)
    | none => fun _ _ => .stuck)
  | none => fun _ _ => .stuck
/-- A loop within a loop. -/
def bodyI (E : Env) (n : Nat) (f : FuncId) (base r q : Nat) : St → Res (Ex × St) := match E.P.funcs[f]? with
  | some fn => (match fn.body with
    | some c => (match findL r c with
      | some (c1, _) => (match findL q c1 with
        | some (c2, _) => loopB E (recOf E n) f fn n base c2
        | none => fun _ => .stuck)
      | none => fun _ => .stuck)
    | none => fun _ => .stuck)
  | none => fun _ => .stuck
def tailI (E : Env) (n : Nat) (f : FuncId) (base r q : Nat) : Ex → St → Res (Ex × St) := match E.P.funcs[f]? with
  | some fn => (match fn.body with
    | some c => (match findL r c with
      | some (c1, _) => (match findL q c1 with
        | some (_, fs) => tailK E (recOf E n) f fn n base fs fun e st => e.k (.ok (.norm, canon base (E.hint f (firstRegion c1)).1 st))
            (fun i => .ok (.exit i, canon base (E.hint f (firstRegion c1)).2 st)) (.ok (.ret, canon base (resTmps fn) st))
        | none => fun _ _ => .stuck)
      | none => fun _ _ => .stuck)
    | none => fun _ _ => .stuck)
  | none => fun _ _ => .stuck

/-- A loop, and what stands behind it. -/
def loopL (E : Env) (n : Nat) (f : FuncId) (r : Nat) (st : St) : Res T := (iterR (bodyL E n f 0 r) n st).bind fun p => tailL E n f 0 r (outK E f) p.1 p.2
def loopI (E : Env) (n : Nat) (f : FuncId) (r q : Nat) (st : St) : Res (Ex × St) := (iterR (bodyI E n f 0 r q) n st).bind fun p => tailI E n f 0 r q p.1 p.2

/-- Slots, written out: those that are not named are junk. -/
def slotAt : List (Nat × PV) → Nat → PV
  | [], _ => .junk
  | (j, p) :: r, i => bif Nat.beq j i then p else slotAt r i
def slots (n : Nat) (l : List (Nat × PV)) : List PV := (List.range n).map (slotAt l)

/-- Loops over a list: state by what is done and what is left. -/
theorem iterR_step {B : St → Res (Ex × St)} {n : Nat} {s s' : St} (h : B s = .ok (.norm, s')) : iterR B (n + 1) s = iterR B n s' := by simp [iterR, h, Ex.k]
theorem iterR_exit {B : St → Res (Ex × St)} {n : Nat} {s s' : St} {i : Nat} (h : B s = .ok (.exit i, s')) : iterR B (n + 1) s = .ok (.exit i, s') := by simp [iterR, h, Ex.k]
theorem iterR_ret {B : St → Res (Ex × St)} {n : Nat} {s s' : St} (h : B s = .ok (.ret, s')) : iterR B (n + 1) s = .ok (.ret, s') := by simp [iterR, h, Ex.k]

abbrev i64 (n : Int) : T := .int .i64 n
abbrev ok64 (n : Int) : Bool := kindOk .i64 n
theorem ok64_iff {n : Int} : ok64 n = true ↔ -9223372036854775808 ≤ n ∧ n ≤ 9223372036854775807 := by
  have h1 : IntKind.i64.min = -9223372036854775808 := by decide
  have h2 : IntKind.i64.max = 9223372036854775807 := by decide
  simp [ok64, kindOk, h1, h2]
theorem wrap64 {n : Int} (h : -9223372036854775808 ≤ n ∧ n ≤ 9223372036854775807) : IntKind.i64.wrap n = n := by
  rw [IntKind.wrap_i64]; omega
theorem ok64_nat {n : Nat} (h : n ≤ big) : ok64 n = true := kindOk_nat h
theorem big_val : big = 140737488355328 := rfl

end Go.Sim

/- Calls that sort a row of the caller's own. -/
namespace Go.Sim
open Go.RowKit
set_option linter.unusedVariables false
set_option linter.unusedSimpArgs false

section
variable {F F' : Nat → Prop} {κ : Nat → Value} {w w' : World} {H : List AObj}
/-- An object written anew where it lies, in a world that may have grown. -/
theorem SI.objTurn (s : SI F κ w H) {l b : Nat} {o o' : AObj} (h : H[l]? = some o) (hb : blk κ l o = some b) (hb' : blk κ l o' = some b) (hsz : w.heap.size ≤ w'.heap.size) (hoth : ∀ c, c < w.heap.size → c ≠ b → w'.heap[c]? = w.heap[c]?)
    (hro : RO F κ H.length w' l o') : SI F κ w' (H.set l o') := by
  have hl : l < H.length := (List.getElem?_eq_some_iff.1 h).1
  have hnF := (s.lt l o b h hb).2
  have hFb : ∀ c, F c → w'.heap[c]? = w.heap[c]? := fun c hc => hoth c (s.fl c hc) fun e => hnF (e ▸ hc)
  refine ⟨fun i q hi => ?_, fun i q c hi hc => ?_, fun i j q q' c hi hj hc hc' => ?_, fun c hc => Nat.lt_of_lt_of_le (s.fl c hc) hsz⟩
  · rw [List.length_set]
    rcases set_get hl hi with ⟨rfl, rfl⟩ | ⟨hne, hq⟩
    · exact hro
    · exact (s.ro i q hq).mono (fun _ h => h) hFb (fun c hc => hoth c (s.lt i q c hq hc).1 fun e => hne (s.ne i l q o b hq h (e ▸ hc) hb)) rfl fun l' hl' => ⟨rfl, (s.ro i q hq).bound l' hl'⟩
  · rcases set_get hl hi with ⟨rfl, rfl⟩ | ⟨hne, hq⟩
    · rw [hb'] at hc; injection hc with hc; subst hc; have := s.lt i o b h hb; exact ⟨Nat.lt_of_lt_of_le this.1 hsz, this.2⟩
    · have := s.lt i q c hq hc; exact ⟨Nat.lt_of_lt_of_le this.1 hsz, this.2⟩
  · rcases set_get hl hi with ⟨rfl, rfl⟩ | ⟨hne, hq⟩ <;> rcases set_get hl hj with ⟨rfl, rfl⟩ | ⟨hne', hq'⟩
    · rfl
    · rw [hb'] at hc; injection hc with hc; subst hc; exact absurd (s.ne j i q' o b hq' h hc' hb) hne'
    · rw [hb'] at hc'; injection hc' with hc'; subst hc'; exact absurd (s.ne i j q o b hq h hc hb) hne
    · exact s.ne i j q q' c hq hq' hc hc'
theorem Ev.objTurn {N0 l b : Nat} {o o' : AObj} (s : SI F κ w H) (h : H[l]? = some o) (hb : blk κ l o = some b) (hb' : blk κ l o' = some b) (hos : w'.os = w.os) (htp : w'.tape = w.tape) (hou : w'.output = w.output)
    (hsz : w.heap.size ≤ w'.heap.size) (hoth : ∀ c, c < w.heap.size → c ≠ b → w'.heap[c]? = w.heap[c]?) (h0 : N0 ≤ H.length) (hk : (∃ e k xs, o = .row e k xs) ∨ ∀ e k xs, o' ≠ .row e k xs) : Ev N0 F κ w H F κ w' (H.set l o') := by
  have hl : l < H.length := (List.getElem?_eq_some_iff.1 h).1
  refine ⟨hos, htp, hou, hsz, fun c hc hn => hoth c hc fun e => hn ⟨l, o, h, e ▸ hb⟩, fun _ h => h, fun _ h => .inl h, fun c hc => ?_, by simpa using h0, fun i q _ hi hq => ⟨rfl, ?_⟩⟩
  · obtain ⟨i, q, hi, hq⟩ := hc
    rcases set_get hl hi with ⟨rfl, rfl⟩ | ⟨hne, h2⟩
    · exact .inl ⟨i, o, h, by rw [hb]; rw [hb'] at hq; exact hq⟩
    · exact .inl ⟨i, q, h2, hq⟩
  · by_cases e : i = l
    · subst e
      rw [h] at hi
      injection hi with hi
      subst hi
      refine ⟨o', List.getElem?_set_self hl, ?_⟩
      rcases hk with ⟨e, k, xs, hk⟩ | hk
      · exact absurd hk (hq e k xs)
      · exact hk
    · exact ⟨q, by rw [List.getElem?_set_ne (fun h => e h.symm)]; exact hi, hq⟩
end
/-- What is leant on of a function that turns a row of its caller's where it lies. -/
def SrtOk (E : Env) (g : FuncId) (e k : Nat) (xs rest : List T) (R : List T → Prop) : Prop := ∀ (F : Nat → Prop) (κ : Nat → Value) (w : World) (H : List AObj) (l : Nat) (vals : List Value), SI F κ w H → H[l]? = some (.row e k xs) →
  vals.length = rest.length → (∀ (i : Nat) (x : T) (v : Value), rest[i]? = some x → vals[i]? = some v → Rd F w x v) →
  Invokes E.P g (κ l :: vals).toArray w fun r w' => r = .tuple #[] ∧ w.grownBy w' (κ l).ownBlock ∧ ∃ ys, R ys ∧ Row F w' e k ys (κ l)
theorem srt_sound {E : Env} {g : FuncId} {e k N0 : Nat} {xs rest : List T} {R : List T → Prop} (hs : SrtOk E g e k xs rest R) {F : Nat → Prop} {κ : Nat → Value} {w : World} {st : St} {tm : Array Value} {l : Nat} {vals : List Value} (h0 : N0 ≤ st.heap.length) (s : SI F κ w st.heap) (ht : TR F κ w st tm)
    (ho : st.heap[l]? = some (.row e k xs)) (hne : xs ≠ []) (hl : vals.length = rest.length) (hr : ∀ (i : Nat) (x : T) (v : Value), rest[i]? = some x → vals[i]? = some v → Rd F w x v) :
    Invokes E.P g (κ l :: vals).toArray w fun r w' => r = .tuple #[] ∧ ∃ ys, R ys ∧ Next' N0 F κ w st tm (.t (.tup [])) (.tuple #[]) F κ w' ⟨st.tmps, st.heap.set l (.row e k ys)⟩ := by
  refine (hs F κ w st.heap l vals s ho hl hr).mono fun r w' => ?_
  rintro ⟨rfl, hg, ys, hR, hrow⟩
  refine ⟨rfl, ys, hR, ?_⟩
  obtain ⟨b, hb⟩ : ∃ b, (κ l).ownBlock = some b := by
    obtain ⟨cs, h1, _⟩ := s.ro l _ ho
    rcases h1.2 with ⟨_, e2⟩ | ⟨g, cap, cur, e1, _⟩
    · exact absurd (List.eq_nil_of_length_eq_zero e2) hne
    · exact ⟨g, by rw [e1]; rfl⟩
  have hoth : ∀ c, c < w.heap.size → c ≠ b → w'.heap[c]? = w.heap[c]? := fun c hc hn => hg.block c hc (by rw [hb]; intro h; injection h with h; exact hn h)
  have hnF := (s.lt l _ b ho hb).2
  have hro : RO F κ st.heap.length w' l (.row e k ys) := hrow.ro rfl
  refine ⟨s.objTurn ho hb hb hg.size hoth hro, Ev.objTurn s ho hb hb hg.os hg.tape hg.output hg.size hoth h0 (.inl ⟨_, _, _, rfl⟩), .t (.tup (vs := []) rfl fun i q v a1 a2 => by simp at a1), rfl, fun i q v a1 a2 => ?_⟩
  simp only [] at a1
  show RP F κ (st.heap.set l (.row e k ys)).length w' q v
  rw [List.length_set]
  exact (ht i q v a1 a2).mono (fun _ h => h) (fun c hc => hoth c (s.fl c hc) fun e => hnF (e ▸ hc)) fun l' hl' => ⟨rfl, (ht i q v a1 a2).bound l' hl'⟩
theorem find_align {F : Nat → Prop} {w : World} {n : Nat} {e : T × T × Nat} : ∀ {es : List (T × T × Nat)} {ms : List MapEntry}, ms.length = es.length →
    (∀ (i : Nat) (x : T × T × Nat) (m : MapEntry), es[i]? = some x → ms[i]? = some m → Rd F w x.1 m.key ∧ Rd F w x.2.1 m.val ∧ m.born = x.2.2) → (es.find? fun x => x.2.2 == n) = some e →
    ∃ m, (ms.find? fun m => m.born == n) = some m ∧ Rd F w e.1 m.key ∧ Rd F w e.2.1 m.val
  | [], _, _, _, h => by simp at h
  | _ :: _, [], hl, _, _ => by simp at hl
  | x :: es, m :: ms, hl, hr, h => by
    obtain ⟨r1, r2, r3⟩ := hr 0 x m rfl rfl
    rw [List.find?_cons] at h ⊢
    rw [r3]
    cases hb : x.2.2 == n with
    | true =>
      rw [hb] at h
      simp only [Option.some.injEq] at h
      subst h
      exact ⟨m, rfl, r1, r2⟩
    | false =>
      rw [hb] at h
      exact find_align (by simpa using hl) (fun i y q a b => hr (i + 1) y q (by simpa using a) (by simpa using b)) h
end Go.Sim

/- Functions that range over maps: what must hold, whichever entry comes next. -/
namespace Go.Sim
open Go.RowKit
set_option linter.unusedVariables false
set_option linter.unusedSimpArgs false

section
variable (E : Env) (rc : Caller) (f : FuncId) (fn : Func) (base : Nat)

def leftE (seen : List Nat) (es : List (T × T × Nat)) : List (T × T × Nat) := es.filter fun e => !seen.contains e.2.2
def nextD (l m since : Nat) (seen : List Nat) (last : Nat) (es : List (T × T × Nat)) (c : Nat) (d : Option Tmp) (st : St) (Q : St → Prop) : Prop :=
  (∀ e ∈ es, e.2.2 < since) ∧ (seen = [] ∨ es = [] ∨ ∃ e ∈ es, e.2.2 < last) ∧
    (leftE seen es = [] → Q ⟨setT st.tmps d (.t (.tup [.bool false])), st.heap⟩) ∧ ∀ e ∈ leftE seen es, Q ⟨setT st.tmps d (.t (.tup [.bool true, e.1, e.2.1])), st.heap.set l (.iter m since (seen ++ [e.2.2]) c)⟩
def stepD (ops : Array Oper) (o : Oper) (st : St) (Q : St → Prop) : Prop := match o.guard, o.op with
  | none, .range t x => ∃ m es c, evalO E.P st.tmps t x = some (.mp m) ∧ st.heap[m]? = some (.map es c) ∧ (mapP E.P t).isSome = true ∧ Q ⟨setT st.tmps o.dst (.ptr st.heap.length 0), st.heap ++ [.iter m c [] c]⟩
  | none, .next x false => ∃ l m since seen last es c, evalO E.P st.tmps 0 x = some (.ptr l 0) ∧ st.heap[l]? = some (.iter m since seen last) ∧ st.heap[m]? = some (.map es c) ∧ nextD l m since seen last es c o.dst st Q
  | none, .entry x => ∃ l m since seen es c n e, evalO E.P st.tmps 0 x = some (.ptr l 0) ∧ st.heap[l]? = some (.iter m since (seen ++ [n]) c) ∧ st.heap[m]? = some (.map es c) ∧ (es.find? fun x => x.2.2 == n) = some e ∧ Q ⟨setT st.tmps o.dst (.t (.tup [e.1, e.2.1])), st.heap⟩
  | none, .call ⟨.value (.func g), args, tys⟩ => (∃ l e k xs rest R, evalOs E.P st.tmps (fun i => tys.getD i 0) 0 args.toList = some (.own l :: rest.map .t) ∧ st.heap[l]? = some (.row e k xs) ∧ xs ≠ [] ∧ SrtOk E g e k xs rest R ∧
      ∀ ys, R ys → Q ⟨setT st.tmps o.dst (.t (.tup [])), st.heap.set l (.row e k ys)⟩) ∨ (∃ st', opsK E rc ops [(o, false)] st (fun s => (.ok s : Res St)) = .ok st' ∧ Q st')
  | _, _ => ∃ st', opsK E rc ops [(o, false)] st (fun s => (.ok s : Res St)) = .ok st' ∧ Q st'
def opsD (ops : Array Oper) : List Oper → St → (St → Prop) → Prop
  | [], st, Q => Q st
  | o :: r, st, Q => stepD E rc ops o st fun st => opsD ops r st Q
def Ex.kP (e : Ex) (n : Prop) (x : Nat → Prop) (r : Prop) : Prop := match e with
  | .norm => n
  | .exit i => x i
  | .ret => r
/-- What a region comes to, shown of the machine itself. -/
def RegSem (c : Code) (st : St) (Q : St → Prop) : Prop := ∀ (base : Nat) (F : Nat → Prop) (κ : Nat → Value) (a : Act) (w : World) (R : Exit → Act → World → Prop), base ≤ st.heap.length → Rel F κ st a w →
  (∀ st' F' κ' a' w', Q st' → Rel F' κ' st' a' w' → EvD base F κ w st.heap F' κ' w' st'.heap → R .normal a' w') → c.wp E.P R a w
/-- What a code comes to, whichever entries come. -/
def codeD : Code → St → (Ex → St → Prop) → Prop
  | .skip, st, Q => Q .norm st
  | .region id ops dr, st, Q => (bif dr then drawOk ops = true ∧ ∃ st', opsK E rc ops (drawFlags ops) st (fun s => (.ok s : Res St)) = .ok st' ∧ Q .norm st' else opsD E rc ops ops.toList st (Q .norm)) ∨ RegSem E (.region id ops dr) st (Q .norm)
  | .seq a b, st, Q => codeD a st fun e st => e.kP (codeD b st Q) (fun i => Q (.exit i) st) (Q .ret st)
  | .cond c a b, st, Q => ∃ v, evalO E.P st.tmps 0 c = some (.t (.bool v)) ∧ bif v then codeD a st Q else codeD b st Q
  | .block id c, st, Q => codeD c st fun e st => e.kP (Q .norm st) (fun i => if i = id then Q .norm st else Q (.exit i) st) (Q .ret st)
  | .loop c, st, Q => ∃ I : Nat → St → Prop, (∃ n, I n (canon base (E.hint f (firstRegion c)).1 st)) ∧ ∀ n st, I n st → codeD c st fun e st =>
      e.kP (∃ m, m < n ∧ I m (canon base (E.hint f (firstRegion c)).1 st)) (fun i => Q (.exit i) (canon base (E.hint f (firstRegion c)).2 st)) (Q .ret (canon base (resTmps fn) st))
  | .exit id, st, Q => Q (.exit id) st
  | .scope c, st, Q => codeD c st Q
  | .label _, st, Q => Q .norm st
  | .ret, st, Q => Q .ret st
  | _, _, _ => False
end

section
variable {E : Env} {rc : Caller} {f : FuncId} {fn : Func} {base : Nat} {ops : Array Oper}

theorem stepD_sound (hc : CallerOk E rc) {o : Oper} {st : St} {Q : St → Prop} {F : Nat → Prop} {κ : Nat → Value} {a : Act} {w : World} {rest : List Oper} {R : Exit → Act → World → Prop} (h : stepD E rc ops o st Q) (h0 : base ≤ st.heap.length) (rel : Rel F κ st a w)
    (hq : ∀ st' F' κ' a' w', Q st' → Rel F' κ' st' a' w' → EvD base F κ w st.heap F' κ' w' st'.heap → wpList E.P ops R rest a' w') : wpList E.P ops R (o :: rest) a w := by
  have plain : (∃ st', opsK E rc ops [(o, false)] st (fun s => (.ok s : Res St)) = .ok st' ∧ Q st') → wpList E.P ops R (o :: rest) a w := by
    rintro ⟨st', e, hQ⟩
    rw [opsK_one] at e
    simp only [wpList]
    cases hg : guardOf ops st.tmps o with
    | none => rw [hg] at e; cases e
    | some b =>
      rw [hg] at e
      rw [guard_wanted rel hg]
      cases b with
      | true =>
        simp only [if_true] at e ⊢
        refine .inl (opK_sound (N0 := base) (K := fun p st' => opsK E rc ops [] ⟨setT st'.tmps o.dst p, st'.heap⟩ (fun s => (.ok s : Res St))) hc (by rw [e]; simp) h0 rel fun p u st2 F' κ' w' e2 hn hdr => ?_)
        rw [e] at e2
        simp only [opsK, Res.ok.injEq] at e2
        subst e2
        exact hq _ F' κ' _ w' hQ (hn.rel rel _) ⟨hn.ev, hdr⟩
      | false =>
        simp only [Bool.false_eq_true, if_false, opsK, Res.ok.injEq] at e ⊢
        subst e
        exact hq _ F κ _ w hQ (rel.skip _) (EvD.refl h0)
  have s := rel.si
  have ht : TR F κ w st a.tmps := rel.tr
  obtain ⟨dst, op, type, pos, after, guard⟩ := o
  unfold stepD at h
  split at h
  · -- range
    rename_i t x hgd hop
    simp only [] at hgd hop h
    subst hgd; subst hop
    obtain ⟨m, es, c, e1, e2, e3, hQ⟩ := h
    have hv := evalO_sound rel.tl ht e1
    generalize hve : a.eval x = v at hv
    cases hv with
    | @mp _ b hN hk =>
    obtain ⟨b', ms, h1, h2, h3, h4⟩ := s.ro m _ e2
    rw [hk] at h1
    injection h1 with h1
    injection h1 with h1
    subst h1
    cases hmp : mapP E.P t with
    | none => rw [hmp] at e3; cases e3
    | some ke =>
    have hu := mapP_underlying (k := ke.1) (e := ke.2) hmp
    have nx := Next'.push (N0 := base) (tm := a.tmps) (o := .iter m c [] c) (u := .pointer (some ⟨w.heap.size, 0, none⟩)) (w' := w.alloc (.mapIter (some b) c #[] c)) (F' := F) (p := .ptr st.heap.length 0) h0 s ht rfl rfl rfl (by simp) (fun b hb => Below.heap_alloc w _ b hb) (fun _ h => h) (fun _ h => .inl h) (fun b hb => Nat.lt_of_lt_of_le (s.fl b hb) (by simp))
      ⟨w.heap.size, b, upd_same _ _ _, by rw [upd_other _ _ (by omega)]; exact hk, by omega, heap_alloc_new' w _⟩
      (fun b hb => by
        simp only [blk, upd_same, ptrBlock, Option.some.injEq] at hb
        subst hb
        exact ⟨Nat.le_refl _, by simp, fun hf => by have := s.fl _ hf; omega⟩)
      (.ptr (Nat.lt_succ_self _) (upd_same _ _ _))
    simp only [wpList]
    rw [if_pos (by rfl)]
    refine .inl (wp_value (u := .pointer (some ⟨w.heap.size, 0, none⟩)) (w' := w.alloc (.mapIter (some b) c #[] c)) ?_ (fun hdr => hq _ _ _ _ _ hQ (nx.rel rel _) ⟨nx.ev, hdr⟩))
    simp only [execOp, hve, Sem.run_bind]
    simp [Instr.range, run_underlying hu, MapKept.run_getObj_map h2, Result.andThen_ok]
  · -- next
    rename_i x hgd hop
    simp only [] at hgd hop h
    subst hgd; subst hop
    obtain ⟨l, m, since, seen, last, es, c, e1, e2, e3, n1, n2, n3, n4⟩ := h
    have hv := evalO_sound rel.tl ht e1
    generalize hve : a.eval x = v at hv
    cases hv with
    | @ptr _ _ b hN hk =>
    obtain ⟨b', bm, h1, h2, h3, h4⟩ := s.ro l _ e2
    rw [hk] at h1
    injection h1 with h1
    injection h1 with h1
    injection h1 with h1
    subst h1
    obtain ⟨bm', ms, g1, g2, g3, g4⟩ := s.ro m _ e3
    rw [h2] at g1
    injection g1 with g1
    injection g1 with g1
    subst g1
    have en : Ents F w es ms.toList := ⟨by simpa using g3, fun i x y a b => g4 i x y a (by simpa using b)⟩
    -- entries, as they lie
    have hborn : ∀ mm ∈ ms, ∃ (i : Nat) (e : T × T × Nat), es[i]? = some e ∧ ms[i]? = some mm ∧ Rd F w e.1 mm.key ∧ Rd F w e.2.1 mm.val ∧ mm.born = e.2.2 := fun mm hm => by
      obtain ⟨i, hi, rfl⟩ := Array.getElem_of_mem hm
      have hi' : i < es.length := by omega
      obtain ⟨r1, r2, r3⟩ := en.2 i es[i] ms[i] (List.getElem?_eq_getElem hi') (by simp [hi])
      exact ⟨i, es[i], List.getElem?_eq_getElem hi', Array.getElem?_eq_getElem hi, r1, r2, r3⟩
    have hnew : (ms.filter fun e : MapEntry => !seen.toArray.contains e.born).filter (fun e : MapEntry => decide (e.born ≥ since)) = #[] := by
      rw [Array.filter_eq_empty_iff]
      intro mm hm
      rw [Array.mem_filter] at hm
      obtain ⟨i, e, q1, q2, _, _, q3⟩ := hborn mm hm.1
      have := n1 e (List.mem_of_getElem? q1)
      simp; omega
    have hold : (ms.filter fun e : MapEntry => !seen.toArray.contains e.born).filter (fun e : MapEntry => decide (e.born < since)) = ms.filter fun e : MapEntry => !seen.toArray.contains e.born := by
      rw [Array.filter_eq_self]
      intro mm hm
      rw [Array.mem_filter] at hm
      obtain ⟨i, e, q1, q2, _, _, q3⟩ := hborn mm hm.1
      have := n1 e (List.mem_of_getElem? q1)
      simp; omega
    have hcond : (!seen.toArray.isEmpty && !ms.isEmpty && ms.all (·.born ≥ last)) = false := by
      rcases n2 with rfl | rfl | ⟨e, he, hlt⟩
      · rfl
      · have : ms = #[] := Array.eq_empty_of_size_eq_zero (by simpa using g3)
        subst this; simp
      · rw [Bool.and_eq_false_iff]
        right
        rw [Bool.eq_false_iff]
        intro hall
        obtain ⟨i, hi⟩ := List.getElem?_of_mem he
        have hi' : i < ms.size := by rw [g3]; exact (List.getElem?_eq_some_iff.1 hi).1
        have hb := (en.2 i e ms[i] hi (by simp [hi'])).2.2
        have := Array.all_eq_true_iff_forall_mem.1 hall ms[i] (Array.getElem_mem hi')
        simp at this; omega
    have hleft : ∀ mm ∈ ms.filter (fun e : MapEntry => !seen.toArray.contains e.born), ∃ e ∈ leftE seen es, Rd F w e.1 mm.key ∧ Rd F w e.2.1 mm.val ∧ mm.born = e.2.2 := fun mm hm => by
      rw [Array.mem_filter] at hm
      obtain ⟨i, e, q1, q2, r1, r2, q3⟩ := hborn mm hm.1
      refine ⟨e, List.mem_filter.2 ⟨List.mem_of_getElem? q1, ?_⟩, r1, r2, q3⟩
      have := hm.2
      simpa [q3] using this
    have hempty : (ms.filter fun e : MapEntry => !seen.toArray.contains e.born) = #[] → leftE seen es = [] := fun he => by
      unfold leftE
      rw [List.filter_eq_nil_iff]
      intro e hm hs
      obtain ⟨i, hi⟩ := List.getElem?_of_mem hm
      have hi' : i < ms.size := by rw [g3]; exact (List.getElem?_eq_some_iff.1 hi).1
      have hb := (en.2 i e ms[i] hi (by simp [hi'])).2.2
      have : ms[i] ∈ ms.filter fun e => !seen.toArray.contains e.born := Array.mem_filter.2 ⟨Array.getElem_mem hi', by simpa [hb] using hs⟩
      rw [he] at this; simp at this
    simp only [wpList]
    rw [if_pos (by rfl)]
    have hgi : (getObj b).run E.P w = .ok (.mapIter (some bm) since seen.toArray last) w := by simp [getObj, Sem.run, h4]
    have hrel2 : Rel F κ st a { w with drawn := w.drawn + 1 } := rel.drew
    have hnF := (s.lt l _ b e2 (by simp [blk, hk, ptrBlock])).2
    have hblt := (s.lt l _ b e2 (by simp [blk, hk, ptrBlock])).1
    -- one entry that is taken
    have take : ∀ (w1 : World), w1.os = w.os → w1.tape = w.tape → w1.output = w.output → w1.heap = w.heap → w.drawn ≤ w1.drawn → ∀ mm ∈ ms.filter (fun e : MapEntry => !seen.toArray.contains e.born),
        ∃ w2, (setObj b (.mapIter (some bm) since (seen.toArray.push mm.born) c)).run E.P w1 = .ok () w2 ∧ wpList E.P ops R rest (a.put dst (.tuple #[.bool true, mm.key, mm.val])) w2 := fun w1 o1 o2 o3 o4 o5 mm hmm => by
      obtain ⟨e, he, r1, r2, r3⟩ := hleft mm hmm
      have hoth : ∀ d, d ≠ b → (w1.heap.setIfInBounds b (.mapIter (some bm) since (seen.toArray.push mm.born) c))[d]? = w.heap[d]? := fun d hd => by rw [o4]; exact Array.getElem?_setIfInBounds_ne (fun h => hd h.symm)
      have hFb : ∀ d, F d → (w1.heap.setIfInBounds b (.mapIter (some bm) since (seen.toArray.push mm.born) c))[d]? = w.heap[d]? := fun d hd => hoth d fun e => hnF (e ▸ hd)
      have hbl : ∀ (a' : Nat) (x' : List Nat) (c' : Nat), blk κ l (.iter m a' x' c') = some b := fun a' x' c' => by simp only [blk, hk, ptrBlock]
      refine ⟨{ w1 with heap := w1.heap.setIfInBounds b (.mapIter (some bm) since (seen.toArray.push mm.born) c) }, by simp [setObj, Sem.run, o4, h4], ?_⟩
      refine hq _ F κ _ _ (n4 e he) ?_ ⟨Ev.objSet (w' := { w1 with heap := w1.heap.setIfInBounds b (.mapIter (some bm) since (seen.toArray.push mm.born) c) }) e2 (hbl _ _ _) (hbl _ _ _) o1 o2 o3 (by simp [o4]) hoth h0 (.inr fun _ _ _ h => by cases h), o5⟩
      have hlen : l < st.heap.length := (List.getElem?_eq_some_iff.1 e2).1
      have hsi := s.objSet (w' := { w1 with heap := w1.heap.setIfInBounds b (.mapIter (some bm) since (seen.toArray.push mm.born) c) }) (o' := .iter m since (seen ++ [e.2.2]) c) e2 (hbl _ _ _) (hbl _ _ _) (by simp [o4]) hoth
        ⟨b, bm, hk, h2, h3, by
          show (w1.heap.setIfInBounds b _)[b]? = _
          rw [Array.getElem?_setIfInBounds_self_of_lt (by rw [o4]; exact hblt), r3]; simp⟩
      have hval : RP F κ (st.heap.set l (.iter m since (seen ++ [e.2.2]) c)).length { w1 with heap := w1.heap.setIfInBounds b (.mapIter (some bm) since (seen.toArray.push mm.born) c) } (.t (.tup [.bool true, e.1, e.2.1])) (.tuple #[.bool true, mm.key, mm.val]) := by
        refine .t (.tup (vs := [.bool true, mm.key, mm.val]) rfl fun i q r a1 a2 => ?_)
        match i with
        | 0 => simp at a1 a2; subst a1; subst a2; exact .bool
        | 1 => simp at a1 a2; subst a1; subst a2; exact r1.mono (fun _ h => h) hFb
        | 2 => simp at a1 a2; subst a1; subst a2; exact r2.mono (fun _ h => h) hFb
        | i + 3 => simp at a1
      refine ⟨by rw [setT_len, put_size]; exact rel.tl, setT_tr rel.tl (fun i q v a1 a2 => ?_) hval dst, by rw [put_defers]; exact rel.dn, hsi⟩
      rw [List.length_set]
      exact (ht i q v a1 a2).mono (fun _ h => h) hFb fun l hl => ⟨rfl, (ht i q v a1 a2).bound l hl⟩
    have hover : ∀ (w1 : World), w1.os = w.os → w1.tape = w.tape → w1.output = w.output → w1.heap = w.heap → w.drawn ≤ w1.drawn → leftE seen es = [] → wpList E.P ops R rest (a.put dst (.tuple #[.bool false])) w1 := fun w1 o1 o2 o3 o4 o5 he => by
      have hsi : SI F κ w1 st.heap := ⟨fun l o h => (s.ro l o h).mono (fun _ h => h) (fun b _ => by rw [o4]) (fun b _ => by rw [o4]) rfl (fun l' hl' => ⟨rfl, (s.ro l o h).bound l' hl'⟩), fun l o b h1 h2 => by rw [o4]; exact s.lt l o b h1 h2, s.ne, fun b hb => by rw [o4]; exact s.fl b hb⟩
      refine hq _ F κ _ w1 (n3 he) ⟨by rw [setT_len, put_size]; exact rel.tl, setT_tr rel.tl (fun i q v a1 a2 => (ht i q v a1 a2).mono (fun _ h => h) (fun b _ => by rw [o4]) fun l hl => ⟨rfl, (ht i q v a1 a2).bound l hl⟩) ?_ dst, by rw [put_defers]; exact rel.dn, hsi⟩ ⟨⟨o1, o2, o3, by rw [o4]; exact Nat.le_refl _, fun b _ _ => by rw [o4], fun _ h => h, fun _ h => .inl h, fun b h => .inl h, h0, fun l o _ h1 h2 => ⟨rfl, o, h1, h2⟩⟩, o5⟩
      refine .t (.tup (vs := [.bool false]) rfl fun i q r a1 a2 => ?_)
      match i with
      | 0 => simp at a1 a2; subst a1; subst a2; exact .bool
      | i + 1 => simp at a1
    -- the machine's choice
    have hrun : ∀ (nx : Act → World → Prop), (∀ w1 : World, w1.os = w.os → w1.tape = w.tape → w1.output = w.output → w1.heap = w.heap → w.drawn ≤ w1.drawn → leftE seen es = [] → nx (a.put dst (.tuple #[.bool false])) w1) →
        (∀ w1 : World, w1.os = w.os → w1.tape = w.tape → w1.output = w.output → w1.heap = w.heap → w.drawn ≤ w1.drawn → ∀ mm ∈ ms.filter (fun e : MapEntry => !seen.toArray.contains e.born), ∃ w2, (setObj b (.mapIter (some bm) since (seen.toArray.push mm.born) c)).run E.P w1 = .ok () w2 ∧ nx (a.put dst (.tuple #[.bool true, mm.key, mm.val])) w2) →
        Oper.wp E.P ⟨dst, .next x false, type, pos, after, none⟩ a w nx R := fun nx hn1 hn2 => by
      have fin : ∀ (w1 : World) (i : Nat), w1.os = w.os → w1.tape = w.tape → w1.output = w.output → w1.heap = w.heap → w.drawn ≤ w1.drawn →
          (i < ((if (ms.filter fun e : MapEntry => !seen.toArray.contains e.born).isEmpty then #[none] else #[]) ++ (ms.filter fun e : MapEntry => !seen.toArray.contains e.born).map some).size) →
          ∃ u w2, ((match ((if (ms.filter fun e : MapEntry => !seen.toArray.contains e.born).isEmpty then #[none] else #[]) ++ (ms.filter fun e : MapEntry => !seen.toArray.contains e.born).map some)[i]? with
            | some (some e) => do setObj b (.mapIter (some bm) since (seen.toArray.push e.born) c); pure (.tuple #[.bool true, e.key, e.val])
            | some none => pure (.tuple #[.bool false])
            | none => stuck "Next: no such candidate" : Sem Value).run E.P w1) = .ok u w2 ∧ nx (a.put dst u) w2 := fun w1 i o1 o2 o3 o4 o5 hi => by
        generalize hL : (ms.filter fun e : MapEntry => !seen.toArray.contains e.born) = L at hi hn2 hempty ⊢
        cases hLe : L.isEmpty with
        | true =>
          have : L = #[] := by simpa using hLe
          subst this
          simp only [Array.isEmpty_empty, if_true, Array.map_empty, Array.append_empty] at hi ⊢
          obtain rfl : i = 0 := by simpa using hi
          exact ⟨_, w1, rfl, hn1 w1 o1 o2 o3 o4 o5 (hempty rfl)⟩
        | false =>
          simp only [hLe, Bool.false_eq_true, if_false, Array.empty_append, Array.size_map] at hi ⊢
          have hg : (L.map some)[i]? = some (some L[i]) := by simp [hi]
          rw [hg]
          obtain ⟨w2, q1, q2⟩ := hn2 w1 o1 o2 o3 o4 o5 L[i] (Array.getElem_mem hi)
          exact ⟨_, w2, by simp only [Sem.run_bind, q1, Result.andThen_ok, Sem.run_pure], q2⟩
      have hpos : 0 < ((if (ms.filter fun e : MapEntry => !seen.toArray.contains e.born).isEmpty then #[none] else #[]) ++ (ms.filter fun e : MapEntry => !seen.toArray.contains e.born).map some).size := by
        cases hLe : (ms.filter fun e : MapEntry => !seen.toArray.contains e.born).isEmpty with
        | true => simp; omega
        | false => simp at hLe ⊢; simpa [Array.size_pos_iff] using hLe
      have hexec : (execOp a.eval ⟨dst, .next x false, type, pos, after, none⟩).run E.P w = ((do
          let i ← choose (.mapNext ((if (ms.filter fun e : MapEntry => !seen.toArray.contains e.born).isEmpty then #[none] else #[]) ++ (ms.filter fun e : MapEntry => !seen.toArray.contains e.born).map some).size)
          let u ← (match ((if (ms.filter fun e : MapEntry => !seen.toArray.contains e.born).isEmpty then #[none] else #[]) ++ (ms.filter fun e : MapEntry => !seen.toArray.contains e.born).map some)[i]? with
            | some (some e) => do setObj b (.mapIter (some bm) since (seen.toArray.push e.born) c); pure (.tuple #[.bool true, e.key, e.val])
            | some none => pure (.tuple #[.bool false])
            | none => stuck "Next: no such candidate" : Sem Value)
          pure (.value u) : Sem Next)).run E.P w := by
        simp only [execOp, hve, Instr.next, Sem.run_bind, hgi, Result.andThen_ok, MapKept.run_getObj_map g2, hcond, Bool.false_eq_true, if_false, hold, hnew, Array.append_empty]
        generalize (choose (.mapNext ((if (ms.filter fun e : MapEntry => !seen.toArray.contains e.born).isEmpty then #[none] else #[]) ++ (ms.filter fun e : MapEntry => !seen.toArray.contains e.born).map some).size)).run E.P w = r
        cases r <;> rfl
      generalize hcand : ((if (ms.filter fun e : MapEntry => !seen.toArray.contains e.born).isEmpty then #[none] else #[]) ++ (ms.filter fun e : MapEntry => !seen.toArray.contains e.born).map some) = cand at hexec fin hpos
      have pick : ∃ (i : Nat) (w1 : World), (choose (.mapNext cand.size)).run E.P w = .ok i w1 ∧ i < cand.size ∧ w1.os = w.os ∧ w1.tape = w.tape ∧ w1.output = w.output ∧ w1.heap = w.heap ∧ w.drawn ≤ w1.drawn := by
        rw [run_choose]
        by_cases hf : (Question.mapNext cand.size).forced = true
        · exact ⟨0, w, by rw [if_pos hf], hpos, rfl, rfl, rfl, rfl, Nat.le_refl _⟩
        · exact ⟨w.tape w.drawn (.mapNext cand.size) % cand.size, { w with drawn := w.drawn + 1 }, by rw [if_neg hf]; rfl, Nat.mod_lt _ hpos, rfl, rfl, rfl, rfl, Nat.le_succ _⟩
      obtain ⟨i, w1, p1, p2, p3, p4, p5, p6, p7⟩ := pick
      obtain ⟨u, w2, q1, q2⟩ := fin w1 i p3 p4 p5 p6 p7 p2
      refine wp_value (u := u) (w' := w2) ?_ (fun _ => q2)
      rw [hexec]
      simp only [Sem.run_bind, p1, Result.andThen_ok, q1, Sem.run_pure]
    exact .inl (hrun _ hover take)
  · -- the entry that has come
    rename_i x hgd hop
    simp only [] at hgd hop h
    subst hgd; subst hop
    obtain ⟨l, m, since, seen, es, c, n, e, e1, e2, e3, e4, hQ⟩ := h
    have hv := evalO_sound rel.tl ht e1
    generalize hve : a.eval x = v at hv
    cases hv with
    | @ptr _ _ b hN hk =>
    obtain ⟨b', bm, h1, h2, h3, h4⟩ := s.ro l _ e2
    rw [hk] at h1
    injection h1 with h1
    injection h1 with h1
    injection h1 with h1
    subst h1
    obtain ⟨bm', ms, g1, g2, g3, g4⟩ := s.ro m _ e3
    rw [h2] at g1
    injection g1 with g1
    injection g1 with g1
    subst g1
    obtain ⟨mm, f1, f2, f3⟩ := find_align (es := es) (ms := ms.toList) (by simpa using g3) (fun i x y a b => g4 i x y a (by simpa using b)) e4
    rw [Array.find?_toList] at f1
    have hval : RP F κ st.heap.length w (.t (.tup [e.1, e.2.1])) (.tuple #[mm.key, mm.val]) := by
      refine .t (.tup (vs := [mm.key, mm.val]) rfl fun i q r a1 a2 => ?_)
      match i with
      | 0 => simp at a1 a2; subst a1; subst a2; exact f2
      | 1 => simp at a1 a2; subst a1; subst a2; exact f3
      | i + 2 => simp at a1
    have hgi : (getObj b).run E.P w = .ok (.mapIter (some bm) since (seen ++ [n]).toArray c) w := by simp [getObj, Sem.run, h4]
    have hbk : ((seen ++ [n]).toArray : Array Nat).back? = some n := by simp
    simp only [wpList]
    rw [if_pos (by rfl)]
    refine .inl (wp_value (u := .tuple #[mm.key, mm.val]) (w' := w) ?_ (fun _ => hq _ _ _ _ _ hQ ((Next'.same (N0 := base) h0 s ht hval).rel rel _) (EvD.refl h0)))
    simp only [execOp, hve, Instr.entry, Sem.run_bind, hgi, Result.andThen_ok, hbk, MapKept.run_getObj_map g2, bne_self_eq_false, Bool.false_eq_true, if_false, f1, Sem.run_pure]
  · -- a call that may sort
    rename_i g args tys hgd hop
    rcases h with h | h
    · simp only [] at hgd hop h
      subst hgd; subst hop
      obtain ⟨l, e, k, xs, rs, R', e1, e2, e3, e4, hQ⟩ := h
      obtain ⟨a1, a2⟩ := evalOs_sound rel.tl ht e1
      simp only [wpList]
      rw [if_pos (by rfl)]
      refine .inl ?_
      unfold Oper.wp
      rw [show execOp a.eval ⟨dst, .call ⟨.value (.func g), args, tys⟩, type, pos, after, none⟩ = callFunc g (args.map a.eval) by simp [execOp, resolve, Act.eval, Deferred.ofValue, invoke]]
      cases hm : args.toList.map a.eval with
      | nil => rw [List.map_eq_nil_iff] at hm; rw [hm] at a1; simp at a1
      | cons v vals =>
        rw [hm] at a2
        have hv := a2 0 _ v rfl rfl
        have hlen := congrArg List.length hm
        simp only [List.length_map, List.length_cons, Array.length_toList] at hlen a1
        have hvk : κ l = v := by cases hv with | own hN hk => exact hk
        have hargs : args.map a.eval = (κ l :: vals).toArray := by rw [hvk, ← hm, ← Array.toList_map]
        rw [hargs]
        refine (srt_sound (N0 := base) (tm := a.tmps) e4 h0 s ht e2 e3 (by omega) (fun i x v b1 b2 => ?_)).upon fun v w' => ?_
        · have := a2 (i + 1) (.t x) v (by simp [b1]) (by simpa using b2)
          cases this with | t h => exact h
        · rintro ⟨rfl, ys, hR, hn⟩ hdr
          exact hq _ F κ _ w' (hQ ys hR) (hn.rel rel _) ⟨hn.ev, hdr⟩
    · exact plain h
  · exact plain h
end
end Go.Sim

/- Functions that range over maps: what holds of their code holds of the machine. -/
namespace Go.Sim
open Go.RowKit
set_option linter.unusedVariables false
set_option linter.unusedSimpArgs false
set_option linter.unusedSectionVars false

section
variable {E : Env} {rc : Caller} {f : FuncId} {fn : Func} {base : Nat} {ops : Array Oper}

theorem opsD_sound (hc : CallerOk E rc) {R : Exit → Act → World → Prop} : ∀ {l : List Oper} {st : St} {Q : St → Prop} {F : Nat → Prop} {κ : Nat → Value} {a : Act} {w : World}, opsD E rc ops l st Q → base ≤ st.heap.length → Rel F κ st a w →
    (∀ st' F' κ' a' w', Q st' → Rel F' κ' st' a' w' → EvD base F κ w st.heap F' κ' w' st'.heap → R .normal a' w') → wpList E.P ops R l a w
  | [], st, Q, F, κ, a, w, h, h0, rel, hq => hq st F κ a w h rel (EvD.refl h0)
  | o :: r, st, Q, F, κ, a, w, h, h0, rel, hq => by
    refine stepD_sound (base := base) hc h h0 rel fun st' F' κ' a' w' h1 r1 ev1 => ?_
    exact opsD_sound hc h1 ev1.hl r1 fun st2 F2 κ2 a2 w2 h2 r2 ev2 => hq st2 F2 κ2 a2 w2 h2 r2 (ev1.trans ev2)
theorem codeD_sound (hm : E.P.follows .mixedOrders = true) (hc : CallerOk E rc) : ∀ (c : Code) (st : St) (Q : Ex → St → Prop) (F : Nat → Prop) (κ : Nat → Value) (a : Act) (w : World) (R : Exit → Act → World → Prop),
    codeD E rc f fn base c st Q → base ≤ st.heap.length → Rel F κ st a w → (∀ e st' F' κ' a' w', Q e st' → Rel F' κ' st' a' w' → EvD base F κ w st.heap F' κ' w' st'.heap → R e.out a' w') → c.wp E.P R a w
  | .skip, st, Q, F, κ, a, w, R, h, hb, rel, hq => Go.wp_skip (hq .norm st F κ a w h rel (EvD.refl hb))
  | .region id ops dr, st, Q, F, κ, a, w, R, h, hb, rel, hq => by
    simp only [codeD] at h
    rcases h with h | h
    rotate_left
    · exact h base F κ a w R hb rel fun st' F' κ' a' w' h1 r1 ev1 => hq .norm st' F' κ' a' w' h1 r1 ev1
    cases dr with
    | true =>
      simp only [cond_true] at h
      obtain ⟨g1, st1, e1, hQ⟩ := h
      refine draw_sound (N0 := base) (K := fun s => (.ok s : Res St)) hm hc g1 (by rw [e1]; simp) hb rel fun st' F' κ' a' w' e r ev => ?_
      rw [e1] at e
      injection e with e
      subst e
      exact hq .norm _ F' κ' a' w' hQ r ev
    | false =>
      simp only [cond_false] at h
      exact wp_region_list (opsD_sound (base := base) hc h hb rel fun st' F' κ' a' w' h1 r1 ev1 => hq .norm st' F' κ' a' w' h1 r1 ev1)
  | .seq x y, st, Q, F, κ, a, w, R, h, hb, rel, hq => by
    simp only [codeD] at h
    refine wp_seq (codeD_sound hm hc x st _ F κ a w _ h hb rel fun e st' F' κ' a' w' e1 r1 ev1 => ?_)
    cases e with
    | norm => exact codeD_sound hm hc y st' Q F' κ' a' w' R e1 ev1.hl r1 fun e2 st2 F2 κ2 a2 w2 e3 r2 ev2 => hq e2 st2 F2 κ2 a2 w2 e3 r2 (ev1.trans ev2)
    | exit i => exact hq (.exit i) st' F' κ' a' w' e1 r1 ev1
    | ret => exact hq .ret st' F' κ' a' w' e1 r1 ev1
  | .cond c x y, st, Q, F, κ, a, w, R, h, hb, rel, hq => by
    simp only [codeD] at h
    obtain ⟨b, e1, e2⟩ := h
    have hv := evalO_sound rel.tl rel.tr e1
    generalize hv' : a.eval c = v at hv
    cases hv with
    | t hv =>
    cases hv with
    | bool =>
    refine wp_cond hv' ?_
    cases b with
    | true => exact codeD_sound hm hc x st Q F κ a w R e2 hb rel hq
    | false => exact codeD_sound hm hc y st Q F κ a w R e2 hb rel hq
  | .block id c, st, Q, F, κ, a, w, R, h, hb, rel, hq => by
    simp only [codeD] at h
    refine wp_block (codeD_sound hm hc c st _ F κ a w _ h hb rel fun e st' F' κ' a' w' e1 r1 ev1 => ?_)
    cases e with
    | norm => exact hq .norm st' F' κ' a' w' e1 r1 ev1
    | exit i =>
      simp only [Ex.out, Exit.inBlock]
      simp only [Ex.kP] at e1
      by_cases hi : i = id
      · rw [if_pos hi] at e1 ⊢; exact hq .norm st' F' κ' a' w' e1 r1 ev1
      · rw [if_neg hi] at e1 ⊢; exact hq (.exit i) st' F' κ' a' w' e1 r1 ev1
    | ret => exact hq .ret st' F' κ' a' w' e1 r1 ev1
  | .loop c, st, Q, F, κ, a, w, R, h, hb, rel, hq => by
    simp only [codeD] at h
    obtain ⟨I, ⟨n, hI⟩, step⟩ := h
    obtain ⟨κ1, rel1, ev1⟩ := canon_sound (live := (E.hint f (firstRegion c)).1) rel hb
    have main : ∀ (k n : Nat) (st1 : St) (F1 : Nat → Prop) (κ1 : Nat → Value) (a1 : Act) (w1 : World), n < k → I n st1 → Rel F1 κ1 st1 a1 w1 → EvD base F κ w st.heap F1 κ1 w1 st1.heap → Code.rounds E.P c R k a1 w1 := by
      intro k
      induction k with
      | zero => intro n st1 F1 κ1 a1 w1 hn; exact absurd hn (Nat.not_lt_zero _)
      | succ k ih =>
        intro n st1 F1 κ1 a1 w1 hn hI r1 ev1
        rw [rounds_succ]
        refine codeD_sound hm hc c st1 _ F1 κ1 a1 w1 _ (step n st1 hI) ev1.hl r1 fun e st' F' κ' a' w' e1 r2 ev2 => ?_
        cases e with
        | norm =>
          obtain ⟨m, hm2, hI2⟩ := e1
          obtain ⟨κ2, rel2, ev3⟩ := canon_sound (base := base) (live := (E.hint f (firstRegion c)).1) r2 ev2.hl
          exact ih m _ F' κ2 a' w' (by omega) hI2 rel2 (ev1.trans (ev2.trans ev3))
        | exit i =>
          obtain ⟨κ2, rel2, ev3⟩ := canon_sound (base := base) (live := (E.hint f (firstRegion c)).2) r2 ev2.hl
          exact hq (.exit i) _ F' κ2 a' w' e1 rel2 (ev1.trans (ev2.trans ev3))
        | ret =>
          obtain ⟨κ2, rel2, ev3⟩ := canon_sound (base := base) (live := resTmps fn) r2 ev2.hl
          exact hq .ret _ F' κ2 a' w' e1 rel2 (ev1.trans (ev2.trans ev3))
    exact wp_loop_rounds (n + 1) (main (n + 1) n _ F κ1 a w (by omega) hI rel1 ev1)
  | .exit id, st, Q, F, κ, a, w, R, h, hb, rel, hq => wp_exit (hq (.exit id) st F κ a w h rel (EvD.refl hb))
  | .scope c, st, Q, F, κ, a, w, R, h, hb, rel, hq => by
    simp only [codeD] at h
    refine wp_scope_straight (codeD_sound hm hc c st Q F κ a w _ h hb rel fun e st' F' κ' a' w' e1 r1 ev1 => ?_)
    have := hq e st' F' κ' a' w' e1 r1 ev1
    cases e <;> exact this
  | .label l, st, Q, F, κ, a, w, R, h, hb, rel, hq => wp_label (hq .norm st F κ a w h rel (EvD.refl hb))
  | .ret, st, Q, F, κ, a, w, R, h, hb, rel, hq => wp_ret (hq .ret st F κ a w h rel (EvD.refl hb))
  | .rangeFunc .., st, Q, F, κ, a, w, R, h, hb, rel, hq => h.elim
  | .goto .., st, Q, F, κ, a, w, R, h, hb, rel, hq => h.elim
  | .refuse .., st, Q, F, κ, a, w, R, h, hb, rel, hq => h.elim
end
end Go.Sim

/- Functions that range over maps: the parts that do not range, and what a whole function comes to. -/
namespace Go.Sim
open Go.RowKit
set_option linter.unusedVariables false
set_option linter.unusedSimpArgs false
set_option linter.unusedSectionVars false

section
variable {E : Env} {rc : Caller} {f : FuncId} {fn : Func} {n base : Nat} {ops : Array Oper}

theorem bind_ok_inv {α β : Type} {r : Res α} {K : α → Res β} {z : β} (h : r.bind K = .ok z) : ∃ x, r = .ok x ∧ K x = .ok z := by
  cases r with
  | ok x => exact ⟨x, rfl, h⟩
  | _ => cases h
theorem opsK_ok (hrc : rc.Nat) {β : Type} {l : List (Oper × Bool)} {st : St} {K : St → Res β} {z : β} (h : opsK E rc ops l st K = .ok z) : ∃ st', opsK E rc ops l st (fun s => (.ok s : Res St)) = .ok st' ∧ K st' = .ok z := by
  have := nat_opsK (E := E) (Strict.bind (β := St) K) hrc ops l st fun s => .ok s
  simp only [Res.bind_ok] at this
  rw [← this] at h
  exact bind_ok_inv h
theorem codeK_ok (hrc : rc.Nat) {β : Type} {c : Code} {st : St} {K : Ex → St → Res β} {z : β} (h : codeK E rc f fn n base c st K = .ok z) : ∃ e st', codeK E rc f fn n base c st (fun e s => (.ok (e, s) : Res (Ex × St))) = .ok (e, st') ∧ K e st' = .ok z := by
  have := nat_codeK (E := E) (f := f) (fn := fn) (n := n) (base := base) hrc c (Strict.bind (β := Ex × St) fun p => K p.1 p.2) st fun e s => .ok (e, s)
  simp only [Res.bind_ok] at this
  rw [← this] at h
  obtain ⟨⟨e, s⟩, h1, h2⟩ := bind_ok_inv h
  exact ⟨e, s, h1, h2⟩
theorem stepD_of {o : Oper} {st st' : St} {Q : St → Prop} (h : opsK E rc ops [(o, false)] st (fun s => (.ok s : Res St)) = .ok st') (hQ : Q st') : stepD E rc ops o st Q := by
  unfold stepD
  split
  · rename_i t x hgd hop
    rw [opsK_one] at h
    unfold guardOf at h
    rw [hgd] at h
    obtain ⟨dst, op, type, pos, after, guard⟩ := o
    simp only [] at hop
    subst hop
    cases h
  · rename_i x hgd hop
    rw [opsK_one] at h
    unfold guardOf at h
    rw [hgd] at h
    obtain ⟨dst, op, type, pos, after, guard⟩ := o
    simp only [] at hop
    subst hop
    cases h
  · rename_i x hgd hop
    rw [opsK_one] at h
    unfold guardOf at h
    rw [hgd] at h
    obtain ⟨dst, op, type, pos, after, guard⟩ := o
    simp only [] at hop
    subst hop
    cases h
  · exact .inr ⟨st', h, hQ⟩
  · exact ⟨st', h, hQ⟩
theorem opsD_of (hrc : rc.Nat) : ∀ {l : List Oper} {st st' : St} {Q : St → Prop}, opsK E rc ops (l.map fun o => (o, false)) st (fun s => (.ok s : Res St)) = .ok st' → Q st' → opsD E rc ops l st Q
  | [], st, st', Q, h, hQ => by
    simp only [List.map_nil, opsK, Res.ok.injEq] at h
    subst h
    exact hQ
  | o :: r, st, st', Q, h, hQ => by
    rw [List.map_cons, opsK_split hrc] at h
    obtain ⟨st1, h1, h2⟩ := bind_ok_inv h
    exact stepD_of h1 (opsD_of hrc h2 hQ)
/-- A code that comes to one end, without ranging. -/
theorem codeD_of (hrc : rc.Nat) : ∀ (c : Code) {st st' : St} {e : Ex} {Q : Ex → St → Prop}, codeK E rc f fn n base c st (fun e s => (.ok (e, s) : Res (Ex × St))) = .ok (e, st') → Q e st' → codeD E rc f fn base c st Q
  | .skip, st, st', e, Q, h, hQ => by
    simp only [codeK, Res.ok.injEq, Prod.mk.injEq] at h
    obtain ⟨rfl, rfl⟩ := h
    exact hQ
  | .region id ops dr, st, st', e, Q, h, hQ => by
    simp only [codeK] at h
    simp only [codeD]
    cases dr with
    | true =>
      simp only [cond_true] at h ⊢
      cases hd : drawOk ops with
      | false => rw [hd] at h; cases h
      | true =>
        rw [hd] at h
        simp only [cond_true] at h
        obtain ⟨s1, h1, h2⟩ := opsK_ok hrc h
        simp only [Res.ok.injEq, Prod.mk.injEq] at h2
        obtain ⟨rfl, rfl⟩ := h2
        exact .inl ⟨rfl, s1, h1, hQ⟩
    | false =>
      simp only [cond_false] at h ⊢
      obtain ⟨s1, h1, h2⟩ := opsK_ok hrc h
      simp only [Res.ok.injEq, Prod.mk.injEq] at h2
      obtain ⟨rfl, rfl⟩ := h2
      exact .inl (opsD_of hrc h1 hQ)
  | .seq a b, st, st', e, Q, h, hQ => by
    simp only [codeK] at h
    simp only [codeD]
    obtain ⟨e1, s1, h1, h2⟩ := codeK_ok hrc h
    refine codeD_of hrc a h1 ?_
    cases e1 with
    | norm => exact codeD_of hrc b h2 hQ
    | exit i =>
      simp only [Ex.k, Res.ok.injEq, Prod.mk.injEq] at h2
      obtain ⟨rfl, rfl⟩ := h2
      exact hQ
    | ret =>
      simp only [Ex.k, Res.ok.injEq, Prod.mk.injEq] at h2
      obtain ⟨rfl, rfl⟩ := h2
      exact hQ
  | .cond c a b, st, st', e, Q, h, hQ => by
    simp only [codeK] at h
    simp only [codeD]
    obtain ⟨p, e1, e2⟩ := someK_inv (by rw [h]; simp)
    rw [e2] at h
    cases p with
    | t x =>
      cases x with
      | bool v =>
        refine ⟨v, e1, ?_⟩
        simp only [bT] at h
        cases v with
        | true => exact codeD_of hrc a h hQ
        | false => exact codeD_of hrc b h hQ
      | _ => cases h
    | _ => cases h
  | .block id c, st, st', e, Q, h, hQ => by
    simp only [codeK] at h
    simp only [codeD]
    obtain ⟨e1, s1, h1, h2⟩ := codeK_ok hrc h
    refine codeD_of hrc c h1 ?_
    cases e1 with
    | norm =>
      simp only [Ex.k, Res.ok.injEq, Prod.mk.injEq] at h2
      obtain ⟨rfl, rfl⟩ := h2
      exact hQ
    | exit i =>
      simp only [Ex.k] at h2
      simp only [Ex.kP]
      by_cases hi : i = id
      · rw [if_pos hi] at h2 ⊢
        simp only [Res.ok.injEq, Prod.mk.injEq] at h2
        obtain ⟨rfl, rfl⟩ := h2
        exact hQ
      · rw [if_neg hi] at h2 ⊢
        simp only [Res.ok.injEq, Prod.mk.injEq] at h2
        obtain ⟨rfl, rfl⟩ := h2
        exact hQ
    | ret =>
      simp only [Ex.k, Res.ok.injEq, Prod.mk.injEq] at h2
      obtain ⟨rfl, rfl⟩ := h2
      exact hQ
  | .loop c, st, st', e, Q, h, hQ => by
    simp only [codeK] at h
    simp only [codeD]
    obtain ⟨⟨e0, s0⟩, h1, h2⟩ := bind_ok_inv h
    simp only [Res.ok.injEq, Prod.mk.injEq] at h2
    obtain ⟨rfl, rfl⟩ := h2
    refine ⟨fun k s => iterR (fun st => codeK E rc f fn n base c st fun e st => e.k (.ok (.norm, canon base (E.hint f (firstRegion c)).1 st))
      (fun i => .ok (.exit i, canon base (E.hint f (firstRegion c)).2 st)) (.ok (.ret, canon base (resTmps fn) st))) k s = .ok (e0, s0), ⟨n, h1⟩, fun k s hk => ?_⟩
    cases k with
    | zero => cases hk
    | succ k =>
      simp only [iterR] at hk
      obtain ⟨⟨e1, s1⟩, h3, h4⟩ := bind_ok_inv hk
      obtain ⟨e2, s2, h5, h6⟩ := codeK_ok hrc h3
      refine codeD_of hrc c h5 ?_
      cases e2 with
      | norm =>
        simp only [Ex.k, Res.ok.injEq, Prod.mk.injEq] at h6
        obtain ⟨rfl, rfl⟩ := h6
        exact ⟨k, Nat.lt_succ_self k, h4⟩
      | exit i =>
        simp only [Ex.k, Res.ok.injEq, Prod.mk.injEq] at h6
        obtain ⟨rfl, rfl⟩ := h6
        simp only [Ex.k, Res.ok.injEq, Prod.mk.injEq] at h4
        obtain ⟨rfl, rfl⟩ := h4
        exact hQ
      | ret =>
        simp only [Ex.k, Res.ok.injEq, Prod.mk.injEq] at h6
        obtain ⟨rfl, rfl⟩ := h6
        simp only [Ex.k, Res.ok.injEq, Prod.mk.injEq] at h4
        obtain ⟨rfl, rfl⟩ := h4
        exact hQ
  | .exit id, st, st', e, Q, h, hQ => by
    simp only [codeK, Res.ok.injEq, Prod.mk.injEq] at h
    obtain ⟨rfl, rfl⟩ := h
    exact hQ
  | .scope c, st, st', e, Q, h, hQ => by
    simp only [codeK] at h
    simp only [codeD]
    exact codeD_of hrc c h hQ
  | .label l, st, st', e, Q, h, hQ => by
    simp only [codeK, Res.ok.injEq, Prod.mk.injEq] at h
    obtain ⟨rfl, rfl⟩ := h
    exact hQ
  | .ret, st, st', e, Q, h, hQ => by
    simp only [codeK, Res.ok.injEq, Prod.mk.injEq] at h
    obtain ⟨rfl, rfl⟩ := h
    exact hQ
  | .rangeFunc .., st, st', e, Q, h, hQ => by cases h
  | .goto .., st, st', e, Q, h, hQ => by cases h
  | .refuse .., st, st', e, Q, h, hQ => by cases h
end
end Go.Sim

/- Functions that range over maps: their contracts, for a second frame. -/
namespace Go.Sim
open Go.RowKit
set_option linter.unusedVariables false
set_option linter.unusedSimpArgs false
set_option linter.unusedSectionVars false

/-- What a function's end comes to. -/
def endD (E : Env) (fn : Func) (R : PV → List AObj → Prop) (st : St) : Prop := ∃ r H', resultsK E st fn.results.toList (fun ps => (.ok (pvRes ps, st.heap) : Res (PV × List AObj))) = .ok (r, H') ∧ R r H'
/-- What a function comes to, whichever entries come. -/
def funD (E : Env) (rc : Caller) (f : FuncId) (args : List PV) (H : List AObj) (R : PV → List AObj → Prop) : Prop := match E.P.funcs[f]? with
  | some fn => (match fn.body with
    | some c => codeD E rc f fn H.length c ⟨args ++ List.replicate (fn.ntmps - args.length) undefV, H⟩ fun e st => e.kP (endD E fn R st) (fun _ => False) (endD E fn R st)
    | none => False)
  | none => False
section
variable {E : Env} {rc : Caller} {F : Nat → Prop} {κ : Nat → Value} {w : World}
theorem funD_sound (he : EnvOk E) (hc : CallerOk E rc) {f : FuncId} {args : List PV} {H : List AObj} {R : PV → List AObj → Prop} (h : funD E rc f args H R) {vals : List Value} (hl : vals.length = args.length)
    (ha : ∀ (i : Nat) (p : PV) (v : Value), args[i]? = some p → vals[i]? = some v → RP F κ H.length w p v) (s : SI F κ w H) :
    (∃ fn c, E.P.funcs[f]? = some fn ∧ fn.body = some c) ∧ Calls E.P f vals.toArray w fun e w' => ∃ v, e = .returned v ∧ ∃ r H' F' κ', R r H' ∧ RP F' κ' H'.length w' r v ∧ SI F' κ' w' H' ∧ EvD H.length F κ w H F' κ' w' H' := by
  unfold funD at h
  cases hf : E.P.funcs[f]? with
  | none => simp [hf] at h
  | some fn =>
    simp only [hf] at h
    cases hb : fn.body with
    | none => simp [hb] at h
    | some c =>
      simp only [hb] at h
      refine ⟨⟨fn, c, rfl, hb⟩, calls_of_wp hf hb ?_⟩
      have rel : Rel F κ ⟨args ++ List.replicate (fn.ntmps - args.length) undefV, H⟩ { tmps := vals.toArray ++ Array.replicate (fn.ntmps - vals.toArray.size) undef, defers := [] } w := by
        refine ⟨by simp [hl], fun i p v g1 g2 => ?_, rfl, s⟩
        simp only [] at g1 g2 ⊢
        rcases Nat.lt_or_ge i args.length with h1 | h1
        · rw [List.getElem?_append_left h1] at g1
          rw [Array.getElem?_append_left (by simpa [hl] using h1)] at g2
          exact ha i p v g1 (by simpa using g2)
        · rw [List.getElem?_append_right h1] at g1
          rw [Array.getElem?_append_right (by simpa [hl] using h1)] at g2
          have g3 := List.mem_of_getElem? g1
          have g4 := Array.mem_of_getElem? g2
          rw [List.mem_replicate] at g3
          rw [Array.mem_replicate] at g4
          rw [g3.2, g4.2]
          exact undef_rp
      have fin : ∀ (st' : St) (F' : Nat → Prop) (κ' : Nat → Value) (a' : Act) (w' : World), endD E fn R st' → Rel F' κ' st' a' w' → EvD H.length F κ w H F' κ' w' st'.heap →
          a'.defers = [] ∧ ∃ v, (results fn a'.tmps).run E.P w' = .ok v w' ∧ ∃ v', Ending.returned v = .returned v' ∧ ∃ r H' F' κ', R r H' ∧ RP F' κ' H'.length w' r v' ∧ SI F' κ' w' H' ∧ EvD H.length F κ w H F' κ' w' H' := by
        intro st' F' κ' a' w' hne r1 ev1
        obtain ⟨r, H', h1, h2⟩ := hne
        obtain ⟨ps, vs, e1, e2, e3, e4⟩ := resultsK_sound (K := fun ps => (.ok (pvRes ps, st'.heap) : Res (PV × List AObj))) r1 (by rw [h1]; simp)
        have hres : (results fn a'.tmps).run E.P w' = .ok (if h : vs.length = 1 then vs[0] else .tuple vs.toArray) w' := by
          show (do let vs ← fn.results.mapM (resOne a'.tmps); pure (if h : vs.size = 1 then vs[0] else .tuple vs) : Sem Value).run E.P w' = _
          rw [Array.mapM_eq_mapM_toList]
          simp only [Sem.run_bind, map_eq_pure_bind, e2, Result.andThen_ok, Sem.run_pure, List.size_toArray]
          split <;> rfl
        rw [h1] at e1
        injection e1 with e1
        injection e1 with e5 e6
        subst e5; subst e6
        exact ⟨r1.dn, _, hres, _, rfl, _, st'.heap, F', κ', h2, pvRes_sound e3 e4, r1.si, ev1⟩
      refine codeD_sound he.mixed hc c _ _ F κ _ w _ h (Nat.le_refl _) rel fun e st' F' κ' a' w' e1 r1 ev1 => ?_
      cases e with
      | norm => exact fin st' F' κ' a' w' e1 r1 ev1
      | exit i => exact e1.elim
      | ret => exact fin st' F' κ' a' w' e1 r1 ev1
/-- What is leant on of a function, from its code, whichever entries come. -/
theorem extD_ok (he : EnvOk E) {f : FuncId} {G : List T → Res T} (hG : ∀ ts, T.wfs ts = true → G ts ≠ .stuck → ∃ N x, G ts = .ok x ∧ funD E (recOf E N) f (ts.map .t) [] fun r H' => outK E f r H' = .ok x) :
    ∀ ts, G ts ≠ .stuck → ∀ (F : Nat → Prop) (w : World) (vals : List Value), vals.length = ts.length → (∀ (i : Nat) (x : T) (v : Value), ts[i]? = some x → vals[i]? = some v → Rd F w x v) →
    (∀ b, F b → b < w.heap.size) → Invokes E.P f vals.toArray w fun v w' => ∃ x F', G ts = .ok x ∧ Out E f F' w.heap.size w' x v ∧ Grown F w F' w' := by
  intro ts h F w vals hl ha hfl
  have hwf : T.wfs ts = true := T.wfs_iff.2 fun x hx => by
    obtain ⟨i, hi, rfl⟩ := List.getElem_of_mem hx
    exact (ha i _ _ (List.getElem?_eq_getElem hi) (List.getElem?_eq_getElem (by omega))).wf
  obtain ⟨N, x, h1, h2⟩ := hG ts hwf h
  obtain ⟨n1, n2⟩ := runK_ok he N
  have hc : CallerOk E (recOf E N) := callerOk_of he n1 n2
  obtain ⟨g1, g2⟩ := funD_sound (F := F) (κ := fun _ => undef) (w := w) he hc h2 (vals := vals) (by simpa using hl) (fun i p v a b => by
    rw [List.getElem?_map, Option.map_eq_some_iff] at a
    obtain ⟨x, a, rfl⟩ := a
    exact .t (ha i x v a b)) ⟨by simp, by simp, by simp, hfl⟩
  refine invokes_of_calls he g1 (Calls.mono g2 fun e w' => ?_)
  rintro ⟨v, rfl, r, H', F', κ', e1, e2, e3, e4⟩
  refine ⟨v, rfl, ?_⟩
  obtain ⟨x', F2, q1, q2, q3⟩ := outK_sound hfl (by rw [e1]; simp) e2 e3 e4.toEv
  rw [e1] at q1
  injection q1 with q1
  subst q1
  exact ⟨⟨x, F2, h1, q2, q3⟩, e4.drawn⟩
end
/-- The same, in another frame of the same program. -/
theorem Out.env {E E' : Env} {f : FuncId} {F : Nat → Prop} {B : Nat} {w : World} {x : T} {v : Value} (hP : E'.P = E.P) (hm : E'.mode f = E.mode f) (h : Out E f F B w x v) : Out E' f F B w x v := by
  have hr : retRow E' f = retRow E f := by unfold retRow; rw [hP]
  have hn : retCount E' f = retCount E f := by unfold retCount; rw [hP]
  cases h with
  | frozen h1 h2 => exact .frozen (hm.trans h1) h2
  | row h1 h2 h3 h4 => exact .row (hm.trans h1) (hr.trans h2) h3 h4
  | tup h1 h2 h3 h4 h5 h6 h7 => exact .tup (by rw [hm]; exact h1) (hr.trans h2) h3 h4 (hn ▸ h5) h6 h7
/-- What is leant on of a function, whoever has shown it. -/
def ExtOk (E : Env) (f : FuncId) (e : List T → Res T) : Prop := ∀ ts, e ts ≠ .stuck → ∀ (F : Nat → Prop) (w : World) (vals : List Value), vals.length = ts.length → (∀ (i : Nat) (x : T) (v : Value), ts[i]? = some x → vals[i]? = some v → Rd F w x v) →
    (∀ b, F b → b < w.heap.size) → Invokes E.P f vals.toArray w fun v w' => ∃ x F', e ts = .ok x ∧ Out E f F' w.heap.size w' x v ∧ Grown F w F' w'
theorem ExtOk.env {E E' : Env} {f : FuncId} {e : List T → Res T} (hP : E'.P = E.P) (hm : E'.mode f = E.mode f) (h : ExtOk E f e) : ExtOk E' f e := fun ts hne F w vals hl ha hfl => by
  have := h ts hne F w vals hl ha hfl
  rw [← hP] at this
  exact this.mono fun v w' ⟨x, F', h1, h2, h3⟩ => ⟨x, F', h1, h2.env hP hm, h3⟩
end Go.Sim

/- Calls whose text stands in their caller's: what stands behind them. -/
namespace Go.Sim
open Go.RowKit
set_option linter.unusedVariables false

/-- A region, and what stands behind it. -/
def findR (r : Nat) : Code → Option ((Array Oper × Bool) × List Frm)
  | .region id ops dr => bif Nat.beq id r then some ((ops, dr), []) else none
  | .seq a b => match findR r a with
    | some (o, fs) => some (o, fs ++ [.seq b])
    | none => findR r b
  | .block id c => match findR r c with
    | some (o, fs) => some (o, fs ++ [.block id])
    | none => none
  | .scope c => findR r c
  | .cond _ a b => match findR r a with
    | some x => some x
    | none => findR r b
  | _ => none
section
variable {β : Type} (E : Env) (n : Nat) (f : FuncId) (base : Nat)
/-- Back from a call: operation j of region r of a code. -/
def restK (fn : Func) (c : Code) (r j : Nat) (st0 : St) (args : List PV) (KE : Ex → St → Res β) : PV → List AObj → Res β := match findR r c with
  | some ((ops, dr), fs) => fun p H' => trimK p ⟨PV.kills ((exposed args st0.heap).contains ·) st0.tmps, showRows (exposed args st0.heap) st0.heap H'⟩ fun p st =>
      opsK E (recOf E n) ops ((bif dr then drawFlags ops else ops.toList.map fun o => (o, false)).drop (j + 1)) ⟨setT st.tmps ((ops[j]?).bind (·.dst)) p, st.heap⟩ fun st => tailK E (recOf E n) f fn n base fs KE .norm st
  | none => fun _ _ => .stuck
def backP (r j : Nat) (K : PV → List AObj → Res β) (st0 : St) (args : List PV) : PV → List AObj → Res β := match E.P.funcs[f]? with
  | some fn => (match fn.body with
    | some c => restK E n f base fn c r j st0 args (rootK E fn K)
    | none => fun _ _ => .stuck)
  | none => fun _ _ => .stuck
def loopE (fn : Func) (c : Code) : Ex → St → Res (Ex × St) := fun e st => e.k (.ok (.norm, canon base (E.hint f (firstRegion c)).1 st))
      (fun i => .ok (.exit i, canon base (E.hint f (firstRegion c)).2 st)) (.ok (.ret, canon base (resTmps fn) st))
/-- The same within a loop. -/
def backB (r0 r j : Nat) (st0 : St) (args : List PV) : PV → List AObj → Res (Ex × St) := match E.P.funcs[f]? with
  | some fn => (match fn.body with
    | some c => (match findL r0 c with
      | some (c1, _) => restK E n f base fn c1 r j st0 args (loopE E f base fn c1)
      | none => fun _ _ => .stuck)
    | none => fun _ _ => .stuck)
  | none => fun _ _ => .stuck
end
end Go.Sim

/- Calls whose text stands in their caller's, told by what they come to: callers of one's own choosing. -/
namespace Go.Sim
open Go.RowKit
set_option linter.unusedVariables false
set_option linter.unusedSimpArgs false
set_option linter.unusedSectionVars false

def Le {β : Type} (a b : Res β) : Prop := a ≠ .stuck → b = a
theorem Le.refl {β : Type} (a : Res β) : Le a a := fun _ => rfl
theorem Le.trans {β : Type} {a b c : Res β} (h : Le a b) (h' : Le b c) : Le a c := fun ha => by
  have e := h ha
  rw [← e]; exact h' (by rw [e]; exact ha)
theorem Le.bind {α β : Type} {r : Res α} {K K' : α → Res β} (h : ∀ x, Le (K x) (K' x)) : Le (r.bind K) (r.bind K') := by
  cases r with
  | ok a => exact h a
  | _ => exact Le.refl _
theorem Le.bind2 {α β : Type} {r r' : Res α} {K K' : α → Res β} (h0 : Le r r') (h : ∀ x, Le (K x) (K' x)) : Le (r.bind K) (r'.bind K') := by
  cases r with
  | stuck => intro hh; exact absurd rfl hh
  | ok a => rw [h0 (by simp)]; exact h a
  | absurd => rw [h0 (by simp)]; exact Le.refl _

section
variable {E : Env} {p : FuncId → List T → Res T} {g g' : (β : Type) → FuncId → List PV → List AObj → (PV → List AObj → Res β) → Res β}
variable (hg : ∀ β f args H K, Le (g β f args H K) (g' β f args H K)) (hn : (⟨p, g'⟩ : Caller).Nat)
include hg hn

theorem callK_le {β : Type} (dr : Bool) (f : FuncId) (args : List PV) (st : St) (K : PV → St → Res β) : Le (callK E ⟨p, g⟩ dr f args st K) (callK E ⟨p, g'⟩ dr f args st K) := by
  unfold callK
  split
  · exact Le.refl _
  · split
    · exact Le.refl _
    · cases (dr || (E.ext f).isSome) with
      | true => exact Le.refl _
      | false => exact hg _ _ _ _ _
theorem opK_le {β : Type} (dr : Bool) (o : Oper) (st : St) {K K' : PV → St → Res β} (hK : ∀ q s, Le (K q s) (K' q s)) : Le (opK E ⟨p, g⟩ dr o st K) (opK E ⟨p, g'⟩ dr o st K') := by
  have h2 : Le (opK E ⟨p, g'⟩ dr o st K) (opK E ⟨p, g'⟩ dr o st K') := by
    have e : ∀ K : PV → St → Res β, opK E ⟨p, g'⟩ dr o st K = (opK E ⟨p, g'⟩ dr o st fun q s => (.ok (q, s) : Res (PV × St))).bind fun x => K x.1 x.2 := fun K => by
      rw [nat_opK (E := E) (Strict.bind (β := PV × St) fun x => K x.1 x.2) hn dr o fun q s => .ok (q, s)]
      rfl
    rw [e K, e K']
    exact Le.bind fun x => hK _ _
  refine Le.trans ?_ h2
  obtain ⟨dst, op, type, pos, after, guard⟩ := o
  cases op <;> try exact Le.refl _
  case call c =>
    simp only [opK]
    split
    · exact Le.refl _
    · rename_i f _
      cases evalOs E.P st.tmps (fun i => c.argTypes.getD i 0) 0 c.args.toList with
      | none => exact Le.refl _
      | some args => exact callK_le hg hn _ _ _ _ _
    · rename_i fo _ _
      cases evalO E.P st.tmps 0 fo with
      | none => exact Le.refl _
      | some q =>
        cases evalOs E.P st.tmps (fun i => c.argTypes.getD i 0) 0 c.args.toList with
        | none => exact Le.refl _
        | some args =>
          simp only [someK]
          cases q <;> first | exact Le.refl _ | exact callK_le hg hn _ _ _ _ _
    · exact Le.refl _
theorem opsK_le {β : Type} (ops : Array Oper) : ∀ (l : List (Oper × Bool)) (st : St) {K K' : St → Res β}, (∀ s, Le (K s) (K' s)) → Le (opsK E ⟨p, g⟩ ops l st K) (opsK E ⟨p, g'⟩ ops l st K')
  | [], st, K, K', hK => hK st
  | (o, dr) :: r, st, K, K', hK => by
    rw [opsK_one, opsK_one]
    cases guardOf ops st.tmps o with
    | none => exact Le.refl _
    | some b =>
      cases b with
      | true => exact opK_le hg hn dr o st fun q s => opsK_le ops r _ hK
      | false => exact opsK_le ops r _ hK
omit hg hn in
theorem iterR_le {B B' : St → Res (Ex × St)} (h : ∀ s, Le (B s) (B' s)) : ∀ (n : Nat) (s : St), Le (iterR B n s) (iterR B' n s)
  | 0, s => Le.refl _
  | n + 1, s => by
    simp only [iterR]
    refine Le.bind2 (h s) fun x => ?_
    obtain ⟨e, s'⟩ := x
    cases e with
    | norm => exact iterR_le h n s'
    | _ => exact Le.refl _
variable (f : FuncId) (fn : Func) (n base : Nat)
theorem codeK_le : ∀ (c : Code) {β : Type} (st : St) {K K' : Ex → St → Res β}, (∀ e s, Le (K e s) (K' e s)) → Le (codeK E ⟨p, g⟩ f fn n base c st K) (codeK E ⟨p, g'⟩ f fn n base c st K')
  | .skip, β, st, K, K', hK => hK _ _
  | .region id ops dr, β, st, K, K', hK => by
    simp only [codeK]
    cases dr with
    | true =>
      cases drawOk ops with
      | true => exact opsK_le hg hn ops _ st fun s => hK _ _
      | false => exact Le.refl _
    | false => exact opsK_le hg hn ops _ st fun s => hK _ _
  | .seq a b, β, st, K, K', hK => by
    simp only [codeK]
    refine codeK_le a st fun e s => ?_
    cases e with
    | norm => exact codeK_le b s hK
    | _ => exact hK _ _
  | .cond c a b, β, st, K, K', hK => by
    simp only [codeK]
    cases evalO E.P st.tmps 0 c with
    | none => exact Le.refl _
    | some q =>
      simp only [someK]
      cases q with
      | t x =>
        cases x with
        | bool v => cases v with
          | true => exact codeK_le a st hK
          | false => exact codeK_le b st hK
        | _ => exact Le.refl _
      | _ => exact Le.refl _
  | .block id c, β, st, K, K', hK => by
    simp only [codeK]
    refine codeK_le c st fun e s => ?_
    cases e with
    | exit i =>
      simp only [Ex.k]
      split
      · exact hK _ _
      · exact hK _ _
    | _ => exact hK _ _
  | .loop c, β, st, K, K', hK => by
    simp only [codeK]
    refine Le.bind2 (iterR_le (fun s => codeK_le c s fun e s => Le.refl _) n _) fun x => hK _ _
  | .exit id, β, st, K, K', hK => hK _ _
  | .scope c, β, st, K, K', hK => codeK_le c st hK
  | .label _, β, st, K, K', hK => hK _ _
  | .ret, β, st, K, K', hK => hK _ _
  | .rangeFunc .., β, st, K, K', hK => Le.refl _
  | .goto .., β, st, K, K', hK => Le.refl _
  | .refuse .., β, st, K, K', hK => Le.refl _
theorem funK_le {β : Type} (args : List PV) (H : List AObj) (K : PV → List AObj → Res β) : Le (funK E ⟨p, g⟩ n f args H K) (funK E ⟨p, g'⟩ n f args H K) := by
  unfold funK
  split
  · exact Le.refl _
  · split
    · exact Le.refl _
    · exact codeK_le hg hn f _ n _ _ _ fun e s => Le.refl _
end

/-- What one call whose text stands in its caller's comes to. -/
structure Pin where
  f : FuncId
  args : List PV
  H : List AObj
  r : PV
  H' : List AObj
open Classical in
noncomputable def chkP {β : Type} (p : Prop) (r : Res β) : Res β := if p then r else .stuck
theorem chkP_ok {β : Type} {p : Prop} {r : Res β} (h : p) : chkP p r = r := if_pos h
theorem chkP_same {β : Type} {a : List PV} {b : List AObj} {r : Res β} : chkP (a = a ∧ b = b) r = r := if_pos ⟨rfl, rfl⟩
noncomputable def goP : List Pin → (β : Type) → FuncId → List PV → List AObj → (PV → List AObj → Res β) → Res β
  | [], _, _, _, _, _ => .stuck
  | p :: ps, β, f, args, H, K => bif Nat.beq p.f f then chkP (args = p.args ∧ H = p.H) (K p.r p.H') else goP ps β f args H K
def PinOk (E : Env) (N : Nat) (p : Pin) : Prop := ∀ (β : Type) (K : PV → List AObj → Res β), runK E N β p.f p.args p.H K = K p.r p.H'
def PinsOk (E : Env) (N : Nat) : List Pin → Prop
  | [] => True
  | p :: ps => PinOk E N p ∧ PinsOk E N ps
theorem goP_le {E : Env} {N : Nat} : ∀ {ps : List Pin}, PinsOk E N ps → ∀ (β : Type) (f : FuncId) (args : List PV) (H : List AObj) (K : PV → List AObj → Res β), Le (goP ps β f args H K) (runK E N β f args H K)
  | [], _, β, f, args, H, K => fun h => absurd rfl h
  | p :: ps, h, β, f, args, H, K => by
    unfold goP
    cases hf : Nat.beq p.f f with
    | false => exact goP_le h.2 β f args H K
    | true =>
      obtain rfl := Nat.eq_of_beq_eq_true hf
      simp only [cond_true]
      intro hne
      unfold chkP at hne ⊢
      split
      · rename_i hp
        rw [hp.1, hp.2]; exact h.1 β K
      · rename_i hp; rw [if_neg hp] at hne; exact absurd rfl hne
/-- A caller by such pins. -/
noncomputable def recP (E : Env) (N : Nat) (ps : List Pin) : Caller := ⟨callP E N, goP ps⟩

theorem runK_nat (E : Env) : ∀ n, (recOf E n).Nat
  | 0 => fun β γ g hg f args H K => hg.stuck
  | n + 1 => fun β γ g hg f args H K => nat_funK (runK_nat E n) hg args H K
def tailR' {β : Type} (E : Env) (rc : Caller) (n : Nat) (f : FuncId) (base r : Nat) (K : PV → List AObj → Res β) : Ex → St → Res β := match E.P.funcs[f]? with
  | some fn => (match fn.body with
    | some c => (match findL r c with
      | some (_, fs) => tailK E rc f fn n base fs (rootK E fn K)
      | none => fun _ _ => .stuck)
    | none => fun _ _ => .stuck)
  | none => fun _ _ => .stuck
def bodyR' (E : Env) (rc : Caller) (n : Nat) (f : FuncId) (base r : Nat) : St → Res (Ex × St) := match E.P.funcs[f]? with
  | some fn => (match fn.body with
    | some c => (match findL r c with
      | some (c', _) => loopB E rc f fn n base c'
      | none => fun _ => .stuck)
    | none => fun _ => .stuck)
  | none => fun _ => .stuck
section
variable {E : Env} {N : Nat} {ps : List Pin} (hs : PinsOk E N ps)
include hs
theorem callP_pin {f : FuncId} {ts : List T} {x : T} (hw : T.wfs ts = true) (hx : E.ext f = none) (h : funK E (recP E N ps) N f (ts.map .t) [] (outK E f) = .ok x) : callP E (N + 1) f ts = .ok x := by
  have := funK_le (E := E) (p := callP E N) (goP_le hs) (runK_nat E N) f N (ts.map .t) [] (outK E f) (by
    show funK E (recP E N ps) N f (ts.map .t) [] (outK E f) ≠ .stuck
    rw [h]; simp)
  unfold callP callPof
  rw [hw, hx]
  simp only [cond_true]
  exact this.trans h
omit hs in
theorem tailK_le {p : FuncId → List T → Res T} {g g' : (β : Type) → FuncId → List PV → List AObj → (PV → List AObj → Res β) → Res β}
    (hg : ∀ β f args H K, Le (g β f args H K) (g' β f args H K)) (hn : (⟨p, g'⟩ : Caller).Nat) (f : FuncId) (fn : Func) (n base : Nat) {β : Type} (K : Ex → St → Res β) :
    ∀ (fs : List Frm) (e : Ex) (s : St), Le (tailK E ⟨p, g⟩ f fn n base fs K e s) (tailK E ⟨p, g'⟩ f fn n base fs K e s)
  | [], e, s => Le.refl _
  | .seq b :: r, e, s => by
    simp only [tailK]
    cases e with
    | norm => exact codeK_le hg hn f fn n base b s fun e s => tailK_le hg hn f fn n base K r e s
    | exit i => exact tailK_le hg hn f fn n base K r _ s
    | ret => exact tailK_le hg hn f fn n base K r _ s
  | .block id :: r, e, s => by
    simp only [tailK]
    cases e with
    | exit i =>
      simp only [Ex.k]
      split
      · exact tailK_le hg hn f fn n base K r _ s
      · exact tailK_le hg hn f fn n base K r _ s
    | _ => exact tailK_le hg hn f fn n base K r _ s
/-- What stands behind a loop, by pins. -/
theorem tailL_pin {f : FuncId} {r : Nat} {e : Ex} {s : St} {x : T} (h : tailR' E (recP E N ps) N f 0 r (outK E f) e s = .ok x) : tailL E N f 0 r (outK E f) e s = .ok x := by
  cases hf : E.P.funcs[f]? with
  | none => simp [tailR', hf] at h
  | some fn =>
    cases hb : fn.body with
    | none => simp [tailR', hf, hb] at h
    | some c =>
      cases hl : findL r c with
      | none => simp [tailR', hf, hb, hl] at h
      | some y =>
        simp only [tailR', hf, hb, hl] at h
        simp only [tailL, hf, hb, hl]
        exact (tailK_le (E := E) (p := callP E N) (goP_le hs) (runK_nat E N) f _ N 0 _ _ e s (by
          show tailK E (recP E N ps) f _ N 0 _ _ e s ≠ .stuck
          rw [h]; simp)).trans h
/-- A round of a loop, by pins. -/
theorem bodyL_pin {f : FuncId} {r : Nat} {s : St} {x : Ex × St} (h : bodyR' E (recP E N ps) N f 0 r s = .ok x) : bodyL E N f 0 r s = .ok x := by
  cases hf : E.P.funcs[f]? with
  | none => simp [bodyR', hf] at h
  | some fn =>
    cases hb : fn.body with
    | none => simp [bodyR', hf, hb] at h
    | some c =>
      cases hl : findL r c with
      | none => simp [bodyR', hf, hb, hl] at h
      | some y =>
        simp only [bodyR', hf, hb, hl] at h
        simp only [bodyL, hf, hb, hl]
        exact (codeK_le (E := E) (p := callP E N) (goP_le hs) (runK_nat E N) f _ N 0 _ s (fun e s => Le.refl _) (by
          show loopB E (recP E N ps) f _ N 0 _ s ≠ .stuck
          rw [h]; simp)).trans h
end

/-! ### loops, of whichever caller -/
section
variable {β : Type} (E : Env) (rc : Caller) (n : Nat) (f : FuncId) (base : Nat)
def bodyR (r : Nat) : St → Res (Ex × St) := match E.P.funcs[f]? with
  | some fn => (match fn.body with
    | some c => (match findL r c with
      | some (c', _) => loopB E rc f fn n base c'
      | none => fun _ => .stuck)
    | none => fun _ => .stuck)
  | none => fun _ => .stuck
def tailR (r : Nat) (K : PV → List AObj → Res β) : Ex → St → Res β := match E.P.funcs[f]? with
  | some fn => (match fn.body with
    | some c => (match findL r c with
      | some (_, fs) => tailK E rc f fn n base fs (rootK E fn K)
      | none => fun _ _ => .stuck)
    | none => fun _ _ => .stuck)
  | none => fun _ _ => .stuck
def bodyRI (r q : Nat) : St → Res (Ex × St) := match E.P.funcs[f]? with
  | some fn => (match fn.body with
    | some c => (match findL r c with
      | some (c1, _) => (match findL q c1 with
        | some (c2, _) => loopB E rc f fn n base c2
        | none => fun _ => .stuck)
      | none => fun _ => .stuck)
    | none => fun _ => .stuck)
  | none => fun _ => .stuck
def tailRI (r q : Nat) : Ex → St → Res (Ex × St) := match E.P.funcs[f]? with
  | some fn => (match fn.body with
    | some c => (match findL r c with
      | some (c1, _) => (match findL q c1 with
        | some (_, fs) => tailK E rc f fn n base fs fun e st => e.k (.ok (.norm, canon base (E.hint f (firstRegion c1)).1 st))
            (fun i => .ok (.exit i, canon base (E.hint f (firstRegion c1)).2 st)) (.ok (.ret, canon base (resTmps fn) st))
        | none => fun _ _ => .stuck)
      | none => fun _ _ => .stuck)
    | none => fun _ _ => .stuck)
  | none => fun _ _ => .stuck
def loopR (r : Nat) (K : PV → List AObj → Res β) (st : St) : Res β := (iterR (bodyR E rc n f base r) n st).bind fun p => tailR E rc n f base r K p.1 p.2
def loopRI (r q : Nat) (st : St) : Res (Ex × St) := (iterR (bodyRI E rc n f base r q) n st).bind fun p => tailRI E rc n f base r q p.1 p.2
end
theorem loopR_end {β : Type} {E : Env} {rc : Caller} {n : Nat} {f : FuncId} {base r : Nat} {K : PV → List AObj → Res β} {s s' : St} {e : Ex} (h : iterR (bodyR E rc n f base r) n s = .ok (e, s')) : loopR E rc n f base r K s = tailR E rc n f base r K e s' := by
  unfold loopR; rw [h]; rfl
theorem loopL_end {E : Env} {n : Nat} {f : FuncId} {r : Nat} {s s' : St} {e : Ex} (h : iterR (bodyL E n f 0 r) n s = .ok (e, s')) : loopL E n f r s = tailL E n f 0 r (outK E f) e s' := by
  unfold loopL; rw [h]; rfl
end Go.Sim

/- Loops over lists: the first that is hit; a sum; a sum that may end early. -/
namespace Go.Sim
open Go.RowKit
set_option linter.unusedVariables false

/-- A sum. -/
theorem iter_fold {α β : Type} {B : St → Res (Ex × St)} {S : β → Nat → St} {X : β → St} {id : Nat} (I : β → Nat → Prop) (f : β → α → β) (l : List α) {n : Nat} (b : β) (hn : l.length < n)
    (h : ∀ b j x, l[j]? = some x → I b j → B (S b j) = .ok (.norm, S (f b x) (j + 1)) ∧ I (f b x) (j + 1)) (hx : ∀ b, I b l.length → B (S b l.length) = .ok (.exit id, X b)) (hb : I b 0) :
    iterR B n (S b 0) = .ok (.exit id, X (l.foldl f b)) ∧ I (l.foldl f b) l.length := by
  have main : ∀ (r p : List α) (n : Nat) (b : β), l = p ++ r → r.length < n → I b p.length → iterR B n (S b p.length) = .ok (.exit id, X (r.foldl f b)) ∧ I (r.foldl f b) l.length := by
    intro r
    induction r with
    | nil =>
      intro p n b hp hn hI
      obtain ⟨n, rfl⟩ : ∃ m, n = m + 1 := ⟨n - 1, by omega⟩
      have : p.length = l.length := by rw [hp]; simp
      rw [this] at hI ⊢
      exact ⟨iterR_exit (hx b hI), hI⟩
    | cons x r ih =>
      intro p n b hp hn hI
      obtain ⟨n, rfl⟩ : ∃ m, n = m + 1 := ⟨n - 1, by omega⟩
      obtain ⟨hs, hI'⟩ := h b p.length x (by rw [hp]; simp) hI
      have hlen : (p ++ [x]).length = p.length + 1 := by simp
      have := ih (p ++ [x]) n (f b x) (by rw [hp]; simp) (by simp at hn; omega) (by rw [hlen]; exact hI')
      rw [hlen] at this
      rw [iterR_step hs]; exact this
  exact main l [] n b rfl hn hb

/-- A sum that may end early. -/
def scanE {α β γ : Type} (f : β → α → β ⊕ γ) : List α → β → β ⊕ γ
  | [], b => .inl b
  | x :: r, b => match f b x with
    | .inl b => scanE f r b
    | .inr c => .inr c
end Go.Sim

/- A function's text in parts: what stands from one of its parts on. -/
namespace Go.Sim
open Go.RowKit
set_option linter.unusedVariables false
set_option linter.unusedSimpArgs false

/-- The parts of a code, one behind the other. -/
def spine : Code → List Code
  | .seq a b => spine a ++ spine b
  | .scope c => spine c
  | c => [c]
section
variable {β : Type} (E : Env) (rc : Caller) (f : FuncId) (fn : Func) (n base : Nat)
def seqK : List Code → St → (Ex → St → Res β) → Res β
  | [], st, K => K .norm st
  | c :: l, st, K => codeK E rc f fn n base c st fun e st => e.k (seqK l st K) (fun i => K (.exit i) st) (K .ret st)
theorem seqK_append : ∀ (l m : List Code) (st : St) (K : Ex → St → Res β), seqK E rc f fn n base (l ++ m) st K = seqK E rc f fn n base l st fun e st => e.k (seqK E rc f fn n base m st K) (fun i => K (.exit i) st) (K .ret st)
  | [], m, st, K => rfl
  | c :: l, m, st, K => by
    simp only [List.cons_append, seqK]
    congr 1
    funext e s
    cases e with
    | norm => exact seqK_append l m s K
    | _ => rfl
theorem ex_eta (K : Ex → St → Res β) : (fun e st => Ex.k e (K .norm st) (fun i => K (.exit i) st) (K .ret st)) = K := by
  funext e st
  cases e <;> rfl
theorem codeK_one (c : Code) (st : St) (K : Ex → St → Res β) : seqK E rc f fn n base [c] st K = codeK E rc f fn n base c st K := by
  show codeK E rc f fn n base c st (fun e st => e.k (K .norm st) (fun i => K (.exit i) st) (K .ret st)) = _
  rw [ex_eta]
theorem codeK_spine : ∀ (c : Code) (st : St) (K : Ex → St → Res β), codeK E rc f fn n base c st K = seqK E rc f fn n base (spine c) st K
  | .seq a b, st, K => by
    show codeK E rc f fn n base a st (fun e st => e.k (codeK E rc f fn n base b st K) (fun i => K (.exit i) st) (K .ret st)) = _
    rw [spine, seqK_append, codeK_spine a]
    congr 1
    funext e s
    cases e with
    | norm => exact codeK_spine b s K
    | _ => rfl
  | .scope c, st, K => codeK_spine c st K
  | .skip, st, K => (codeK_one _ _ _ _ _ _ _ _ _).symm
  | .region _ _ _, st, K => (codeK_one _ _ _ _ _ _ _ _ _).symm
  | .cond _ _ _, st, K => (codeK_one _ _ _ _ _ _ _ _ _).symm
  | .block _ _, st, K => (codeK_one _ _ _ _ _ _ _ _ _).symm
  | .loop _, st, K => (codeK_one _ _ _ _ _ _ _ _ _).symm
  | .exit _, st, K => (codeK_one _ _ _ _ _ _ _ _ _).symm
  | .label _, st, K => (codeK_one _ _ _ _ _ _ _ _ _).symm
  | .ret, st, K => (codeK_one _ _ _ _ _ _ _ _ _).symm
  | .rangeFunc .., st, K => (codeK_one _ _ _ _ _ _ _ _ _).symm
  | .goto .., st, K => (codeK_one _ _ _ _ _ _ _ _ _).symm
  | .refuse .., st, K => (codeK_one _ _ _ _ _ _ _ _ _).symm
end
def startS (E : Env) (f : FuncId) (args : List PV) : St := match E.P.funcs[f]? with
  | some fn => ⟨args ++ List.replicate (fn.ntmps - args.length) undefV, []⟩
  | none => ⟨[], []⟩
/-- From part i on. -/
def backL (E : Env) (n : Nat) (f : FuncId) (i : Nat) (st : St) : Res T := match E.P.funcs[f]? with
  | some fn => (match fn.body with
    | some c => seqK E (recOf E n) f fn n 0 ((spine c).drop i) st (rootK E fn (outK E f))
    | none => .stuck)
  | none => .stuck
/-- k parts, from part i on; what stands behind them is told by Kc. -/
def segL (E : Env) (n : Nat) (f : FuncId) (i k : Nat) (st : St) (Kc : St → Res T) : Res T := match E.P.funcs[f]? with
  | some fn => (match fn.body with
    | some c => seqK E (recOf E n) f fn n 0 (((spine c).drop i).take k) st fun e st => e.k (Kc st) (fun i => rootK E fn (outK E f) (.exit i) st) (rootK E fn (outK E f) .ret st)
    | none => .stuck)
  | none => .stuck
end Go.Sim

/- Functions that range over maps, in parts: what does not range is told by equations, the range by an invariant. -/
namespace Go.Sim
open Go.RowKit
set_option linter.unusedVariables false
set_option linter.unusedSimpArgs false
set_option linter.unusedSectionVars false

section
variable {E : Env} {rc : Caller} {f : FuncId} {fn : Func} {n base : Nat}
def seqD (E : Env) (rc : Caller) (f : FuncId) (fn : Func) (base : Nat) : List Code → St → (Ex → St → Prop) → Prop
  | [], st, Q => Q .norm st
  | c :: l, st, Q => codeD E rc f fn base c st fun e st => e.kP (seqD E rc f fn base l st Q) (fun i => Q (.exit i) st) (Q .ret st)
theorem codeD_mono : ∀ (c : Code) {st : St} {Q Q' : Ex → St → Prop}, (∀ e s, Q e s → Q' e s) → codeD E rc f fn base c st Q → codeD E rc f fn base c st Q'
  | .skip, st, Q, Q', hq, h => hq _ _ h
  | .region id ops dr, st, Q, Q', hq, h => by
    simp only [codeD] at h ⊢
    rcases h with h | h
    rotate_left
    · exact .inr fun base F κ a w R hb rel hR => h base F κ a w R hb rel fun st' F' κ' a' w' h1 r1 ev1 => hR st' F' κ' a' w' (hq _ _ h1) r1 ev1
    refine .inl ?_
    cases dr with
    | true =>
      simp only [cond_true] at h ⊢
      obtain ⟨a, s, b, c⟩ := h
      exact ⟨a, s, b, hq _ _ c⟩
    | false =>
      simp only [cond_false] at h ⊢
      have go : ∀ (l : List Oper) {st : St}, opsD E rc ops l st (Q .norm) → opsD E rc ops l st (Q' .norm) := by
        intro l
        induction l with
        | nil => exact fun h => hq _ _ h
        | cons o r ih =>
          intro st h
          simp only [opsD] at h ⊢
          unfold stepD at h ⊢
          split at h
          · obtain ⟨m, es, c, a1, a2, a3, a4⟩ := h
            exact ⟨m, es, c, a1, a2, a3, ih a4⟩
          · obtain ⟨l, m, since, seen, last, es, c, a1, a2, a3, a4, a5, a6, a7⟩ := h
            exact ⟨l, m, since, seen, last, es, c, a1, a2, a3, a4, a5, fun h => ih (a6 h), fun e he => ih (a7 e he)⟩
          · obtain ⟨l, m, since, seen, es, c, n, e, a1, a2, a3, a4, a5⟩ := h
            exact ⟨l, m, since, seen, es, c, n, e, a1, a2, a3, a4, ih a5⟩
          · rcases h with ⟨l, e, k, xs, rs, R, a1, a2, a3, a4, a5⟩ | ⟨s, a1, a2⟩
            · exact .inl ⟨l, e, k, xs, rs, R, a1, a2, a3, a4, fun ys hR => ih (a5 ys hR)⟩
            · exact .inr ⟨s, a1, ih a2⟩
          · obtain ⟨s, a1, a2⟩ := h
            exact ⟨s, a1, ih a2⟩
      exact go _ h
  | .seq a b, st, Q, Q', hq, h => by
    simp only [codeD] at h ⊢
    refine codeD_mono a (fun e s h => ?_) h
    cases e with
    | norm => exact codeD_mono b hq h
    | exit i => exact hq _ _ h
    | ret => exact hq _ _ h
  | .cond c a b, st, Q, Q', hq, h => by
    simp only [codeD] at h ⊢
    obtain ⟨v, e1, e2⟩ := h
    refine ⟨v, e1, ?_⟩
    cases v with
    | true => exact codeD_mono a hq e2
    | false => exact codeD_mono b hq e2
  | .block id c, st, Q, Q', hq, h => by
    simp only [codeD] at h ⊢
    refine codeD_mono c (fun e s h => ?_) h
    cases e with
    | norm => exact hq _ _ h
    | exit i =>
      simp only [Ex.kP] at h ⊢
      split
      · rename_i hi; rw [if_pos hi] at h; exact hq _ _ h
      · rename_i hi; rw [if_neg hi] at h; exact hq _ _ h
    | ret => exact hq _ _ h
  | .loop c, st, Q, Q', hq, h => by
    simp only [codeD] at h ⊢
    obtain ⟨I, h0, step⟩ := h
    refine ⟨I, h0, fun k s hI => codeD_mono c (fun e s h => ?_) (step k s hI)⟩
    cases e with
    | norm => exact h
    | exit i => exact hq _ _ h
    | ret => exact hq _ _ h
  | .exit id, st, Q, Q', hq, h => hq _ _ h
  | .scope c, st, Q, Q', hq, h => by
    simp only [codeD] at h ⊢
    exact codeD_mono c hq h
  | .label l, st, Q, Q', hq, h => hq _ _ h
  | .ret, st, Q, Q', hq, h => hq _ _ h
  | .rangeFunc .., st, Q, Q', hq, h => h
  | .goto .., st, Q, Q', hq, h => h
  | .refuse .., st, Q, Q', hq, h => h
theorem exP_un {Q : Ex → St → Prop} {e : Ex} {st : St} (h : e.kP (Q .norm st) (fun i => Q (.exit i) st) (Q .ret st)) : Q e st := by cases e <;> exact h
theorem seqD_append : ∀ (l m : List Code) {st : St} {Q : Ex → St → Prop}, seqD E rc f fn base (l ++ m) st Q → seqD E rc f fn base l st fun e st => e.kP (seqD E rc f fn base m st Q) (fun i => Q (.exit i) st) (Q .ret st)
  | [], m, st, Q, h => h
  | c :: l, m, st, Q, h => by
    simp only [List.cons_append, seqD] at h ⊢
    refine codeD_mono c (fun e s h => ?_) h
    cases e with
    | norm => exact seqD_append l m h
    | exit i => exact h
    | ret => exact h
/-- A code by its parts. -/
theorem codeD_spine : ∀ (c : Code) {st : St} {Q : Ex → St → Prop}, seqD E rc f fn base (spine c) st Q → codeD E rc f fn base c st Q
  | .seq a b, st, Q, h => by
    simp only [codeD]
    rw [spine] at h
    refine codeD_mono a (fun e s h => ?_) (codeD_spine a (seqD_append _ _ h))
    cases e with
    | norm => exact codeD_spine b h
    | exit i => exact h
    | ret => exact h
  | .scope c, st, Q, h => by
    simp only [codeD]
    exact codeD_spine c h
  | .skip, st, Q, h => codeD_mono _ (fun e s h => exP_un h) h
  | .region id ops dr, st, Q, h => codeD_mono (.region id ops dr) (fun e s h => exP_un h) h
  | .cond c a b, st, Q, h => codeD_mono (.cond c a b) (fun e s h => exP_un h) h
  | .block id c, st, Q, h => codeD_mono (.block id c) (fun e s h => exP_un h) h
  | .loop c, st, Q, h => codeD_mono (.loop c) (fun e s h => exP_un h) h
  | .exit id, st, Q, h => codeD_mono (.exit id) (fun e s h => exP_un h) h
  | .label l, st, Q, h => codeD_mono (.label l) (fun e s h => exP_un h) h
  | .ret, st, Q, h => codeD_mono .ret (fun e s h => exP_un h) h
  | .rangeFunc .., st, Q, h => h
  | .goto .., st, Q, h => h
  | .refuse .., st, Q, h => h
/-- Parts that do not range, and what stands behind them. -/
theorem seqD_of (hrc : rc.Nat) : ∀ (l m : List Code) {st st' : St} {e : Ex} {Q : Ex → St → Prop}, seqK E rc f fn n base l st (fun e s => (.ok (e, s) : Res (Ex × St))) = .ok (e, st') → e.kP (seqD E rc f fn base m st' Q) (fun i => Q (.exit i) st') (Q .ret st') → seqD E rc f fn base (l ++ m) st Q
  | [], m, st, st', e, Q, h, hQ => by
    simp only [seqK, Res.ok.injEq, Prod.mk.injEq] at h
    obtain ⟨rfl, rfl⟩ := h
    exact hQ
  | c :: l, m, st, st', e, Q, h, hQ => by
    simp only [seqK] at h
    simp only [List.cons_append, seqD]
    obtain ⟨e1, s1, h1, h2⟩ := codeK_ok hrc h
    refine codeD_of hrc c h1 ?_
    cases e1 with
    | norm => exact seqD_of hrc l m h2 hQ
    | exit i =>
      simp only [Ex.k, Res.ok.injEq, Prod.mk.injEq] at h2
      obtain ⟨rfl, rfl⟩ := h2
      exact hQ
    | ret =>
      simp only [Ex.k, Res.ok.injEq, Prod.mk.injEq] at h2
      obtain ⟨rfl, rfl⟩ := h2
      exact hQ
end
end Go.Sim

/- Functions that range over maps, part by part: parts are found by a path (the parts of a loop's body stand behind the part that is the loop). -/
namespace Go.Sim
open Go.RowKit
set_option linter.unusedVariables false
set_option linter.unusedSimpArgs false
set_option linter.unusedSectionVars false

def innerC : Code → Code
  | .block _ (.loop c) => c
  | .block _ c => c
  | .loop c => c
  | c => c
/-- The parts at a path. -/
def subC : List Nat → Code → List Code
  | [], c => spine c
  | i :: p, c => subC p (innerC ((spine c).getD i .skip))
def bodyC (E : Env) (f : FuncId) : Code := match E.P.funcs[f]? with
  | some fn => fn.body.getD .skip
  | none => .skip
def funcE (E : Env) (f : FuncId) : Func := (E.P.funcs[f]?).getD default
def partsC (E : Env) (f : FuncId) (p : List Nat) : List Code := subC p (bodyC E f)
def opsC : Code → Array Oper
  | .region _ ops _ => ops
  | _ => #[]
def drC : Code → Bool
  | .region _ _ dr => dr
  | _ => true
/-- The operations of part i. -/
def opsX (E : Env) (f : FuncId) (p : List Nat) (i : Nat) : Array Oper := opsC ((partsC E f p).getD i .skip)
section
variable (E : Env) (n : Nat) (f : FuncId) (p : List Nat)
/-- k parts, from part i on, none of which ranges. -/
def seqX (i k : Nat) (st : St) : Res (Ex × St) := seqK E (recOf E n) f (funcE E f) n 0 (((partsC E f p).drop i).take k) st fun e s => .ok (e, s)
/-- k operations, from operation j on, of part i. -/
def opsR (i j k : Nat) (st : St) : Res St := opsK E (recOf E n) (opsX E f p i) ((((opsX E f p i).toList.drop j).take k).map fun o => (o, false)) st fun s => .ok s
/-- A round of the loop that part i is. -/
def bodyX (i : Nat) : St → Res (Ex × St) := loopB E (recOf E n) f (funcE E f) n 0 (innerC ((partsC E f p).getD i .skip))
def hintX (i : Nat) : List Nat × List Nat := E.hint f (firstRegion (innerC ((partsC E f p).getD i .skip)))
/-- What comes from part i on. -/
def partD (i : Nat) (st : St) (Q : Ex → St → Prop) : Prop := seqD E (recOf E n) f (funcE E f) 0 ((partsC E f p).drop i) st Q
/-- What comes from operation j of part i on. -/
def opD (i j : Nat) (st : St) (Q : Ex → St → Prop) : Prop := opsD E (recOf E n) (opsX E f p i) ((opsX E f p i).toList.drop j) st fun st => partD E n f p (i + 1) st Q
end
section
variable {E : Env} {n : Nat} {f : FuncId} {p : List Nat}

theorem partD_x {i : Nat} (k : Nat) {st st' : St} {e : Ex} {Q : Ex → St → Prop} (h : seqX E n f p i k st = .ok (e, st')) (hq : e.kP (partD E n f p (i + k) st' Q) (fun i => Q (.exit i) st') (Q .ret st')) : partD E n f p i st Q := by
  unfold partD
  have e1 : (partsC E f p).drop i = ((partsC E f p).drop i).take k ++ (partsC E f p).drop (i + k) := by rw [← List.drop_drop, List.take_append_drop]
  rw [e1]
  exact seqD_of (runK_nat E n) _ _ h hq
theorem partD_end {i : Nat} {st : St} {Q : Ex → St → Prop} (h : (partsC E f p).length = i) (hq : Q .norm st) : partD E n f p i st Q := by
  unfold partD
  rw [List.drop_eq_nil_of_le (by omega)]
  exact hq
theorem drop_one {α : Type} {l : List α} {i : Nat} {c : α} (h : l[i]? = some c) : l.drop i = c :: l.drop (i + 1) := by
  obtain ⟨h1, h2⟩ := List.getElem?_eq_some_iff.1 h
  rw [← h2]; exact List.drop_eq_getElem_cons h1
/-- A part that is a region: its operations, one by one. -/
theorem partD_ops {i id : Nat} {ops : Array Oper} {st : St} {Q : Ex → St → Prop} (h : (partsC E f p)[i]? = some (.region id ops false)) (hq : opD E n f p i 0 st Q) : partD E n f p i st Q := by
  unfold partD
  rw [drop_one h]
  simp only [seqD, codeD, cond_false]
  refine .inl ?_
  have e : opsX E f p i = ops := by unfold opsX; rw [List.getD_eq_getElem?_getD, h]; rfl
  unfold opD partD at hq
  rw [e, List.drop_zero] at hq
  exact hq
/-- A part that is a region, shown of the machine itself. -/
theorem partD_sem {i : Nat} {st : St} {Q : Ex → St → Prop} {c : Code} (h : (partsC E f p)[i]? = some c) (hc : ∃ id ops dr, c = .region id ops dr) (hq : RegSem E c st fun st => partD E n f p (i + 1) st Q) : partD E n f p i st Q := by
  obtain ⟨id, ops, dr, rfl⟩ := hc
  unfold partD
  rw [drop_one h]
  simp only [seqD, codeD]
  exact .inr hq
theorem isRegion {c : Code} (h : drC c = false) : ∃ id ops, c = .region id ops false := by
  cases c with
  | region id ops dr => simp only [drC] at h; subst h; exact ⟨id, ops, rfl⟩
  | _ => cases h
theorem partD_reg {i : Nat} {st : St} {Q : Ex → St → Prop} (h : drC ((partsC E f p).getD i .skip) = false) (hl : i < (partsC E f p).length) (hq : opD E n f p i 0 st Q) : partD E n f p i st Q := by
  obtain ⟨id, ops, e⟩ := isRegion h
  refine partD_ops (id := id) (ops := ops) ?_ hq
  rw [List.getD_eq_getElem?_getD, List.getElem?_eq_getElem hl] at e
  rw [List.getElem?_eq_getElem hl]
  simpa using e
/-- An operation of its own making: a range, what comes next, the entry, a call that may sort. -/
theorem opD_step {i j : Nat} {o : Oper} {st : St} {Q : Ex → St → Prop} (h : (opsX E f p i).toList[j]? = some o) (hq : stepD E (recOf E n) (opsX E f p i) o st fun st => opD E n f p i (j + 1) st Q) : opD E n f p i j st Q := by
  unfold opD
  rw [drop_one h]
  exact hq
/-- A loop that does not range. -/
theorem partD_loop {i id : Nat} {st X : St} {Q : Ex → St → Prop} {c : Code} (h : (partsC E f p)[i]? = some (.block id (.loop c))) (hi : iterR (bodyX E n f p i) n (canon 0 (hintX E f p i).1 st) = .ok (.exit id, X)) (hq : partD E n f p (i + 1) X Q) : partD E n f p i st Q := by
  refine partD_x 1 (e := .norm) (st' := X) ?_ hq
  unfold seqX
  rw [drop_one h]
  have e : innerC ((partsC E f p).getD i .skip) = c := by rw [List.getD_eq_getElem?_getD, h]; rfl
  unfold bodyX hintX at hi
  rw [e] at hi
  show codeK E (recOf E n) f (funcE E f) n 0 (.block id (.loop c)) st _ = _
  simp only [codeK]
  unfold loopB at hi
  rw [hi]
  simp [Ex.k, seqK]
/-- A loop whose rounds range, or may: told by what holds at its head. -/
theorem partD_rloop {i id : Nat} {st : St} {Q : Ex → St → Prop} {c : Code} (h : (partsC E f p)[i]? = some (.block id (.loop c))) (hp : partsC E f (p ++ [i]) = spine c) (I : Nat → St → Prop) {m : Nat} (h0 : I m (canon 0 (hintX E f p i).1 st))
    (step : ∀ m st, I m st → partD E n f (p ++ [i]) 0 st fun e st => e.kP (∃ m', m' < m ∧ I m' (canon 0 (hintX E f p i).1 st))
      (fun j => if j = id then partD E n f p (i + 1) (canon 0 (hintX E f p i).2 st) Q else Q (.exit j) (canon 0 (hintX E f p i).2 st)) (Q .ret (canon 0 (resTmps (funcE E f)) st))) : partD E n f p i st Q := by
  have e : innerC ((partsC E f p).getD i .skip) = c := by rw [List.getD_eq_getElem?_getD, h]; rfl
  unfold hintX at h0 step
  rw [e] at h0 step
  unfold partD
  rw [drop_one h]
  simp only [seqD, codeD]
  refine ⟨I, ⟨m, h0⟩, fun m st hI => ?_⟩
  have := step m st hI
  unfold partD at this
  rw [hp, List.drop_zero] at this
  refine codeD_mono c (fun e s hh => ?_) (codeD_spine c this)
  cases e with
  | norm => exact hh
  | exit j =>
    simp only [Ex.kP] at hh ⊢
    by_cases hj : j = id
    · rw [if_pos hj] at hh ⊢; exact hh
    · rw [if_neg hj] at hh ⊢; exact hh
  | ret => exact hh
/-- A block. -/
theorem partD_block {i id : Nat} {st : St} {Q : Ex → St → Prop} {c : Code} (h : (partsC E f p)[i]? = some (.block id c)) (hp : partsC E f (p ++ [i]) = spine c)
    (hq : partD E n f (p ++ [i]) 0 st fun e st => e.kP (partD E n f p (i + 1) st Q) (fun j => if j = id then partD E n f p (i + 1) st Q else Q (.exit j) st) (Q .ret st)) : partD E n f p i st Q := by
  unfold partD at hq ⊢
  rw [hp, List.drop_zero] at hq
  rw [drop_one h]
  simp only [seqD, codeD]
  refine codeD_mono c (fun e s hh => ?_) (codeD_spine c hq)
  cases e with
  | norm => exact hh
  | exit j =>
    simp only [Ex.kP] at hh ⊢
    by_cases hj : j = id
    · rw [if_pos hj] at hh ⊢; exact hh
    · rw [if_neg hj] at hh ⊢; exact hh
  | ret => exact hh
/-- A whole function. -/
theorem funD_parts {args : List T} {R : PV → List AObj → Prop} (hf : ∃ fn, E.P.funcs[f]? = some fn ∧ fn.body.isSome = true)
    (h : partD E n f [] 0 (startS E f (args.map .t)) fun e st => e.kP (endD E (funcE E f) R st) (fun _ => False) (endD E (funcE E f) R st)) : funD E (recOf E n) f (args.map .t) [] R := by
  obtain ⟨fn, h1, h2⟩ := hf
  obtain ⟨c, h2⟩ := Option.isSome_iff_exists.1 h2
  have e1 : funcE E f = fn := by unfold funcE; rw [h1]; rfl
  have e2 : bodyC E f = c := by unfold bodyC; rw [h1]; simp [h2]
  unfold funD
  rw [h1]
  simp only [h2]
  unfold partD partsC startS at h
  rw [e1, e2, h1] at h
  simp only [subC, List.drop_zero] at h
  exact codeD_spine c h
/-- Behind what has come so far: k parts of a path; the state as a loop that comes next sees it. -/
def thenX (E : Env) (n : Nat) (f : FuncId) (p : List Nat) (i k : Nat) (r : Res (Ex × St)) : Res (Ex × St) := r.bind fun q => q.1.k (seqX E n f p i k q.2) (fun j => .ok (.exit j, q.2)) (.ok (.ret, q.2))
def canX (E : Env) (f : FuncId) (p : List Nat) (i : Nat) (r : Res (Ex × St)) : Res (Ex × St) := r.bind fun q => q.1.k (.ok (.norm, canon 0 (hintX E f p i).1 q.2)) (fun j => .ok (.exit j, q.2)) (.ok (.ret, q.2))
theorem canX_inv {i : Nat} {r : Res (Ex × St)} {s : St} (h : canX E f p i r = .ok (.norm, s)) : ∃ st, r = .ok (.norm, st) ∧ canon 0 (hintX E f p i).1 st = s := by
  obtain ⟨⟨e, st⟩, h1, h2⟩ := bind_ok_inv h
  cases e with
  | norm =>
    simp only [Ex.k, Res.ok.injEq, Prod.mk.injEq, true_and] at h2
    exact ⟨st, h1, h2⟩
  | exit j => simp [Ex.k] at h2
  | ret => simp [Ex.k] at h2
/-- Some parts, and a loop told by what holds at its head. -/
theorem partD_xrloop {i id : Nat} (k : Nat) {st s : St} {Q : Ex → St → Prop} {c : Code} (h : canX E f p (i + k) (seqX E n f p i k st) = .ok (.norm, s)) (hb : (partsC E f p)[i + k]? = some (.block id (.loop c))) (hp : partsC E f (p ++ [i + k]) = spine c) (I : Nat → St → Prop) {m : Nat} (h0 : I m s)
    (step : ∀ m st, I m st → partD E n f (p ++ [i + k]) 0 st fun e st => e.kP (∃ m', m' < m ∧ I m' (canon 0 (hintX E f p (i + k)).1 st))
      (fun j => if j = id then partD E n f p (i + k + 1) (canon 0 (hintX E f p (i + k)).2 st) Q else Q (.exit j) (canon 0 (hintX E f p (i + k)).2 st)) (Q .ret (canon 0 (resTmps (funcE E f)) st))) : partD E n f p i st Q := by
  obtain ⟨st', h1, h2⟩ := canX_inv h
  subst h2
  exact partD_x k h1 (partD_rloop hb hp I h0 step)
end
/-! ### regions that range -/
def lastE (seen : List Nat) : Option Nat := seen.getLast?
def entE (es : List (T × T × Nat)) (n : Nat) : Option (T × T × Nat) := es.find? fun x => x.2.2 == n
section
variable (E : Env) (n : Nat) (f : FuncId) (p : List Nat)
/-- One operation: a range, the entry that has come, or any other one. -/
def stepR (rc : Caller) (ops : Array Oper) (o : Oper) (st : St) : Res St := match o.guard, o.op with
  | none, .range t x => someK (evalO E.P st.tmps t x) fun p => (match p with
    | .mp m => (match st.heap[m]? with
      | some (.map es c) => chk (mapP E.P t).isSome (.ok ⟨setT st.tmps o.dst (.ptr st.heap.length 0), st.heap ++ [.iter m c [] c]⟩)
      | _ => .stuck)
    | _ => .stuck)
  | none, .entry x => someK (evalO E.P st.tmps 0 x) fun p => (match p with
    | .ptr l 0 => (match st.heap[l]? with
      | some (.iter m since seen last) => (match st.heap[m]? with
        | some (.map es c) => someK (lastE seen) fun n => someK (entE es n) fun e => chk (Nat.beq last c) (.ok ⟨setT st.tmps o.dst (.t (.tup [e.1, e.2.1])), st.heap⟩)
        | _ => .stuck)
      | _ => .stuck)
    | _ => .stuck)
  | _, _ => opsK E rc ops [(o, false)] st fun s => .ok s
def runR (rc : Caller) (ops : Array Oper) : List Oper → St → Res St
  | [], st => .ok st
  | o :: r, st => (stepR E rc ops o st).bind fun st => runR rc ops r st
/-- One part. -/
def onePart (c : Code) (st : St) : Res (Ex × St) := match c with
  | .region _ ops false => (runR E (recOf E n) ops ops.toList st).bind fun s => .ok (.norm, s)
  | c => codeK E (recOf E n) f (funcE E f) n 0 c st fun e s => .ok (e, s)
def parY : List Code → St → Res (Ex × St)
  | [], st => .ok (.norm, st)
  | c :: l, st => (onePart E n f c st).bind fun q => q.1.k (parY l q.2) (fun j => .ok (.exit j, q.2)) (.ok (.ret, q.2))
/-- k parts from part i on, which may range. -/
def seqY (i k : Nat) (st : St) : Res (Ex × St) := parY E n f (((partsC E f p).drop i).take k) st
/-- The rest of part i from operation j on, and k parts behind it. -/
def restY (i j k : Nat) (st : St) : Res (Ex × St) := (runR E (recOf E n) (opsX E f p i) ((opsX E f p i).toList.drop j) st).bind fun st => parY E n f (((partsC E f p).drop (i + 1)).take k) st
def thenY (i k : Nat) (r : Res (Ex × St)) : Res (Ex × St) := r.bind fun q => q.1.k (seqY E n f p i k q.2) (fun j => .ok (.exit j, q.2)) (.ok (.ret, q.2))
/-- Out of a loop. -/
def exX (i : Nat) (r : Res (Ex × St)) : Res (Ex × St) := r.bind fun q => q.1.k .stuck (fun j => .ok (.exit j, canon 0 (hintX E f p i).2 q.2)) .stuck
end
section
variable {E : Env} {n : Nat} {f : FuncId} {p : List Nat}
theorem stepR_ok {rc : Caller} {ops : Array Oper} {o : Oper} {st st' : St} {Q : St → Prop} (h : stepR E rc ops o st = .ok st') (hQ : Q st') : stepD E rc ops o st Q := by
  unfold stepR at h
  split at h
  · rename_i t x hg ho
    obtain ⟨dst, op, ty, ps, af, guard⟩ := o
    simp only at hg ho; subst hg; subst ho
    obtain ⟨q, e1, e2⟩ := someK_inv (by rw [h]; simp)
    rw [e2] at h
    cases q with
    | mp m =>
      cases hm : st.heap[m]? with
      | none => simp [hm] at h
      | some ob =>
        cases ob with
        | map es c =>
          simp only [hm] at h
          obtain ⟨h3, h4⟩ := chk_inv (by rw [h]; simp)
          rw [h4] at h
          simp only [Res.ok.injEq] at h
          subst h
          exact ⟨m, es, c, e1, hm, h3, hQ⟩
        | _ => simp [hm] at h
    | _ => cases h
  · rename_i x hg ho
    obtain ⟨dst, op, ty, ps, af, guard⟩ := o
    simp only at hg ho; subst hg; subst ho
    obtain ⟨q, e1, e2⟩ := someK_inv (by rw [h]; simp)
    rw [e2] at h
    cases q with
    | ptr l ofs =>
      cases ofs with
      | succ k => cases h
      | zero =>
      cases hm : st.heap[l]? with
      | none => simp [hm] at h
      | some ob =>
        cases ob with
        | iter m since seen last =>
          simp only [hm] at h
          cases hm2 : st.heap[m]? with
          | none => simp [hm2] at h
          | some ob2 =>
            cases ob2 with
            | map es c =>
              simp only [hm2] at h
              obtain ⟨k, e3, e4⟩ := someK_inv (by rw [h]; simp)
              rw [e4] at h
              obtain ⟨e, e5, e6⟩ := someK_inv (by rw [h]; simp)
              rw [e6] at h
              obtain ⟨h3, h4⟩ := chk_inv (by rw [h]; simp)
              rw [h4] at h
              simp only [Res.ok.injEq] at h
              subst h
              have hc := Nat.eq_of_beq_eq_true h3
              subst hc
              obtain ⟨s0, hs0⟩ : ∃ s0, seen = s0 ++ [k] := by
                unfold lastE at e3
                exact List.getLast?_eq_some_iff.1 e3
              subst hs0
              exact ⟨l, m, since, s0, es, last, k, e, e1, hm, hm2, e5, hQ⟩
            | _ => simp [hm2] at h
        | _ => simp [hm] at h
    | _ => cases h
  · exact stepD_of h hQ
theorem runR_ok {rc : Caller} {ops : Array Oper} : ∀ {l : List Oper} {st st' : St} {Q : St → Prop}, runR E rc ops l st = .ok st' → Q st' → opsD E rc ops l st Q
  | [], st, st', Q, h, hQ => by
    simp only [runR, Res.ok.injEq] at h
    subst h; exact hQ
  | o :: r, st, st', Q, h, hQ => by
    simp only [runR] at h
    obtain ⟨s1, h1, h2⟩ := bind_ok_inv h
    exact stepR_ok h1 (runR_ok h2 hQ)
theorem onePart_ok : ∀ {c : Code} {st st' : St} {e : Ex} {Q : Ex → St → Prop}, onePart E n f c st = .ok (e, st') → Q e st' → codeD E (recOf E n) f (funcE E f) 0 c st Q := by
  intro c st st' e Q h hQ
  unfold onePart at h
  split at h
  · obtain ⟨s1, h1, h2⟩ := bind_ok_inv h
    simp only [Res.ok.injEq, Prod.mk.injEq] at h2
    obtain ⟨rfl, rfl⟩ := h2
    simp only [codeD, cond_false]
    exact .inl (runR_ok h1 hQ)
  · exact codeD_of (runK_nat E n) _ h hQ
theorem parY_ok : ∀ {l m : List Code} {st st' : St} {e : Ex} {Q : Ex → St → Prop}, parY E n f l st = .ok (e, st') → e.kP (seqD E (recOf E n) f (funcE E f) 0 m st' Q) (fun i => Q (.exit i) st') (Q .ret st') → seqD E (recOf E n) f (funcE E f) 0 (l ++ m) st Q
  | [], m, st, st', e, Q, h, hQ => by
    simp only [parY, Res.ok.injEq, Prod.mk.injEq] at h
    obtain ⟨rfl, rfl⟩ := h
    exact hQ
  | c :: l, m, st, st', e, Q, h, hQ => by
    simp only [parY] at h
    obtain ⟨⟨e1, s1⟩, h1, h2⟩ := bind_ok_inv h
    simp only [List.cons_append, seqD]
    refine onePart_ok h1 ?_
    cases e1 with
    | norm => exact parY_ok h2 hQ
    | exit i =>
      simp only [Ex.k, Res.ok.injEq, Prod.mk.injEq] at h2
      obtain ⟨rfl, rfl⟩ := h2
      exact hQ
    | ret =>
      simp only [Ex.k, Res.ok.injEq, Prod.mk.injEq] at h2
      obtain ⟨rfl, rfl⟩ := h2
      exact hQ
theorem partD_y {i : Nat} (k : Nat) {st st' : St} {e : Ex} {Q : Ex → St → Prop} (h : seqY E n f p i k st = .ok (e, st')) (hq : e.kP (partD E n f p (i + k) st' Q) (fun i => Q (.exit i) st') (Q .ret st')) : partD E n f p i st Q := by
  unfold partD
  have e1 : (partsC E f p).drop i = ((partsC E f p).drop i).take k ++ (partsC E f p).drop (i + k) := by rw [← List.drop_drop, List.take_append_drop]
  rw [e1]
  exact parY_ok h hq
theorem opD_y {i j : Nat} (k : Nat) {st st' : St} {e : Ex} {Q : Ex → St → Prop} (h : restY E n f p i j k st = .ok (e, st')) (hq : e.kP (partD E n f p (i + 1 + k) st' Q) (fun i => Q (.exit i) st') (Q .ret st')) : opD E n f p i j st Q := by
  obtain ⟨s1, h1, h2⟩ := bind_ok_inv h
  unfold opD
  refine runR_ok h1 ?_
  exact partD_y (p := p) (i := i + 1) k h2 hq
/-- What comes next of a map that is ranged over. -/
theorem step_next {rc : Caller} {ops : Array Oper} {o : Oper} {x : Operand} {st : St} {Q : St → Prop} {l m since last c : Nat} {seen : List Nat} {es : List (T × T × Nat)} (hg : o.guard = none) (ho : o.op = .next x false) (h1 : evalO E.P st.tmps 0 x = some (.ptr l 0)) (h2 : st.heap[l]? = some (.iter m since seen last)) (h3 : st.heap[m]? = some (.map es c))
    (hs : ∀ e ∈ es, e.2.2 < since) (hl : seen = [] ∨ es = [] ∨ ∃ e ∈ es, e.2.2 < last) (hf : leftE seen es = [] → Q ⟨setT st.tmps o.dst (.t (.tup [.bool false])), st.heap⟩)
    (ht : ∀ e ∈ leftE seen es, Q ⟨setT st.tmps o.dst (.t (.tup [.bool true, e.1, e.2.1])), st.heap.set l (.iter m since (seen ++ [e.2.2]) c)⟩) : stepD E rc ops o st Q := by
  obtain ⟨dst, op, ty, ps, af, guard⟩ := o
  simp only at hg ho; subst hg; subst ho
  exact ⟨l, m, since, seen, last, es, c, h1, h2, h3, hs, hl, hf, ht⟩
end
end Go.Sim

/- Regions that come behind an entry: told by what comes next, so that they come out by running. -/
namespace Go.Sim
open Go.RowKit
set_option linter.unusedVariables false
set_option linter.unusedSimpArgs false
set_option linter.unusedSectionVars false
section
variable {β γ : Type} {E : Env} {rc : Caller} {f : FuncId} {fn : Func} {n base : Nat}
theorem nat_seqK (hrc : rc.Nat) {g : Res β → Res γ} (hg : Strict g) : ∀ (l : List Code) (st : St) (K : Ex → St → Res β), g (seqK E rc f fn n base l st K) = seqK E rc f fn n base l st fun e s => g (K e s)
  | [], st, K => rfl
  | c :: l, st, K => by
    simp only [seqK]
    rw [nat_codeK hrc c hg]
    congr 1
    funext e s
    cases e with
    | norm => exact nat_seqK hrc hg l s K
    | exit i => rfl
    | ret => rfl
end
/-- The rest of part i from operation j on, k parts behind it, and what comes then. -/
def restT {β : Type} (E : Env) (n : Nat) (f : FuncId) (p : List Nat) (i j k : Nat) (st : St) (K : Ex → St → Res β) : Res β := opsK E (recOf E n) (opsX E f p i) (((opsX E f p i).toList.drop j).map fun o => (o, false)) st fun s => seqK E (recOf E n) f (funcE E f) n 0 (((partsC E f p).drop (i + 1)).take k) s K
/-- k parts from part i on, and what comes then. -/
def seqT {β : Type} (E : Env) (n : Nat) (f : FuncId) (p : List Nat) (i k : Nat) (st : St) (K : Ex → St → Res β) : Res β := seqK E (recOf E n) f (funcE E f) n 0 (((partsC E f p).drop i).take k) st K
/-- The state, as a loop's head sees it. -/
def canT (E : Env) (f : FuncId) (p : List Nat) (i : Nat) : Ex → St → Res (Ex × St) := fun e s => e.k (.ok (.norm, canon 0 (hintX E f p i).1 s)) (fun j => .ok (.exit j, s)) (.ok (.ret, s))
section
variable {E : Env} {n : Nat} {f : FuncId} {p : List Nat}
theorem opD_t {i j k : Nat} {st st' : St} {Q : Ex → St → Prop} (h : restT E n f p i j k st (fun e s => (.ok (e, s) : Res (Ex × St))) = .ok (.norm, st')) (hq : partD E n f p (i + 1 + k) st' Q) : opD E n f p i j st Q := by
  unfold restT at h
  have e : (opsK E (recOf E n) (opsX E f p i) (((opsX E f p i).toList.drop j).map fun o => (o, false)) st fun s => seqK E (recOf E n) f (funcE E f) n 0 (((partsC E f p).drop (i + 1)).take k) s fun e s => (.ok (e, s) : Res (Ex × St))) = (opsK E (recOf E n) (opsX E f p i) (((opsX E f p i).toList.drop j).map fun o => (o, false)) st fun s => (.ok s : Res St)).bind fun s => seqK E (recOf E n) f (funcE E f) n 0 (((partsC E f p).drop (i + 1)).take k) s fun e s => .ok (e, s) := by
    rw [nat_opsK (Strict.bind fun s : St => seqK E (recOf E n) f (funcE E f) n 0 (((partsC E f p).drop (i + 1)).take k) s fun e s => (.ok (e, s) : Res (Ex × St))) (runK_nat E n)]
    rfl
  rw [e] at h
  obtain ⟨s1, h1, h2⟩ := bind_ok_inv h
  unfold opD
  exact opsD_of (runK_nat E n) h1 (partD_x (e := .norm) k h2 hq)
/-- The entry that has come. -/
theorem step_entry {rc : Caller} {ops : Array Oper} {o : Oper} {x : Operand} {st : St} {Q : St → Prop} {l m since c n : Nat} {seen : List Nat} {es : List (T × T × Nat)} {e : T × T × Nat} (hg : o.guard = none) (ho : o.op = .entry x) (h1 : evalO E.P st.tmps 0 x = some (.ptr l 0)) (h2 : st.heap[l]? = some (.iter m since (seen ++ [n]) c)) (h3 : st.heap[m]? = some (.map es c))
    (h4 : entE es n = some e) (hq : Q ⟨setT st.tmps o.dst (.t (.tup [e.1, e.2.1])), st.heap⟩) : stepD E rc ops o st Q := by
  obtain ⟨dst, op, ty, ps, af, guard⟩ := o
  simp only at hg ho; subst hg; subst ho
  exact ⟨l, m, since, seen, es, c, n, e, h1, h2, h3, h4, hq⟩
end
end Go.Sim

/- Regions that draw their order, and append: what stands beside an append may come ahead of it or behind it. -/
namespace Go.Sim
open Go.RowKit
set_option linter.unusedVariables false
set_option linter.unusedSimpArgs false
set_option linter.unusedSectionVars false

/-- An append; a plain look at boxes and rows of slots. -/
def appO (o : Oper) : Bool := o.guard.isNone && match o.op with
  | .call c => (match c.callee with | .builtin .append => true | _ => false)
  | _ => false
def plainO (o : Oper) : Bool := o.guard.isNone && match o.op with
  | .move (.tmp _) => true
  | .load _ (.tmp _) => true
  | .fieldAddr _ (.tmp _) _ => true
  | .indexAddr _ (.tmp _) _ => true
  | _ => false
def objC (N0 : Nat) (H : List AObj) (l : Nat) : Bool := decide (l < N0) && match H[l]? with
  | some (.vec _ _ _ _) => true
  | some (.box _ _ _) => true
  | some (.fbox _ _ _) => true
  | _ => false
/-- A value by which no row of trees is named. -/
def careV (N0 : Nat) (H : List AObj) : PV → Bool
  | .t _ => true
  | .rp _ _ _ => true
  | .ptr l _ => objC N0 H l
  | .own l => objC N0 H l
  | .eptr l _ _ _ => objC N0 H l
  | _ => false
def careO (N0 : Nat) (tm : List PV) (H : List AObj) (o : Oper) : Bool := o.op.operands.toList.all fun x => match x with
  | .tmp t => careV N0 H (tm.getD t .junk)
  | _ => true
def pairA (x y : Oper) : Bool := (quietOp x.op && quietOp y.op) || (appO y && plainO x) || (appO x && plainO y)

/-- What an append makes of memory. -/
structure AppTurn (f : Nat → Bool) (H H1 : List AObj) : Prop where
  len : H.length ≤ H1.length
  fwd : ∀ l o, H[l]? = some o → o.notRow → f l = false ∧ H1[l]? = some (o.kill f)
  bwd : ∀ l o, l < H.length → H1[l]? = some o → o.notRow → ∃ o', H[l]? = some o' ∧ o'.notRow

section
variable {β : Type} {E : Env} {rc : Caller} {tm tm' tm1 : List PV} {H H1 : List AObj} {ops : Array Oper} {f : Nat → Bool} {N0 : Nat}

mutual
theorem PV.kill_false : ∀ q : PV, q.kill (fun _ => false) = q
  | .agg cs => by rw [PV.kill, PV.kills_false]
  | .tup cs => by rw [PV.kill, PV.kills_false]
  | .fn g fs cs => by rw [PV.kill, PV.kills_false, PV.kills_false]
  | .own _ | .eptr _ _ _ _ | .view _ _ _ _ | .t _ | .nil _ _ | .ptr _ _ | .mp _ | .full _ _ | .rp _ _ _ | .junk => rfl
theorem PV.kills_false : ∀ qs : List PV, PV.kills (fun _ => false) qs = qs
  | [] => rfl
  | q :: r => by rw [PV.kills, PV.kill_false, PV.kills_false]
end
theorem AObj.kill_false (o : AObj) : o.kill (fun _ => false) = o := by cases o <;> simp [AObj.kill, PV.kill_false, PV.kills_false]
theorem AppTurn.same (hl : H.length ≤ H1.length) (h : ∀ l, l < H.length → ∀ o, o.notRow → (H1[l]? = some o ↔ H[l]? = some o)) : AppTurn (fun _ => false) H H1 :=
  ⟨hl, fun l o ho hn => ⟨rfl, by rw [AObj.kill_false]; exact (h l (List.getElem?_eq_some_iff.1 ho).1 o hn).2 ho⟩, fun l o hlt ho hn => ⟨o, (h l hlt o hn).1 ho, hn⟩⟩
theorem notRow_kill {o : AObj} (h : (o.kill f).notRow) : o.notRow := fun e k xs he => h e k xs (by rw [he]; rfl)

theorem append_make {t t' : TypeId} {s x : PV} {K : PV → St → Res β} {z : β} (h : appendK E ⟨tm, H⟩ t t' s x K = .ok z) :
    ∃ q H1 f, AppTurn f H H1 ∧ K q ⟨PV.kills f tm, H1⟩ = .ok z ∧ ∀ (γ : Type) (tm' : List PV) (K' : PV → St → Res γ), appendK E ⟨tm', H⟩ t t' s x K' = K' q ⟨PV.kills f tm', H1⟩ := by
  unfold appendK at h ⊢
  cases he : elP E.P t with
  | none => simp only [he] at h; cases h
  | some e =>
  cases hs : szP E.P e with
  | none => simp only [he, hs] at h; cases h
  | some k =>
  cases k with
  | zero => simp only [he, hs] at h; cases h
  | succ k =>
  cases hb : byP E.P e with
  | none => simp only [he, hs, hb] at h; cases h
  | some b =>
  cases b with
  | zero => simp only [he, hs, hb] at h; cases h
  | succ b =>
  simp only [he, hs, hb] at h ⊢
  cases h1 : (t == t' && zeroOk E.P e (k + 1)) with
  | false => rw [h1] at h; cases h
  | true =>
  rw [h1] at h
  simp only [cond_true] at h ⊢
  obtain ⟨ys, h2, h3⟩ := elems_make (ys := (.stuck : Res β)) h
  clear h
  cases s with
  | nil e0 k0 =>
    simp only [] at h2
    cases h4 : decide (ys.length * (b + 1) ≤ big) with
    | false => rw [h4] at h2; cases h2
    | true =>
    rw [h4] at h2
    simp only [chk, cond_true] at h2
    refine ⟨.own H.length, H ++ [.row e (k + 1) ys], fun _ => false, AppTurn.same (by simp) (fun l hl o _ => by rw [List.getElem?_append_left hl]), by rw [PV.kills_false]; exact h2, fun γ tm' K' => ?_⟩
    rw [h3, PV.kills_false]
    simp only [h4, chk, cond_true]
  | own l =>
    simp only [] at h2
    cases ho : H[l]? with
    | none => rw [ho] at h2; cases h2
    | some ob =>
    rw [ho] at h2
    cases ob <;> try cases h2
    rename_i e0 k0 xs
    simp only [] at h2
    cases h4 : (e0 == e && k0 == k + 1) with
    | false => rw [h4] at h2; cases h2
    | true =>
    rw [h4] at h2
    simp only [cond_true] at h2
    cases h5 : decide ((xs.length + ys.length) * (b + 1) ≤ big) with
    | false => rw [h5] at h2; cases h2
    | true =>
    rw [h5] at h2
    simp only [chk, cond_true] at h2
    have hl : l < H.length := (List.getElem?_eq_some_iff.1 ho).1
    refine ⟨_, _, (· == l), ⟨by simp, fun i o hi hn => ?_, fun i o hi hio hn => ?_⟩, h2, fun γ tm' K' => ?_⟩
    · have hne : i ≠ l := fun e => by subst e; rw [ho] at hi; injection hi with hi; exact hn _ _ _ hi.symm
      refine ⟨beq_eq_false_iff_ne.2 hne, ?_⟩
      rw [List.getElem?_set_ne (fun h => hne h.symm), List.getElem?_map, hi]; rfl
    · have hne : i ≠ l := fun e => by
        subst e
        rw [List.getElem?_set_self (by simpa using hl)] at hio
        injection hio with hio
        exact hn _ _ _ hio.symm
      rw [List.getElem?_set_ne (fun h => hne h.symm), List.getElem?_map, Option.map_eq_some_iff] at hio
      obtain ⟨o', g1, g2⟩ := hio
      exact ⟨o', g1, notRow_kill (g2 ▸ hn)⟩
    · rw [h3]
      simp only [ho, h4, cond_true, h5, chk]
  | view l k0 lo hi =>
    simp only [] at h2
    cases ho : H[l]? with
    | none => rw [ho] at h2; cases h2
    | some ob =>
    rw [ho] at h2
    cases ob <;> try cases h2
    rename_i e0 k1 xs
    simp only [] at h2
    cases h4 : (e0 == e && k1 == k + 1 && k0 == k + 1) with
    | false => rw [h4] at h2; cases h2
    | true =>
    rw [h4] at h2
    simp only [cond_true] at h2
    cases h5 : (decide (lo ≤ hi) && decide (hi + ys.length ≤ xs.length)) with
    | false => rw [h5] at h2; cases h2
    | true =>
    rw [h5] at h2
    simp only [chk, cond_true] at h2
    have hl : l < H.length := (List.getElem?_eq_some_iff.1 ho).1
    refine ⟨.view l k0 lo (hi + ys.length), H.set l (.row e (k + 1) (spliceT xs hi ys)), fun _ => false, AppTurn.same (by simp) (fun i hi o hn => ?_), by rw [PV.kills_false]; exact h2, fun γ tm' K' => ?_⟩
    · by_cases e0 : i = l
      · subst e0
        rw [List.getElem?_set_self hl, ho]
        constructor
        · intro h; injection h with h; exact absurd h.symm (hn _ _ _)
        · intro h; injection h with h; exact absurd h.symm (hn _ _ _)
      · rw [List.getElem?_set_ne (fun h => e0 h.symm)]
    · rw [h3, PV.kills_false]
      simp only [ho, h4, cond_true, h5, chk]
  | full k0 xs =>
    simp only [] at h2
    cases h4 : k0 == k + 1 with
    | false => rw [h4] at h2; cases h2
    | true =>
    rw [h4] at h2
    simp only [cond_true] at h2
    cases h5 : decide ((xs.length + ys.length) * (b + 1) ≤ big) with
    | false => rw [h5] at h2; cases h2
    | true =>
    rw [h5] at h2
    simp only [chk, cond_true] at h2
    refine ⟨.t (.sl (k + 1) (xs ++ ys)), H, fun _ => false, AppTurn.same (Nat.le_refl _) (fun l hl o _ => Iff.rfl), by rw [PV.kills_false]; exact h2, fun γ tm' K' => ?_⟩
    rw [h3, PV.kills_false]
    simp only [h4, h5, chk, cond_true]
  | _ => cases h2
theorem app_op {o : Oper} (hq : appO o = true) {K : PV → St → Res β} {z : β} (h : opK E rc true o ⟨tm, H⟩ K = .ok z) :
    ∃ q H1 f, AppTurn f H H1 ∧ K q ⟨PV.kills f tm, H1⟩ = .ok z ∧ ∀ (γ : Type) (tm' : List PV) (K' : PV → St → Res γ), (∀ t ∈ o.looksAt ops, tm'[t]? = tm[t]?) → opK E rc true o ⟨tm', H⟩ K' = K' q ⟨PV.kills f tm', H1⟩ := by
  obtain ⟨dst, op, type, pos, after, guard⟩ := o
  unfold appO at hq
  simp only [Bool.and_eq_true] at hq
  obtain ⟨hg, hq⟩ := hq
  cases op <;> try cases hq
  rename_i c
  obtain ⟨callee, args, tys⟩ := c
  simp only [] at hq
  split at hq
  · simp only [opK] at h ⊢
    cases ha : evalOs E.P tm (fun i => tys.getD i 0) 0 args.toList with
    | none => simp only [ha, someK] at h; cases h
    | some as' =>
      simp only [ha, someK] at h
      obtain ⟨t, t', p, x, e1, e2⟩ : ∃ t t' p x, tys.toList = [t, t'] ∧ as' = [p, x] := by
        unfold builtinK at h
        split at h <;> first | cases h | (rename_i hb _ _; cases hb; exact ⟨_, _, _, _, by assumption, rfl⟩) | skip
        all_goals first | (simp_all; done) | exact absurd ‹_› (by simp)
      rw [e1, e2] at h
      obtain ⟨q, H1, f, a1, a2, a3⟩ := append_make (show appendK E ⟨tm, H⟩ t t' p x K = .ok z from h)
      refine ⟨q, H1, f, a1, a2, fun γ tm' K' hs => ?_⟩
      have : evalOs E.P tm' (fun i => tys.getD i 0) 0 args.toList = some [p, x] := by
        rw [evalOs_same (tm' := tm') (tm := tm) (fun y hy u hu => hs u (mem_looksAt (hu ▸ by simpa [Op.operands, Call.operands] using hy))), ha, e2]
      simp only [this, someK, e1]
      exact a3 γ tm' K'
  · cases hq

/-! ### looks with care -/
theorem obj_turn (ht : AppTurn f H H1) {l : Nat} (hc : objC N0 H l = true) : f l = false ∧ ∃ o, H[l]? = some o ∧ H1[l]? = some (o.kill f) ∧ o.notRow ∧ objC N0 H1 l = true := by
  unfold objC at hc ⊢
  rw [Bool.and_eq_true] at hc
  obtain ⟨h1, h2⟩ := hc
  cases ho : H[l]? with
  | none => rw [ho] at h2; cases h2
  | some o =>
    rw [ho] at h2
    have hn : o.notRow := fun e k xs h => by subst h; cases h2
    obtain ⟨g1, g2⟩ := ht.fwd l o ho hn
    refine ⟨g1, o, rfl, g2, hn, ?_⟩
    rw [g2, h1]
    cases o <;> first | rfl | cases h2
theorem obj_back (ht : AppTurn f H H1) (hN : N0 ≤ H.length) {l : Nat} (hc : objC N0 H1 l = true) : objC N0 H l = true := by
  unfold objC at hc ⊢
  rw [Bool.and_eq_true] at hc
  obtain ⟨h1, h2⟩ := hc
  have hlt : l < N0 := by simpa using h1
  cases ho : H1[l]? with
  | none => rw [ho] at h2; cases h2
  | some o =>
    rw [ho] at h2
    have hn : o.notRow := fun e k xs h => by subst h; cases h2
    obtain ⟨o', g1, g2⟩ := ht.bwd l o (by omega) ho hn
    have g3 := (ht.fwd l o' g1 g2).2
    rw [ho] at g3
    injection g3 with g3
    rw [g1, h1]
    subst g3
    cases o' <;> first | rfl | cases h2
theorem care_turn (ht : AppTurn f H H1) {v : PV} (hc : careV N0 H v = true) : v.kill f = v ∧ careV N0 H1 v = true := by
  cases v with
  | t x => exact ⟨rfl, rfl⟩
  | rp k x o => exact ⟨rfl, rfl⟩
  | ptr l o => obtain ⟨_, _, _, _, _, h⟩ := obj_turn ht hc; exact ⟨rfl, h⟩
  | own l => obtain ⟨g, _, _, _, _, h⟩ := obj_turn ht hc; exact ⟨by simp only [PV.kill, g, cond_false], h⟩
  | eptr l k i o => obtain ⟨g, _, _, _, _, h⟩ := obj_turn ht hc; exact ⟨by simp only [PV.kill, g, cond_false], h⟩
  | _ => cases hc
theorem care_back (ht : AppTurn f H H1) (hN : N0 ≤ H.length) {v : PV} (hc : careV N0 H1 (v.kill f) = true) : careV N0 H v = true := by
  cases v with
  | t x => rfl
  | rp k x o => rfl
  | ptr l o => exact obj_back ht hN hc
  | own l =>
    simp only [PV.kill] at hc
    cases hf : f l with
    | true => rw [hf] at hc; cases hc
    | false => rw [hf] at hc; exact obj_back ht hN hc
  | eptr l k i o =>
    simp only [PV.kill] at hc
    cases hf : f l with
    | true => rw [hf] at hc; cases hc
    | false => rw [hf] at hc; exact obj_back ht hN hc
  | view l k lo hi =>
    simp only [PV.kill] at hc
    cases hf : f l <;> rw [hf] at hc <;> cases hc
  | _ => cases hc
theorem allT_kills : ∀ cs : List PV, allT (PV.kills f cs) = allT cs
  | [] => rfl
  | q :: r => by
    cases q with
    | t x => simp only [PV.kills, PV.kill, allT]; rw [allT_kills r]
    | own l => simp only [PV.kills, PV.kill]; cases f l <;> rfl
    | eptr l k i o => simp only [PV.kills, PV.kill]; cases f l <;> rfl
    | view l k lo hi => simp only [PV.kills, PV.kill]; cases f l <;> rfl
    | _ => rfl
theorem mkAgg_kill (cs : List PV) : (mkAgg cs).kill f = mkAgg (PV.kills f cs) := by
  unfold mkAgg
  rw [allT_kills]
  cases h : allT cs with
  | none => rfl
  | some ts => rfl
theorem kills_drop (n : Nat) (cs : List PV) : PV.kills f (cs.drop n) = (PV.kills f cs).drop n := by
  apply List.ext_getElem?; intro i; rw [kills_get, List.getElem?_drop, List.getElem?_drop, kills_get]
theorem kills_take (n : Nat) (cs : List PV) : PV.kills f (cs.take n) = (PV.kills f cs).take n := by
  apply List.ext_getElem?; intro i; rw [kills_get, List.getElem?_take, List.getElem?_take]; split
  · rw [kills_get]
  · rfl
theorem kills_getD (n : Nat) (cs : List PV) : (PV.kills f cs).getD n .junk = (cs.getD n .junk).kill f := by
  rw [List.getD_eq_getElem?_getD, List.getD_eq_getElem?_getD, kills_get]
  cases cs[n]? <;> rfl
theorem part_kill (v : PV) (o s : Nat) (a : Bool) : (v.part o s a).kill f = (v.kill f).part o s a := by
  cases v with
  | agg cs =>
    simp only [PV.part, PV.kill]
    cases a with
    | true => simp only [cond_true]; rw [mkAgg_kill, kills_take, kills_drop]
    | false => simp only [cond_false]; rw [kills_getD]
  | own l => simp only [PV.part, PV.kill]; cases f l <;> rfl
  | eptr l k i o => simp only [PV.part, PV.kill]; cases f l <;> rfl
  | view l k lo hi => simp only [PV.part, PV.kill]; cases f l <;> rfl
  | _ => rfl
theorem load_turn (ht : AppTurn f H H1) {t : TypeId} {v : PV} (hc : careV N0 H v = true) (K : PV → Res β) : loadK E ⟨tm1, H1⟩ t v K = loadK E ⟨tm, H⟩ t v fun p => K (p.kill f) := by
  unfold loadK
  cases szP E.P t with
  | none => rfl
  | some s =>
  cases aggP E.P t with
  | none => rfl
  | some a =>
  simp only []
  congr 1
  cases v with
  | t x => rfl
  | rp k x o => rfl
  | ptr l o =>
    obtain ⟨_, ob, g1, g2, g3, _⟩ := obj_turn ht hc
    simp only [g1, g2]
    cases ob with
    | box e n v => simp only [AObj.kill, part_kill]
    | fbox e n v => rfl
    | _ => rfl
  | eptr l k i o =>
    obtain ⟨_, ob, g1, g2, g3, _⟩ := obj_turn ht hc
    simp only [g1, g2]
    cases ob with
    | row e k xs => exact absurd rfl (g3 e k xs)
    | frow e k xs => rfl
    | vec e k' n xs =>
      simp only [AObj.kill]
      congr 1
      cases a with
      | true => simp only [cond_true, mkAgg_kill, kills_take, kills_drop]
      | false => simp only [cond_false, kills_getD]
    | _ => rfl
  | _ => rfl
theorem index_turn (ht : AppTurn f H H1) {t : TypeId} {v ix : PV} (hc : careV N0 H v = true) (K : PV → Res β) : indexK E ⟨tm1, H1⟩ t v ix K = indexK E ⟨tm, H⟩ t v ix fun p => K (p.kill f) := by
  unfold indexK
  cases elP E.P t with
  | none => rfl
  | some e =>
  simp only []
  cases szP E.P e with
  | none => rfl
  | some k =>
  simp only []
  cases ix with
  | t iv =>
    simp only []
    congr 1
    funext i
    cases v with
    | own l =>
      obtain ⟨g0, ob, g1, g2, g3, _⟩ := obj_turn ht hc
      simp only [g1, g2]
      cases ob with
      | row e k xs => exact absurd rfl (g3 e k xs)
      | frow e k xs => simp only [AObj.kill, PV.kill, g0, cond_false]
      | vec e k' n xs => simp only [AObj.kill, PV.kill, g0, cond_false]
      | _ => rfl
    | view l k0 lo hi => cases hc
    | _ => rfl
  | _ => rfl
theorem fieldAddr_turn (ht : AppTurn f H H1) {t : TypeId} {n : Nat} {v : PV} (hc : careV N0 H v = true) (K : PV → Res β) : fieldAddrK E t n v K = fieldAddrK E t n v fun p => K (p.kill f) := by
  unfold fieldAddrK
  cases fieldP E.P t n with
  | none => rfl
  | some ot =>
  obtain ⟨off, ft⟩ := ot
  simp only []
  split
  · cases v with
    | ptr l o => rfl
    | eptr l k i o => obtain ⟨g, _⟩ := obj_turn ht hc; simp only [PV.kill, g, cond_false]
    | rp k x o => rfl
    | t x => rfl
    | _ => rfl
  · rfl
/-- A plain look, ahead of an append and behind it. -/
theorem plain_turn (ht : AppTurn f H H1) {x : Oper} (hx : plainO x = true) (hc : careO N0 tm H x = true) (hs : ∀ t ∈ x.looksAt ops, tm1[t]? = (tm[t]?).map (PV.kill f)) (K : PV → St → Res β) :
    opK E rc true x ⟨tm1, H1⟩ K = opK E rc true x ⟨tm, H⟩ fun p _ => K (p.kill f) ⟨tm1, H1⟩ := by
  have ev : ∀ (ty : TypeId) (t : Nat), Operand.tmp t ∈ x.op.operands → evalO E.P tm1 ty (.tmp t) = some (tm.getD t undefV) ∧ evalO E.P tm ty (.tmp t) = some (tm.getD t undefV) ∧ (careV N0 H (tm.getD t undefV) = true ∨ tm.getD t undefV = undefV) := fun ty t hm => by
    have h1 := hs t (mem_looksAt hm)
    have h2 := List.all_eq_true.1 hc (.tmp t) (by simpa using hm)
    simp only [] at h2
    simp only [evalO, List.getD_eq_getElem?_getD, h1] at h2 ⊢
    cases hq : tm[t]? with
    | none => exact ⟨rfl, trivial, .inr rfl⟩
    | some q =>
      rw [hq] at h2
      simp only [Option.map_some, Option.getD_some] at h2 ⊢
      exact ⟨by rw [(care_turn ht h2).1], trivial, .inl h2⟩
  have ev2 : ∀ (ty : TypeId) (y : Operand), y ∈ x.op.operands → evalO E.P tm1 ty y = evalO E.P tm ty y := fun ty y hy => by
    cases y with
    | tmp t => obtain ⟨a, b, _⟩ := ev ty t hy; rw [a, b]
    | _ => rfl
  obtain ⟨dst, op, type, pos, after, guard⟩ := x
  unfold plainO at hx
  simp only [Bool.and_eq_true] at hx
  obtain ⟨hg, hx⟩ := hx
  cases op <;> try cases hx
  case move y =>
    cases y <;> try cases hx
    rename_i t
    obtain ⟨a, b, c⟩ := ev type t (by simp [Op.operands])
    simp only [opK, a, b, someK]
    rcases c with c | c
    · rw [(care_turn ht c).1]
    · rw [c]; rfl
  case load ty y =>
    cases y <;> try cases hx
    rename_i t
    obtain ⟨a, b, c⟩ := ev 0 t (by simp [Op.operands])
    simp only [opK, a, b, someK]
    rcases c with c | c
    · exact load_turn ht c _
    · rw [c]
      unfold loadK
      cases szP E.P ty with
      | none => rfl
      | some s =>
        cases aggP E.P ty with
        | none => rfl
        | some a => rfl
  case fieldAddr ty y n =>
    cases y <;> try cases hx
    rename_i t
    obtain ⟨a, b, c⟩ := ev 0 t (by simp [Op.operands])
    simp only [opK, a, b, someK]
    rcases c with c | c
    · exact fieldAddr_turn ht c _
    · rw [c]
      unfold fieldAddrK
      cases fieldP E.P ty n with
      | none => rfl
      | some ot => simp only []; split <;> rfl
  case indexAddr ty y ix =>
    cases y <;> try cases hx
    rename_i t
    obtain ⟨a, b, c⟩ := ev ty t (by simp [Op.operands])
    have e2 := ev2 0 ix (by simp [Op.operands])
    simp only [opK, a, b, e2, someK]
    cases evalO E.P tm 0 ix with
    | none => rfl
    | some iv =>
    simp only []
    rcases c with c | c
    · exact index_turn ht c _
    · rw [c]
      unfold indexK
      cases elP E.P ty with
      | none => rfl
      | some e =>
        simp only []
        cases szP E.P e with
        | none => rfl
        | some k =>
          simp only []
          cases iv with
          | t iv => rfl
          | _ => rfl

/-! ### runs with care -/
def opsA (E : Env) (rc : Caller) (ops : Array Oper) (N0 : Nat) : List (Oper × Bool) → St → (St → Res β) → Res β
  | [], st, K => K st
  | x :: r, st, K => chk ((!quietOp x.1.op || careO N0 st.tmps st.heap x.1) && decide (N0 ≤ st.heap.length)) (opsK E rc ops [x] st fun st1 => opsA E rc ops N0 r st1 K)
def runsA (E : Env) (rc : Caller) (ops : Array Oper) (N0 : Nat) : List (Oper × Bool) → St → St → Prop
  | [], st, st' => st = st'
  | x :: r, st, st' => ∃ st1, runs E rc ops [x] st st1 ∧ (quietOp x.1.op = true → careO N0 st.tmps st.heap x.1 = true) ∧ N0 ≤ st.heap.length ∧ runsA E rc ops N0 r st1 st'
theorem opsA_runs (hrc : rc.Nat) : ∀ {l : List (Oper × Bool)} {st st' : St}, opsA E rc ops N0 l st (fun s => (.ok s : Res St)) = .ok st' → runsA E rc ops N0 l st st'
  | [], st, st', h => by
    simp only [opsA, Res.ok.injEq] at h
    exact h
  | x :: r, st, st', h => by
    simp only [opsA] at h
    obtain ⟨h1, h2⟩ := chk_inv (by rw [h]; simp)
    rw [h2] at h
    obtain ⟨st1, h3, h4⟩ := opsK_ok hrc h
    simp only [Bool.and_eq_true, Bool.or_eq_true, Bool.not_eq_true', decide_eq_true_eq] at h1
    exact ⟨st1, h3, fun hq => h1.1.resolve_left (by rw [hq]; simp), h1.2, opsA_runs hrc h4⟩
theorem setT_kills (d : Option Tmp) (p : PV) : PV.kills f (setT tm d p) = setT (PV.kills f tm) d (p.kill f) := by
  cases d with
  | none => rfl
  | some d =>
    apply List.ext_getElem?
    intro i
    simp only [setT]
    rw [kills_get, List.getElem?_set, List.getElem?_set, kills_get, kills_length]
    split
    · split <;> rfl
    · rfl
theorem care_same {o : Oper} (h : ∀ t ∈ o.looksAt ops, tm'[t]? = tm[t]?) : careO N0 tm' H o = careO N0 tm H o := by
  unfold careO
  rw [Bool.eq_iff_iff, List.all_eq_true, List.all_eq_true]
  have e : ∀ x ∈ o.op.operands.toList, (match x with | .tmp t => careV N0 H (tm'.getD t .junk) | _ => true) = (match x with | .tmp t => careV N0 H (tm.getD t .junk) | _ => true) := fun x hx => by
    cases x with
    | tmp t => simp only [List.getD_eq_getElem?_getD, h t (mem_looksAt (by simpa using hx))]
    | _ => rfl
  constructor
  · intro h x hx; rw [← e x hx]; exact h x hx
  · intro h x hx; rw [e x hx]; exact h x hx
theorem app_step {o : Oper} (hq : appO o = true) {st1 : St} (h : opsK E rc ops [(o, true)] ⟨tm, H⟩ (fun s => (.ok s : Res St)) = .ok st1) :
    ∃ q H1 f, AppTurn f H H1 ∧ st1 = ⟨setT (PV.kills f tm) o.dst q, H1⟩ ∧ ∀ tm', (∀ t ∈ o.looksAt ops, tm'[t]? = tm[t]?) → opsK E rc ops [(o, true)] ⟨tm', H⟩ (fun s => (.ok s : Res St)) = .ok ⟨setT (PV.kills f tm') o.dst q, H1⟩ := by
  have hg : ∀ tm : List PV, guardOf ops tm o = some true := fun tm => by
    unfold appO at hq
    simp only [Bool.and_eq_true, Option.isNone_iff_eq_none] at hq
    unfold guardOf; rw [hq.1]
  rw [opsK_one, hg] at h
  obtain ⟨q, H1, f, a1, a2, a3⟩ := app_op (ops := ops) hq h
  simp only [opsK, Res.ok.injEq] at a2
  refine ⟨q, H1, f, a1, a2.symm, fun tm' hs => ?_⟩
  rw [opsK_one, hg]
  simp only [a3 _ tm' _ hs, opsK]
theorem plain_quietO {o : Oper} (h : plainO o = true) : quietOp o.op = true ∧ ∀ tm : List PV, guardOf ops tm o = some true := by
  unfold plainO at h
  simp only [Bool.and_eq_true, Option.isNone_iff_eq_none] at h
  refine ⟨?_, fun tm => by unfold guardOf; rw [h.1]⟩
  have := h.2
  cases ho : o.op <;> rw [ho] at this <;> first | rfl | cases this
theorem app_noquiet {o : Oper} (h : appO o = true) : quietOp o.op = false := by
  unfold appO at h
  simp only [Bool.and_eq_true] at h
  have := h.2
  cases ho : o.op <;> rw [ho] at this <;> try cases this
  rename_i c
  obtain ⟨callee, args, tys⟩ := c
  simp only [] at this
  split at this
  · rfl
  · cases this
/-- A plain look's step behind an append, by the step ahead of it, and the other way round. -/
theorem plain_step_turn (hrc : rc.Nat) (ht : AppTurn f H H1) {x : Oper} (hx : plainO x = true) (hc : careO N0 tm H x = true) (hs : ∀ t ∈ x.looksAt ops, tm1[t]? = (tm[t]?).map (PV.kill f)) :
    (∀ p, opsK E rc ops [(x, true)] ⟨tm, H⟩ (fun s => (.ok s : Res St)) = .ok ⟨setT tm x.dst p, H⟩ → opK E rc true x ⟨tm, H⟩ (fun p _ => (.ok p : Res PV)) = .ok p → opsK E rc ops [(x, true)] ⟨tm1, H1⟩ (fun s => (.ok s : Res St)) = .ok ⟨setT tm1 x.dst (p.kill f), H1⟩) ∧
    (∀ st1, opsK E rc ops [(x, true)] ⟨tm1, H1⟩ (fun s => (.ok s : Res St)) = .ok st1 → ∃ p, st1 = ⟨setT tm1 x.dst (p.kill f), H1⟩ ∧ opsK E rc ops [(x, true)] ⟨tm, H⟩ (fun s => (.ok s : Res St)) = .ok ⟨setT tm x.dst p, H⟩) := by
  obtain ⟨hq, hg⟩ := plain_quietO (ops := ops) hx
  have e1 : ∀ {γ : Type} (K : PV → St → Res γ), opK E rc true x ⟨tm, H⟩ K = (opK E rc true x ⟨tm, H⟩ fun p _ => (.ok p : Res PV)).bind fun p => K p ⟨tm, H⟩ := fun K => quiet_opK hrc hq (tm := tm) (fun _ _ _ _ => rfl) K
  refine ⟨fun p _ hp => ?_, fun st1 h => ?_⟩
  · rw [opsK_one, hg]
    simp only [plain_turn ht hx hc hs]
    rw [e1, hp]; rfl
  · rw [opsK_one, hg] at h
    simp only [plain_turn ht hx hc hs] at h
    rw [e1] at h
    obtain ⟨p, h1, h2⟩ := bind_ok_inv h
    simp only [opsK, Res.ok.injEq] at h2
    refine ⟨p, h2.symm, ?_⟩
    rw [opsK_one, hg]
    simp only []
    rw [e1, h1]; rfl
theorem commuteA (hrc : rc.Nat) {x y : Oper} (hxy : pairA x y = true) (hap : x.apart ops y = true) {st st1 st2 : St} (hN : N0 ≤ st.heap.length) (h1 : runs E rc ops [(x, true)] st st1) (c1 : quietOp x.op = true → careO N0 st.tmps st.heap x = true)
    (h2 : runs E rc ops [(y, true)] st1 st2) (c2 : quietOp y.op = true → careO N0 st1.tmps st1.heap y = true) :
    ∃ st1', runs E rc ops [(y, true)] st st1' ∧ (quietOp y.op = true → careO N0 st.tmps st.heap y = true) ∧ runs E rc ops [(x, true)] st1' st2 ∧ (quietOp x.op = true → careO N0 st1'.tmps st1'.heap x = true) ∧ N0 ≤ st1'.heap.length := by
  obtain ⟨tm, H⟩ := st
  obtain ⟨a1, a2, a3⟩ := Oper.apart_spec hap
  unfold runs at h1 h2 ⊢
  have gy : ∀ (tm : List PV) p, ∀ t ∈ y.looksAt ops, tm[t]? = (setT tm x.dst p)[t]? := fun tm p t ht => (setT_get fun e he => by rintro rfl; exact a1 e he ht).symm
  have gx : ∀ (tm : List PV) q, ∀ t ∈ x.looksAt ops, (setT tm y.dst q)[t]? = tm[t]? := fun tm q t ht => setT_get fun e he => by rintro rfl; exact a3 e he ht
  unfold pairA at hxy
  rw [Bool.or_eq_true, Bool.or_eq_true, Bool.and_eq_true, Bool.and_eq_true, Bool.and_eq_true] at hxy
  rcases hxy with (⟨hx, hy⟩ | ⟨hy, hx⟩) | ⟨hx, hy⟩
  · obtain ⟨p, rfl, hp⟩ := quiet_step hrc hx h1
    obtain ⟨q, rfl, hq⟩ := quiet_step hrc hy h2
    refine ⟨_, hq tm (gy tm p), fun h => ?_, ?_, fun h => ?_, hN⟩
    · have := c2 h
      simp only [] at this
      rwa [care_same (fun t ht => (gy tm p t ht).symm)] at this
    · rw [hp _ (gx tm q), setT_comm a2]
    · have := c1 h
      simp only [] at this ⊢
      rwa [care_same (gx tm q)]
  · -- a look, then an append
    have hqx := (plain_quietO (ops := ops) hx).1
    have hcx := c1 hqx
    obtain ⟨p, rfl, hp⟩ := quiet_step hrc hqx h1
    obtain ⟨q, H1, f, t1, t2, t3⟩ := app_step hy h2
    subst t2
    have hs : ∀ t ∈ x.looksAt ops, (setT (PV.kills f tm) y.dst q)[t]? = (tm[t]?).map (PV.kill f) := fun t ht => by rw [gx _ q t ht, kills_get]
    obtain ⟨s1, _⟩ := plain_step_turn (E := E) hrc t1 hx hcx hs
    have e1 : opK E rc true x ⟨tm, H⟩ (fun p _ => (.ok p : Res PV)) = .ok p ∨ True := .inr trivial
    have hpp : ∃ p', opK E rc true x ⟨tm, H⟩ (fun p _ => (.ok p : Res PV)) = .ok p' ∧ setT tm x.dst p' = setT tm x.dst p := by
      rw [opsK_one, (plain_quietO (ops := ops) hx).2] at h1
      simp only [] at h1
      rw [quiet_opK hrc hqx (tm := tm) (fun _ _ _ _ => rfl)] at h1
      obtain ⟨p', g1, g2⟩ := bind_ok_inv h1
      simp only [opsK, Res.ok.injEq, St.mk.injEq, and_true] at g2
      exact ⟨p', g1, g2⟩
    obtain ⟨p', g1, g2⟩ := hpp
    refine ⟨_, t3 tm (gy tm p), fun h => absurd h (by rw [app_noquiet hy]; simp), ?_, fun h => ?_, Nat.le_trans hN t1.len⟩
    · rw [s1 p' (by rw [hp tm fun _ _ => rfl, g2]) g1, ← setT_comm a2, ← setT_kills, g2]
    · simp only []
      unfold careO
      rw [List.all_eq_true]
      intro z hz
      cases z with
      | tmp t =>
        simp only []
        have h2 := List.all_eq_true.1 hcx (.tmp t) hz
        simp only [List.getD_eq_getElem?_getD] at h2 ⊢
        rw [hs t (mem_looksAt (by simpa using hz))]
        cases hq : tm[t]? with
        | none => rw [hq] at h2; cases h2
        | some v =>
          rw [hq] at h2
          simp only [Option.map_some, Option.getD_some] at h2 ⊢
          obtain ⟨b1, b2⟩ := care_turn t1 h2
          rw [b1]; exact b2
      | _ => rfl
  · -- an append, then a look
    have hqy := (plain_quietO (ops := ops) hy).1
    obtain ⟨q, H1, f, t1, t2, t3⟩ := app_step hx h1
    subst t2
    have hs : ∀ t ∈ y.looksAt ops, (setT (PV.kills f tm) x.dst q)[t]? = (tm[t]?).map (PV.kill f) := fun t ht => by rw [← gy _ q t ht, kills_get]
    have hcy : careO N0 tm H y = true := by
      have := c2 hqy
      unfold careO at this ⊢
      rw [List.all_eq_true] at this ⊢
      intro z hz
      have h2 := this z hz
      cases z with
      | tmp t =>
        simp only [List.getD_eq_getElem?_getD] at h2 ⊢
        rw [hs t (mem_looksAt (by simpa using hz))] at h2
        cases hq : tm[t]? with
        | none => rw [hq] at h2; cases h2
        | some v =>
          rw [hq] at h2
          exact care_back t1 hN h2
      | _ => rfl
    obtain ⟨_, s2⟩ := plain_step_turn (E := E) hrc t1 hy hcy hs
    obtain ⟨p, rfl, hp⟩ := s2 _ h2
    refine ⟨_, hp, fun _ => hcy, ?_, fun h => absurd h (by rw [app_noquiet hx]; simp), hN⟩
    rw [t3 (setT tm y.dst p) (gx tm p), setT_kills, setT_comm fun t ht => by
      intro e; exact a2 t e ht]
theorem runsA_first (hrc : rc.Nat) {y : Oper × Bool} {l2 : List (Oper × Bool)} : ∀ {l1 : List (Oper × Bool)} {st st' : St}, (∀ x ∈ l1, x.2 = true ∧ y.2 = true ∧ pairA x.1 y.1 = true ∧ x.1.apart ops y.1 = true) →
    runsA E rc ops N0 (l1 ++ y :: l2) st st' → ∃ st1, runs E rc ops [y] st st1 ∧ (quietOp y.1.op = true → careO N0 st.tmps st.heap y.1 = true) ∧ runsA E rc ops N0 (l1 ++ l2) st1 st'
  | [], st, st', _, h => by
    obtain ⟨s1, h1, h2, h3, h4⟩ := h
    exact ⟨s1, h1, h2, h4⟩
  | x :: l1, st, st', hx, h => by
    obtain ⟨s1, h1, h2, h3, h4⟩ := h
    obtain ⟨s2, g1, g2, g3⟩ := runsA_first hrc (fun z hz => hx z (List.mem_cons_of_mem _ hz)) h4
    obtain ⟨b1, b2, b3, b4⟩ := hx x List.mem_cons_self
    obtain ⟨x, bx⟩ := x
    obtain ⟨y, bY⟩ := y
    simp only at b1 b2 b3 b4
    subst b1
    subst b2
    obtain ⟨s1', c1, c2, c3, c4, c5⟩ := commuteA hrc b3 b4 h3 h1 h2 g1 g2
    exact ⟨s1', c1, c2, s2, c3, c4, c5, g3⟩
def drawOkA (ops : Array Oper) : Bool :=
  let b := Region.before ops
  let l := ops.toList.zipIdx
  (l.all fun (o, i) => o.after.all fun e => !Region.binds .any e || decide (e.on < i)) && l.all fun (y, j) => l.all fun (x, i) => !decide (i < j) || (b.getD j 0).testBit i || (!(b.getD i 0).testBit j && pairA x y && x.apart ops y)
theorem drawOkA_pair (hd : drawOkA ops = true) {i j : Nat} (hi : i < ops.size) (hj : j < ops.size) (hij : i < j) (hb : ((Region.before ops).getD j 0).testBit i = false) :
    (flagged ops i).2 = true ∧ (flagged ops j).2 = true ∧ pairA (flagged ops i).1 (flagged ops j).1 = true ∧ (flagged ops i).1.apart ops (flagged ops j).1 = true := by
  unfold drawOkA at hd
  simp only [Bool.and_eq_true, List.all_eq_true] at hd
  have hm : ∀ i, i < ops.size → (ops.getD i default, i) ∈ ops.toList.zipIdx := fun i hi => by
    rw [List.mem_zipIdx_iff_getElem?]
    simp [Array.getD_eq_getD_getElem?, hi]
  have := hd.2 _ (hm j hj) _ (hm i hi)
  simp only [hij, decide_true, Bool.not_true, Bool.false_or, hb] at this
  rw [Bool.and_eq_true, Bool.and_eq_true, Bool.not_eq_true'] at this
  obtain ⟨⟨h1, h2⟩, h4⟩ := this
  have hbs : ∀ x y, y < ops.size → x ≠ y → ordered (Region.before ops) x y = false → beside (Region.before ops) ops.size x = true := by
    intro x y hy hne ho
    unfold beside
    rw [List.any_eq_true]
    exact ⟨y, List.mem_range.2 hy, by simp [hne, ho]⟩
  exact ⟨hbs i j hj (by omega) (by unfold ordered; rw [h1, hb]; rfl), hbs j i hi (by omega) (by unfold ordered; rw [h1, hb]; rfl), h2, h4⟩
theorem any_soundA {Nc : Nat} (hc : CallerOk E rc) (hd : drawOkA ops = true) {Q : Exit → Act → World → Prop} {st0 stf : St} {F0 : Nat → Prop} {κ0 : Nat → Value} {w0 : World}
    (hq : ∀ F' κ' a' w', Rel F' κ' stf a' w' → EvD N0 F0 κ0 w0 st0.heap F' κ' w' stf.heap → Q .normal a' w') : ∀ (fuel : Nat) (listed : Array Bool) (u : List Nat) (st : St) (F : Nat → Prop) (κ : Nat → Value) (a : Act) (w : World),
    listed.size = ops.size → u.Pairwise (· < ·) → (∀ i, i ∈ u ↔ i < ops.size ∧ listed.getD i true = false) → u.length ≤ fuel → Closed ops listed → runsA E rc ops Nc (u.map (flagged ops)) st stf → Rel F κ st a w → EvD N0 F0 κ0 w0 st0.heap F κ w st.heap →
    wpAny E.P .any ops Q fuel listed a w := by
  have done : ∀ (st : St) (F : Nat → Prop) (κ : Nat → Value) (a : Act) (w : World), runsA E rc ops Nc [] st stf → Rel F κ st a w → EvD N0 F0 κ0 w0 st0.heap F κ w st.heap → Q .normal a w := by
    intro st F κ a w hr rel ev
    have hr : st = stf := hr
    subst hr
    exact hq F κ a w rel ev
  have hready : ∀ (listed : Array Bool) (i : Nat), i ∈ Region.ready .any ops listed ↔ i < ops.size ∧ listed.getD i true = false ∧ ∀ o, ops[i]? = some o → ∀ e ∈ o.after.toList, Region.binds .any e = true → listed.getD e.on false = true := by
    intro listed i
    simp only [Region.ready, List.mem_filter, List.mem_range, Bool.and_eq_true, Bool.not_eq_true']
    constructor
    · rintro ⟨h1, h2, h3⟩
      refine ⟨h1, h2, fun o ho e he hb => ?_⟩
      rw [ho] at h3
      simp only [Option.map_some, Option.getD_some, Array.all_eq_true_iff_forall_mem] at h3
      have := h3 e (by simpa using he)
      simpa [hb] using this
    · rintro ⟨h1, h2, h3⟩
      refine ⟨h1, h2, ?_⟩
      rw [Array.getElem?_eq_getElem h1]
      simp only [Option.map_some, Option.getD_some, Array.all_eq_true_iff_forall_mem]
      intro e he
      cases hb : Region.binds .any e with
      | false => rfl
      | true => simpa using h3 _ (Array.getElem?_eq_getElem h1) e (by simpa using he) hb
  -- while something is left, something is ready
  have hmin : ∀ (listed : Array Bool) (u : List Nat), listed.size = ops.size → u.Pairwise (· < ·) → (∀ i, i ∈ u ↔ i < ops.size ∧ listed.getD i true = false) → Region.ready .any ops listed = [] → u = [] := by
    intro listed u hsz hp hu hr
    cases u with
    | nil => rfl
    | cons i u =>
      exfalso
      have hi := (hu i).1 List.mem_cons_self
      have : i ∈ Region.ready .any ops listed := by
        rw [hready]
        refine ⟨hi.1, hi.2, fun o ho e he hb => ?_⟩
        have hlt : e.on < i := by
          unfold drawOkA at hd
          simp only [Bool.and_eq_true, List.all_eq_true] at hd
          have := hd.1 (o, i) (by rw [List.mem_zipIdx_iff_getElem?]; simpa using ho)
          simp only [Array.all_eq_true_iff_forall_mem] at this
          have := this e (by simpa using he)
          simpa [hb] using this
        have hs : e.on < listed.size := by omega
        cases hl : listed.getD e.on false with
        | true => rfl
        | false =>
          have hmem : e.on ∈ i :: u := (hu e.on).2 ⟨by omega, by
            rw [Array.getD_eq_getD_getElem?, Array.getElem?_eq_getElem hs] at hl ⊢; exact hl⟩
          rcases List.mem_cons.1 hmem with h1 | h1
          · omega
          · have := (List.pairwise_cons.1 hp).1 e.on h1; omega
      rw [hr] at this
      cases this
  intro fuel
  induction fuel with
  | zero =>
    intro listed u st F κ a w hsz hp hu hl hcl hr rel ev
    have : u = [] := List.eq_nil_of_length_eq_zero (by omega)
    subst this
    refine ⟨?_, done st F κ a w hr rel ev⟩
    cases hrd : Region.ready .any ops listed with
    | nil => rfl
    | cons i l =>
      have h1 : i ∈ Region.ready .any ops listed := by rw [hrd]; exact List.mem_cons_self
      rw [hready] at h1
      exact absurd ((hu i).2 ⟨h1.1, h1.2.1⟩) (by simp)
  | succ fuel ih =>
    intro listed u st F κ a w hsz hp hu hl hcl hr rel ev
    refine ⟨fun hrd => ?_, fun i hi => ?_⟩
    · have := hmin listed u hsz hp hu hrd
      subst this
      exact done st F κ a w hr rel ev
    · rw [hready] at hi
      obtain ⟨hi1, hi2, hi3⟩ := hi
      obtain ⟨u1, u2, rfl⟩ := List.append_of_mem ((hu i).2 ⟨hi1, hi2⟩)
      have hp' := List.pairwise_append.1 hp
      have hp2 := List.pairwise_cons.1 hp'.2.1
      have hlt1 : ∀ x ∈ u1, x < i := fun x hx => hp'.2.2 x hx i List.mem_cons_self
      rw [List.map_append, List.map_cons] at hr
      obtain ⟨st1, r1, _, r2⟩ := runsA_first hc.nat (fun x hx => by
        obtain ⟨j, hj, rfl⟩ := List.mem_map.1 hx
        have hju := (hu j).1 (List.mem_append_left _ hj)
        refine drawOkA_pair hd hju.1 hi1 (hlt1 j hj) ?_
        cases hb : ((Region.before ops).getD i 0).testBit j with
        | false => rfl
        | true =>
          have := before_listed hcl (i + 1) i (Nat.lt_succ_self _) hi1 j hi3 hb
          have hs : j < listed.size := by omega
          have h2 := hju.2
          rw [Array.getD_eq_getD_getElem?, Array.getElem?_eq_getElem hs] at this h2
          simp only [Option.getD_some] at this h2
          rw [this] at h2
          cases h2) hr
      have hop : ops[i]? = some (ops.getD i default) := by simp [Array.getD_eq_getD_getElem?, hi1]
      have next : ∀ (F' : Nat → Prop) (κ' : Nat → Value) (a' : Act) (w' : World), Rel F' κ' st1 a' w' → EvD N0 F0 κ0 w0 st0.heap F' κ' w' st1.heap → wpAny E.P .any ops Q fuel (listed.setIfInBounds i true) a' w' := by
        intro F' κ' a' w' rel' ev'
        refine ih (listed.setIfInBounds i true) (u1 ++ u2) st1 F' κ' a' w' (by simp [hsz]) ?_ (fun j => ?_) (by simp at hl ⊢; omega) (fun j o ho hj e he hb => ?_) (by rw [List.map_append]; exact r2) rel' ev'
        · exact List.pairwise_append.2 ⟨hp'.1, hp2.2, fun x hx y hy => hp'.2.2 x hx y (List.mem_cons_of_mem _ hy)⟩
        · have := hu j
          simp only [List.mem_append, List.mem_cons] at this ⊢
          by_cases e : j = i
          · subst e
            rw [Array.getD_eq_getD_getElem?, Array.getElem?_setIfInBounds_self_of_lt (by omega)]
            simp only [Option.getD_some]
            constructor
            · rintro (h | h)
              · have := hlt1 j h; omega
              · have := hp2.1 j h; omega
            · rintro ⟨_, h⟩; cases h
          · rw [Array.getD_eq_getD_getElem?, Array.getElem?_setIfInBounds_ne (fun h => e h.symm), ← Array.getD_eq_getD_getElem?, ← this]
            constructor
            · rintro (h | h)
              · exact .inl h
              · exact .inr (.inr h)
            · rintro (h | h | h)
              · exact .inl h
              · exact absurd h e
              · exact .inr h
        · have keep : ∀ m, listed.getD m false = true → (listed.setIfInBounds i true).getD m false = true := fun m hm => by
            by_cases e : m = i
            · subst e; rw [Array.getD_eq_getD_getElem?, Array.getElem?_setIfInBounds_self_of_lt (by omega)]; rfl
            · rw [Array.getD_eq_getD_getElem?, Array.getElem?_setIfInBounds_ne (fun h => e h.symm), ← Array.getD_eq_getD_getElem?]; exact hm
          by_cases e0 : j = i
          · subst e0; exact keep _ (hi3 o ho e he hb)
          · rw [Array.getD_eq_getD_getElem?, Array.getElem?_setIfInBounds_ne (fun h => e0 h.symm), ← Array.getD_eq_getD_getElem?] at hj
            exact keep _ (hcl j o ho hj e he hb)
      unfold wpOp
      rw [hop]
      simp only []
      have r1' : opsK E rc ops [((ops.getD i default), (flagged ops i).2)] st (fun s => (.ok s : Res St)) = .ok st1 := r1
      rw [opsK_one] at r1'
      cases hg : guardOf ops st.tmps (ops.getD i default) with
      | none => rw [hg] at r1'; cases r1'
      | some b =>
        rw [hg] at r1'
        rw [guard_wanted rel hg]
        cases b with
        | true =>
          simp only [if_true] at r1' ⊢
          refine .inl (opK_sound (N0 := N0) (K := fun p st' => opsK E rc ops [] ⟨setT st'.tmps (ops.getD i default).dst p, st'.heap⟩ (fun s => (.ok s : Res St))) hc (by rw [r1']; simp) (by exact ev.hl) rel fun p v st' F' κ' w' e hn hdr => ?_)
          rw [r1'] at e
          simp only [opsK, Res.ok.injEq] at e
          subst e
          exact next F' κ' _ w' (hn.rel rel _) (ev.trans ⟨hn.ev, hdr⟩)
        | false =>
          simp only [Bool.false_eq_true, if_false, opsK, Res.ok.injEq] at r1' ⊢
          subst r1'
          exact next F κ _ w (rel.skip _) ev

/-- A region that draws its order, and appends. -/
theorem draw_sem (hm : E.P.follows .mixedOrders = true) (hc : CallerOk E rc) (hd : drawOkA ops = true) {id Nc : Nat} {st stf : St} {Q : St → Prop} (h : runsA E rc ops Nc (drawFlags ops) st stf) (hQ : Q stf) : RegSem E (.region id ops true) st Q := by
  intro base F κ a w R h0 rel hR
  refine wp_region_any hm ?_
  have hd0 : EvD base F κ w st.heap F κ { w with drawn := w.drawn + 1 } st.heap := ⟨⟨rfl, rfl, rfl, Nat.le_refl _, fun _ _ _ => rfl, fun _ h => h, fun _ h => .inl h, fun _ h => .inl h, h0, fun l o _ h1 h2 => ⟨rfl, o, h1, h2⟩⟩, Nat.le_succ _⟩
  refine any_soundA (N0 := base) (Nc := Nc) (st0 := st) (stf := stf) (F0 := F) (κ0 := κ) (w0 := w) hc hd (fun F' κ' a' w' r ev => hR stf F' κ' a' w' hQ r ev) ops.size _ (List.range ops.size) st F κ a _ (by simp) (by simpa using List.pairwise_lt_range) (fun i => ?_) (by simp) (fun i o _ hi => ?_) (by rw [← drawFlags_eq]; exact h) rel.drew hd0
  · simp only [List.mem_range]
    constructor
    · intro hi; exact ⟨hi, by simp [Array.getD_eq_getD_getElem?, hi]⟩
    · exact fun h => h.1
  · exfalso
    rw [Array.getD_eq_getD_getElem?] at hi
    rcases Nat.lt_or_ge i ops.size with h1 | h1
    · simp [h1] at hi
    · rw [Array.getElem?_eq_none (by simpa using h1)] at hi; cases hi
end
end Go.Sim
