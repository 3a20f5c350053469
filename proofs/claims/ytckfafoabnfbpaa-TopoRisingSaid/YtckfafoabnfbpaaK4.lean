/- The texts of a proof, one behind the other: an interpreter and its soundness, what the functions of the program answer, and plain laws on that. -/
import Derived.Test.YtckfafoabnfbpaaK3
set_option linter.unusedVariables false
set_option linter.unusedSimpArgs false
set_option linter.unnecessarySimpa false
set_option linter.unusedSectionVars false
/- Steps shown of the machine itself: rows of slots that are made; what is told of memory, told otherwise. -/
namespace Go.Sim
open Go.RowKit
set_option linter.unusedVariables false
set_option linter.unusedSimpArgs false
set_option linter.unusedSectionVars false

/-- The same state of the machine, told otherwise. -/
def TurnS (st st' : St) : Prop := ∀ (base : Nat) (F : Nat → Prop) (κ : Nat → Value) (a : Act) (w : World), base ≤ st.heap.length → Rel F κ st a w → ∃ F' κ', Rel F' κ' st' a w ∧ EvD base F κ w st.heap F' κ' w st'.heap
/-- One step, shown of the machine itself. -/
def StepSem (E : Env) (ops : Array Oper) (o : Oper) (st : St) (Q : St → Prop) : Prop := ∀ (base : Nat) (F : Nat → Prop) (κ : Nat → Value) (a : Act) (w : World) (rest : List Oper) (R : Exit → Act → World → Prop), base ≤ st.heap.length → Rel F κ st a w →
  (∀ st' F' κ' a' w', Q st' → Rel F' κ' st' a' w' → EvD base F κ w st.heap F' κ' w' st'.heap → wpList E.P ops R rest a' w') → wpList E.P ops R (o :: rest) a w
section
variable {β : Type} {E : Env} {rc : Caller} {tm : List PV} {H : List AObj} {ops : Array Oper} {st st' st2 : St} {F : Nat → Prop} {κ κ' : Nat → Value} {w : World} {N0 : Nat}

theorem TurnS.refl (st : St) : TurnS st st := fun base F κ a w h0 rel => ⟨F, κ, rel, EvD.refl h0⟩
theorem TurnS.trans (a : TurnS st st') (b : TurnS st' st2) : TurnS st st2 := fun base F κ a' w h0 rel => by
  obtain ⟨F1, κ1, r1, e1⟩ := a base F κ a' w h0 rel
  obtain ⟨F2, κ2, r2, e2⟩ := b base F1 κ1 a' w e1.hl r1
  exact ⟨F2, κ2, r2, e1.trans e2⟩
theorem TurnS.of_turn {H' : List AObj} (h : ∀ (F : Nat → Prop) (κ : Nat → Value) (w : World), SI F κ w H → ∃ κ', Turn F κ w H κ' H') : TurnS ⟨tm, H⟩ ⟨tm, H'⟩ := fun base F κ a w h0 rel => by
  obtain ⟨κ', t⟩ := h F κ w rel.si
  exact ⟨F, κ', ⟨rel.tl, fun i p v g1 g2 => t.rp (rel.tr i p v g1 g2), rel.dn, t.si⟩, ⟨rfl, rfl, rfl, Nat.le_refl _, fun _ _ _ => rfl, fun _ h => h, fun _ h => .inl h, fun b h => .inl (t.on b h), Nat.le_trans h0 t.len, fun l o hl g1 g2 => ⟨t.kp l (Nat.lt_of_lt_of_le hl h0), t.nr l o g1 g2⟩⟩, Nat.le_refl _⟩
theorem TurnS.of_frz {H' : List AObj} (h : ∀ (F : Nat → Prop) (κ : Nat → Value) (w : World), SI F κ w H → ∃ F', Frz F κ w H F' H') : TurnS ⟨tm, H⟩ ⟨tm, H'⟩ := fun base F κ a w h0 rel => by
  obtain ⟨F', f⟩ := h F κ w rel.si
  exact ⟨F', κ, ⟨rel.tl, fun i p v g1 g2 => by simp only []; rw [f.len]; exact (rel.tr i p v g1 g2).freeze f.fm, rel.dn, f.si⟩, ⟨rfl, rfl, rfl, Nat.le_refl _, fun _ _ _ => rfl, f.fm, fun b h => (f.fn b h).imp id .inl, fun b h => .inl (f.on b h), by rw [f.len]; exact h0, fun l o _ h1 h2 => ⟨rfl, f.kp l o h1 h2⟩⟩, Nat.le_refl _⟩
theorem RegSem.turn {c : Code} {Q Q' : St → Prop} (h : RegSem E c st Q') (hq : ∀ s, Q' s → ∃ s', TurnS s s' ∧ Q s') : RegSem E c st Q := fun base F κ a w R h0 rel hR => h base F κ a w R h0 rel fun s F' κ' a' w' q r e => by
  obtain ⟨s', t, q'⟩ := hq s q
  obtain ⟨F2, κ2, r2, e2⟩ := t base F' κ' a' w' e.hl r
  exact hR s' F2 κ2 a' w' q' r2 (e.trans e2)
theorem StepSem.turn {o : Oper} {Q Q' : St → Prop} (h : StepSem E ops o st Q') (hq : ∀ s, Q' s → ∃ s', TurnS s s' ∧ Q s') : StepSem E ops o st Q := fun base F κ a w rest R h0 rel hR => h base F κ a w rest R h0 rel fun s F' κ' a' w' q r e => by
  obtain ⟨s', t, q'⟩ := hq s q
  obtain ⟨F2, κ2, r2, e2⟩ := t base F' κ' a' w' e.hl r
  exact hR s' F2 κ2 a' w' q' r2 (e.trans e2)
theorem StepSem.of_stepD (hc : CallerOk E rc) {o : Oper} {Q : St → Prop} (h : stepD E rc ops o st Q) : StepSem E ops o st Q := fun base F κ a w rest R h0 rel hR => stepD_sound (base := base) hc h h0 rel hR
/-- Operations in the text's order, each shown in its way. -/
def opsG (E : Env) (ops : Array Oper) : List Oper → St → (St → Prop) → Prop
  | [], st, Q => Q st
  | o :: r, st, Q => StepSem E ops o st fun st => opsG E ops r st Q
theorem opsG_sound : ∀ {l : List Oper} {st : St} {Q : St → Prop} {base : Nat} {F : Nat → Prop} {κ : Nat → Value} {a : Act} {w : World} {R : Exit → Act → World → Prop}, opsG E ops l st Q → base ≤ st.heap.length → Rel F κ st a w →
    (∀ st' F' κ' a' w', Q st' → Rel F' κ' st' a' w' → EvD base F κ w st.heap F' κ' w' st'.heap → R .normal a' w') → wpList E.P ops R l a w
  | [], st, Q, base, F, κ, a, w, R, h, h0, rel, hR => hR st F κ a w h rel (EvD.refl h0)
  | o :: r, st, Q, base, F, κ, a, w, R, h, h0, rel, hR => h base F κ a w r R h0 rel fun s F' κ' a' w' q r1 e => opsG_sound q e.hl r1 fun s2 F2 κ2 a2 w2 q2 r2 e2 => hR s2 F2 κ2 a2 w2 q2 r2 (e.trans e2)
theorem RegSem.of_opsG {id : Nat} {Q : St → Prop} (h : opsG E ops ops.toList st Q) : RegSem E (.region id ops false) st Q := fun base F κ a w R h0 rel hR => wp_region_list (opsG_sound h h0 rel hR)
/-- Some operations as they are run. -/
theorem opsG_run (hrc : rc.Nat) (hc : CallerOk E rc) : ∀ {l m : List Oper} {st st' : St} {Q : St → Prop}, opsK E rc ops (l.map fun o => (o, false)) st (fun s => (.ok s : Res St)) = .ok st' → opsG E ops m st' Q → opsG E ops (l ++ m) st Q
  | [], m, st, st', Q, h, hQ => by
    simp only [List.map_nil, opsK, Res.ok.injEq] at h
    subst h; exact hQ
  | o :: l, m, st, st', Q, h, hQ => by
    rw [List.map_cons, opsK_split hrc] at h
    obtain ⟨st1, h1, h2⟩ := bind_ok_inv h
    exact StepSem.of_stepD hc (stepD_of h1 (opsG_run hrc hc h2 hQ))
theorem StepSem.run (hc : CallerOk E rc) {o : Oper} {Q : St → Prop} (h : opsK E rc ops [(o, false)] st (fun s => (.ok s : Res St)) = .ok st') (hQ : Q st') : StepSem E ops o st Q := StepSem.of_stepD hc (stepD_of h hQ)

/-! ### a row of slots that is made -/
theorem rep_get {α : Type} (l : List α) : ∀ (n m : Nat) (x : α), (List.replicate n l).flatten[m]? = some x → l[m % l.length]? = some x
  | 0, m, x, h => by simp at h
  | n + 1, m, x, h => by
    rw [List.replicate_succ, List.flatten_cons] at h
    rcases Nat.lt_or_ge m l.length with h1 | h1
    · rw [List.getElem?_append_left h1] at h
      rw [Nat.mod_eq_of_lt h1]; exact h
    · rw [List.getElem?_append_right h1] at h
      have := rep_get l n (m - l.length) x h
      rwa [← Nat.mod_eq_sub_mod h1] at this
theorem rep_len {α : Type} (l : List α) (n : Nat) : (List.replicate n l).flatten.length = n * l.length := by
  induction n with
  | zero => simp
  | succ n ih => rw [List.replicate_succ, List.flatten_cons, List.length_append, ih, Nat.succ_mul]; omega
def makeVecK (E : Env) (st : St) (t : TypeId) (n c : PV) : Option (PV × St) := match elP E.P t, n, c with
  | some e, .t (.int .i64 n), .t (.int .i64 c) => (match szP E.P e, byP E.P e, ((E.P.info? e).bind (·.zero)).bind (pvConst E.P e) with
    | some (k + 1), some (b + 1), some z => bif zeroOk E.P e (k + 1) && z.okS (k + 1) && (decide (0 ≤ n) && decide (n ≤ c) && decide (c.toNat * (b + 1) ≤ big)) then some (.own st.heap.length, ⟨st.tmps, st.heap ++ [.vec e (k + 1) n.toNat (List.replicate n.toNat (z.cells (k + 1))).flatten]⟩) else none
    | _, _, _ => none)
  | _, _, _ => none
theorem newVec_sound {tm : Array Value} {e k n cap : Nat} {xs : List PV} {cells : Array Value} (h0 : N0 ≤ st.heap.length) (s : SI F κ w st.heap) (ht : TR F κ w st tm)
    (hcap : n ≤ cap) (hmax : cap ≤ maxLen) (hsz : cells.size = cap * k) (hb : n ≤ big) (hx : xs.length = n * k) (h1 : ∀ c ∈ cells, c.oneCell' = true)
    (hr : ∀ (i : Nat) (p : PV) (v : Value), xs[i]? = some p → cells[i]? = some v → RP F κ st.heap.length w p v) :
    ∃ κ', Next' N0 F κ w st tm (.own st.heap.length) (.slice (some ⟨w.heap.size, 0, none⟩) n cap) F κ' (w.alloc (.cells cells e)) ⟨st.tmps, st.heap ++ [.vec e k n xs]⟩ := by
  have hold : ∀ b, b < w.heap.size → (w.alloc (.cells cells e)).heap[b]? = w.heap[b]? := fun b hb => heap_alloc_old' w _ b hb
  refine ⟨upd κ st.heap.length (.slice (some ⟨w.heap.size, 0, none⟩) n cap), Next'.push h0 s ht rfl rfl rfl (by simp) hold (fun _ h => h) (fun _ h => .inl h) (fun b hb => by have := s.fl b hb; simp; omega) ?_ (fun b hb => ?_) (.own (by omega) (upd_same κ _ _))⟩
  · have hle : n * k ≤ cells.size := by rw [hsz]; exact Nat.mul_le_mul_right _ hcap
    refine ⟨cells.toList.take (n * k), ?_, hb, hx, fun c hc => h1 c (by simpa using List.mem_of_mem_take hc), fun i p v hi hv => ?_⟩
    · rw [upd_same]
      exact ⟨by simp; omega, .inr ⟨w.heap.size, cap, cells, rfl, by omega, heap_alloc_new' w _, hcap, hmax, hsz, rfl⟩⟩
    · rw [List.getElem?_take] at hv
      split at hv
      · exact (hr i p v hi (by simpa using hv)).push s _ hold (fun _ h => h)
      · cases hv
  · simp only [blk, upd_same, Value.ownBlock, Option.some.injEq] at hb
    subst hb
    exact ⟨Nat.le_refl _, by simp, fun hf => absurd (s.fl _ hf) (by omega)⟩
theorem makeVecK_sound {tm : Array Value} {t : TypeId} {p q r : PV} {v u : Value} (h : makeVecK E st t p q = some (r, st')) (h0 : N0 ≤ st.heap.length) (s : SI F κ w st.heap) (ht : TR F κ w st tm) (hp : RP F κ st.heap.length w p v) (hq : RP F κ st.heap.length w q u) :
    ∃ x κ' w', (Instr.makeSlice t v u).run E.P w = .ok x w' ∧ Next' N0 F κ w st tm r x F κ' w' st' := by
  unfold makeVecK at h
  cases he : elP E.P t with
  | none => simp [he] at h
  | some e =>
  cases hp <;> try (simp [he] at h; done)
  rename_i n hn
  cases hn <;> try (simp [he] at h; done)
  rename_i ki nn hni
  cases ki <;> try (simp [he] at h; done)
  cases hq <;> try (simp [he] at h; done)
  rename_i c hc
  cases hc <;> try (simp [he] at h; done)
  rename_i ki cc hci
  cases ki <;> try (simp [he] at h; done)
  simp only [he] at h
  cases hs : szP E.P e with
  | none => simp [hs] at h
  | some k =>
  cases k with
  | zero => simp [hs] at h
  | succ k =>
  cases hb : byP E.P e with
  | none => simp [hs, hb] at h
  | some b =>
  cases b with
  | zero => simp [hs, hb] at h
  | succ b =>
  cases hz : ((E.P.info? e).bind (·.zero)).bind (pvConst E.P e) with
  | none => simp [hs, hb, hz] at h
  | some z =>
  simp only [hs, hb, hz] at h
  cases hg : (zeroOk E.P e (k + 1) && z.okS (k + 1) && (decide (0 ≤ nn) && decide (nn ≤ cc) && decide (cc.toNat * (b + 1) ≤ big))) with
  | false => rw [hg] at h; cases h
  | true =>
  rw [hg] at h
  simp only [cond_true, Option.some.injEq, Prod.mk.injEq] at h
  obtain ⟨rfl, rfl⟩ := h
  simp only [Bool.and_eq_true, decide_eq_true_eq] at hg
  obtain ⟨⟨g2, g2'⟩, ⟨g4, g5⟩, g6⟩ := hg
  obtain ⟨i, zv, i1, i2, i3⟩ := zero_of hz
  have hsz : i.size = k + 1 := by simpa [szP, i1] using hs
  have hby : i.bytes = b + 1 := by simpa [byP, i1] using hb
  have hzr := pvConst_sound (F := F) (κ := κ) (N := st.heap.length) (w := w) i3
  obtain ⟨u1, u2⟩ := okS_sound hzr g2'
  obtain ⟨u3, u4⟩ := hzr.cells u1 u2
  have hcb : cc.toNat ≤ big := Nat.le_trans (Nat.le_mul_of_pos_right _ (by omega)) g6
  have hbig : big ≤ 281474976710656 := by decide
  have hmax := big_max
  have hrun := run_make (P := E.P) w t e i zv (elP_underlying he) i1 i2 .i64 .i64 nn cc g4 g5 (by rw [hby]; have : ((cc.toNat * (b + 1) : Nat) : Int) ≤ 281474976710656 := by omega
                                                                                                  have e : (cc.toNat : Int) = cc := Int.toNat_of_nonneg (by omega)
                                                                                                  rw [Int.natCast_mul, e] at this
                                                                                                  rw [Int.mul_comm]; exact this) (by omega)
  have hcell : ∀ m v, (madeCells zv.cells (cc.toNat * i.size))[m]? = some v → zv.cells[m % (k + 1)]? = some v := by
    intro m v hv
    have hm : m < cc.toNat * i.size := by have := (Array.getElem?_eq_some_iff.1 hv).1; simpa [madeCells] using this
    have hmod : m % (k + 1) < zv.cells.size := by rw [u1]; exact Nat.mod_lt _ (by omega)
    rw [Array.getElem?_eq_getElem (by simpa [madeCells] using hm)] at hv
    simp only [madeCells, Array.getElem_map, Array.getElem_range, Option.some.injEq, u1] at hv
    rw [← hv, getElem!_pos zv.cells _ hmod, Array.getElem?_eq_getElem hmod]
  obtain ⟨κ', hnext⟩ := newVec_sound (N0 := N0) (tm := tm) (e := e) (k := k + 1) (n := nn.toNat) (cap := cc.toNat) (xs := (List.replicate nn.toNat (z.cells (k + 1))).flatten) (cells := madeCells zv.cells (cc.toNat * i.size)) h0 s ht (by omega) (by omega) (by rw [size_madeCells, hsz]) (by omega) (by rw [rep_len, u3])
    (fun c hc => by
      obtain ⟨m, hm, rfl⟩ := Array.getElem_of_mem hc
      have := hcell m _ (Array.getElem?_eq_getElem hm)
      exact u2 _ (Array.mem_of_getElem? this))
    (fun j p v hp hv => by
      have h1 := rep_get _ _ _ _ hp
      rw [u3] at h1
      exact u4 _ p v h1 (hcell j v hv))
  exact ⟨_, κ', _, hrun, by simpa [Int.toNat_of_nonneg g4] using hnext⟩
theorem step_makeVec {o : Oper} {t : TypeId} {n c : Operand} {pn pc q : PV} {Q : St → Prop} (hg : o.guard = none) (ho : o.op = .makeSlice t n c) (e1 : evalO E.P st.tmps 0 n = some pn) (e2 : evalO E.P st.tmps 0 c = some pc) (h : makeVecK E st t pn pc = some (q, st')) (hQ : Q ⟨setT st'.tmps o.dst q, st'.heap⟩) : StepSem E ops o st Q := by
  intro base F κ a w rest R h0 rel hR
  obtain ⟨dst, op, type, pos, after, guard⟩ := o
  simp only at hg ho; subst hg; subst ho
  have ht : TR F κ w st a.tmps := rel.tr
  obtain ⟨x, κ', w', h1, nx⟩ := makeVecK_sound (N0 := base) (tm := a.tmps) h h0 rel.si ht (evalO_sound rel.tl ht e1) (evalO_sound rel.tl ht e2)
  simp only [wpList]
  rw [if_pos (by rfl)]
  refine .inl (wp_value (u := x) (w' := w') ?_ (fun hdr => hR _ _ _ _ _ hQ (nx.rel rel _) ⟨nx.ev, hdr⟩))
  simp only [execOp, Sem.run_bind, h1, Result.andThen_ok, Sem.run_pure]
end
end Go.Sim

/- Rows of slots, told otherwise: nil becomes a row of one's own, what is read alone a tree; the whole is frozen. -/
namespace Go.Sim
open Go.RowKit
set_option linter.unusedVariables false
set_option linter.unusedSimpArgs false
set_option linter.unusedSectionVars false

/-- A cell that is nil becomes a row of no elements. -/
def nilCell (l i : Nat) (H : List AObj) : List AObj := match H[l]? with
  | some (.vec e k n xs) => (match xs[i]? with
    | some (.nil e' k') => (H.set l (.vec e k n (xs.set i (.own H.length)))) ++ [.row e' k' []]
    | _ => H)
  | _ => H
/-- A cell that is nil, or all of a row, becomes a tree. -/
def thawV : PV → PV
  | .nil _ k => .t (.sl k [])
  | .full k xs => .t (.sl k xs)
  | p => p
def thawCell (l i : Nat) (H : List AObj) : List AObj := match H[l]? with
  | some (.vec e k n xs) => (match xs[i]? with
    | some p => H.set l (.vec e k n (xs.set i (thawV p)))
    | none => H)
  | _ => H
def chunksT (k : Nat) : Nat → List T → List T
  | 0, _ => []
  | n + 1, xs => .agg (xs.take k) :: chunksT k n (xs.drop k)
/-- A row of slots becomes one of trees, that nobody writes any more. -/
def freezeV (l : Nat) (H : List AObj) : List AObj := match H[l]? with
  | some (.vec e k n xs) => (match PV.frzs (freezeRows (PV.rowss xs) H) xs with
    | some ts => bif decide (2 ≤ k) && decide (ts.length = n * k) && (PV.rowss xs).all (fun r => !((freezeRows (PV.rowss xs) H)[r]? matches some (.row _ _ _))) then (freezeRows (PV.rowss xs) H).set l (.frow e k (chunksT k n ts)) else H
    | none => H)
  | _ => H
section
variable {β : Type} {E : Env} {tm : List PV} {H : List AObj} {F : Nat → Prop} {κ κ' : Nat → Value} {w : World}

theorem thaw_rp {N : Nat} {p : PV} {v : Value} (h : RP F κ N w p v) : RP F κ N w (thawV p) v := by
  cases h with
  | nil => exact .t (.sl (xs := []) 0 0 (fun _ _ => undef) (Nat.zero_le _) (Nat.zero_le _) (by simp) (fun h => absurd h (by simp)) (fun i j h => absurd h (by simp)) (fun i j h => absurd h (by simp)) (fun i x j y h => by simp at h))
  | full h => exact .t h
  | t h => exact .t h
  | agg a b c => exact .agg a b c
  | tup a b => exact .tup a b
  | fn a b c d => exact .fn a b c d
  | ptr a b => exact .ptr a b
  | own a b => exact .own a b
  | eptr a b c => exact .eptr a b c
  | view a b => exact .view a b
  | rp a b c d e f g => exact .rp a b c d e f g
  | mp a b => exact .mp a b
  | junk => exact .junk
/-- A cell of a row of slots, told anew. -/
theorem Turn.vec (s : SI F κ w H) {l e k n i : Nat} {xs : List PV} {p p' : PV} (h : H[l]? = some (.vec e k n xs)) (hi : xs[i]? = some p) (hp : ∀ v, RP F κ H.length w p v → RP F κ H.length w p' v) : Turn F κ w H κ (H.set l (.vec e k n (xs.set i p'))) := by
  have hl : l < H.length := (List.getElem?_eq_some_iff.1 h).1
  have hil : i < xs.length := (List.getElem?_eq_some_iff.1 hi).1
  obtain ⟨cs, h1, h2, h3, h4, h5⟩ := s.ro l _ h
  have hro : RO F κ H.length w l (.vec e k n (xs.set i p')) := ⟨cs, h1, h2, by simpa using h3, h4, fun j q v a b => by
    by_cases e0 : j = i
    · subst e0
      rw [List.getElem?_set_self hil] at a
      injection a with a
      subst a
      exact hp v (h5 j p v hi b)
    · rw [List.getElem?_set_ne (fun h => e0 h.symm)] at a
      exact h5 j q v a b⟩
  have hblk : ∀ q, blk κ l (.vec e k n q) = (κ l).ownBlock := fun q => rfl
  refine ⟨⟨fun j o hj => ?_, fun j o b hj hb => ?_, fun j j' o o' b hj hj' hb hb' => ?_, s.fl⟩, by simp, fun _ _ => rfl, fun c hc => ?_, fun j o hj hn => ?_⟩
  · rw [List.length_set]
    rcases set_get hl hj with ⟨rfl, rfl⟩ | ⟨hne, h2⟩
    · exact hro
    · exact s.ro j o h2
  · rcases set_get hl hj with ⟨rfl, rfl⟩ | ⟨hne, h2⟩
    · exact s.lt j _ b h hb
    · exact s.lt j o b h2 hb
  · rcases set_get hl hj with ⟨rfl, rfl⟩ | ⟨hne, h2⟩
    · rcases set_get hl hj' with ⟨rfl, rfl⟩ | ⟨hne', h2'⟩
      · rfl
      · exact s.ne _ j' _ o' b h h2' hb hb'
    · rcases set_get hl hj' with ⟨rfl, rfl⟩ | ⟨hne', h2'⟩
      · exact s.ne j _ o _ b h2 h hb hb'
      · exact s.ne j j' o o' b h2 h2' hb hb'
  · obtain ⟨j, o, hj, ho⟩ := hc
    rcases set_get hl hj with ⟨rfl, rfl⟩ | ⟨hne, h2⟩
    · exact ⟨j, _, h, ho⟩
    · exact ⟨j, o, h2, ho⟩
  · by_cases e0 : j = l
    · subst e0; exact ⟨_, List.getElem?_set_self hl, fun _ _ _ h => by cases h⟩
    · exact ⟨o, by rw [List.getElem?_set_ne (fun h => e0 h.symm)]; exact hj, hn⟩
theorem turn_thawCell (l i : Nat) : TurnS ⟨tm, H⟩ ⟨tm, thawCell l i H⟩ := by
  unfold thawCell
  cases h : H[l]? with
  | none => exact TurnS.refl _
  | some o =>
    cases o <;> try exact TurnS.refl _
    rename_i e k n xs
    simp only []
    cases hi : xs[i]? with
    | none => exact TurnS.refl _
    | some p => exact TurnS.of_turn fun F κ w s => ⟨κ, Turn.vec s h hi fun v hv => thaw_rp hv⟩
theorem turn_nilCell (l i : Nat) : TurnS ⟨tm, H⟩ ⟨tm, nilCell l i H⟩ := by
  unfold nilCell
  cases h : H[l]? with
  | none => exact TurnS.refl _
  | some o =>
    cases o <;> try exact TurnS.refl _
    rename_i e k n xs
    simp only []
    cases hi : xs[i]? with
    | none => exact TurnS.refl _
    | some p =>
      cases p <;> try exact TurnS.refl _
      rename_i e' k'
      refine TurnS.of_turn fun F κ w s => ?_
      have t1 := Turn.nilRow (F := F) (κ := κ) (w := w) s e' k'
      have hl : l < H.length := (List.getElem?_eq_some_iff.1 h).1
      have h' : (H ++ [AObj.row e' k' []])[l]? = some (.vec e k n xs) := by rw [List.getElem?_append_left hl]; exact h
      have t2 := Turn.vec t1.si (p' := .own H.length) h' hi fun v hv => by
        cases hv
        exact .own (by simp) (upd_same κ _ _)
      refine ⟨upd κ H.length (.slice none 0 0), ?_⟩
      have e1 : (H ++ [AObj.row e' k' []]).set l (.vec e k n (xs.set i (.own H.length))) = H.set l (.vec e k n (xs.set i (.own H.length))) ++ [.row e' k' []] := List.set_append_left _ _ hl
      show Turn F κ w H _ (H.set l (.vec e k n (xs.set i (.own H.length))) ++ [.row e' k' []])
      rw [← e1]
      exact t1.trans t2
theorem chunks_len (k : Nat) : ∀ (n : Nat) (xs : List T), (chunksT k n xs).length = n
  | 0, _ => rfl
  | n + 1, xs => by simp [chunksT, chunks_len k n]
theorem chunks_get (k : Nat) : ∀ (n : Nat) (xs : List T) (i : Nat), i < n → (chunksT k n xs)[i]? = some (.agg ((xs.drop (i * k)).take k))
  | 0, _, i, h => absurd h (Nat.not_lt_zero _)
  | n + 1, xs, 0, _ => by simp [chunksT]
  | n + 1, xs, i + 1, h => by
    simp only [chunksT, List.getElem?_cons_succ]
    rw [chunks_get k n (xs.drop k) i (by omega), List.drop_drop, Nat.succ_mul, Nat.add_comm]
theorem Frz.vec (s : SI F κ w H) {l e k n : Nat} {xs : List PV} {ts : List T} (h : H[l]? = some (.vec e k n xs)) (hk : 2 ≤ k) (hl : ts.length = n * k) (hc : PV.frzs H xs = some ts) (hrows : ∀ p ∈ xs, ∀ r ∈ p.rows, ∀ (e : TypeId) (k : Nat) (xs : List T), H[r]? ≠ some (.row e k xs)) : ∃ F', Frz F κ w H F' (H.set l (.frow e k (chunksT k n ts))) := by
  have hll : l < H.length := (List.getElem?_eq_some_iff.1 h).1
  obtain ⟨cs, r1, r2, r3, r4, r5⟩ := s.ro l _ h
  have hcs : cs.length = n * k := r1.1
  have hF1 : ∀ c, F c → F c ∨ (κ l).ownBlock = some c := fun c hc => .inl hc
  have hlt : ∀ {i j : Nat}, i < n → j < k → i * k + j < n * k := fun {i j} hi hj => by
    calc i * k + j < i * k + k := by omega
      _ = (i + 1) * k := by rw [Nat.succ_mul]
      _ ≤ n * k := Nat.mul_le_mul_right _ hi
  have hcell : ∀ (m : Nat) (y : T) (v : Value), ts[m]? = some y → cs[m]? = some v → Rd (fun c => F c ∨ (κ l).ownBlock = some c) w y v := fun m y v hy hv => by
    obtain ⟨p, hp, hf⟩ := (frzs_get hc).2 m y hy
    exact frz_sound s (r5 m p v hp hv) hF1 hf fun r hr e k xs c g _ => absurd g (hrows p (List.mem_of_getElem? hp) r hr e k xs)
  have hel : ∀ x ∈ chunksT k n ts, x.cells.length = k ∧ (k = 1 → x.isAgg = false) := fun x hx => by
    obtain ⟨i, hi, rfl⟩ := List.getElem_of_mem hx
    rw [chunks_len] at hi
    have := chunks_get k n ts i hi
    rw [List.getElem?_eq_getElem (by rw [chunks_len]; exact hi)] at this
    injection this with this
    rw [this]
    refine ⟨?_, fun h => by omega⟩
    have h1 := hlt hi (show k - 1 < k by omega)
    simp only [T.cells, List.length_take, List.length_drop]
    omega
  have hrd : Rd (fun c => F c ∨ (κ l).ownBlock = some c) w (.sl k (chunksT k n ts)) (κ l) := by
    have hnil : n = 0 → κ l = .slice none 0 0 → Rd (fun c => F c ∨ (κ l).ownBlock = some c) w (.sl k (chunksT k n ts)) (κ l) := fun h0 hv => by
      subst h0
      rw [hv]
      exact .sl (xs := []) 0 0 (fun _ _ => undef) (Nat.zero_le _) (Nat.zero_le _) (by simp) (fun h => absurd h (by simp)) (fun i j h => absurd h (by simp)) (fun i j h => absurd h (by simp)) (fun i x j y h => by simp at h)
    rcases r1.2 with ⟨e1, e2⟩ | ⟨g, cap, cur, e1, e2, e3, e4, e5, e6, e7⟩
    · exact hnil e2 e1
    have hg : (κ l).ownBlock = some g := by rw [e1]; rfl
    have hcl : (chunksT k n ts).length = n := chunks_len _ _ _
    have : Rd (fun c => F c ∨ (κ l).ownBlock = some c) w (.sl k (chunksT k n ts)) (.slice (some ⟨g, 0, none⟩) (chunksT k n ts).length cap) := by
      refine .sl g 0 (fun i j => cs.getD (i * k + j) undef) (by omega) (by omega) hel (fun _ => ⟨rfl, .inr hg⟩) (fun i j hi hj => ?_) (fun i j hi hj => ?_) (fun i x j y hx hy => ?_)
      · rw [hcl] at hi
        show (cs.getD (i * k + j) undef).oneCell' = true
        rw [List.getD_eq_getElem?_getD, List.getElem?_eq_getElem (by rw [hcs]; exact hlt hi hj)]
        exact r4 _ (List.getElem_mem _)
      · rw [hcl] at hi
        have h1 := r1.cells (g := g) hg (i * k + j) (cs.getD (i * k + j) undef) (by rw [List.getD_eq_getElem?_getD, List.getElem?_eq_getElem (by rw [hcs]; exact hlt hi hj)]; rfl)
        rw [add_mid, Nat.zero_add] at h1
        rw [Nat.zero_add]; exact h1
      · have hi : i < n := by rw [← hcl]; exact (List.getElem?_eq_some_iff.1 hx).1
        rw [chunks_get k n ts i hi] at hx
        injection hx with hx
        subst hx
        simp only [T.cells] at hy
        have hj : j < k := by have := (List.getElem?_eq_some_iff.1 hy).1; simp at this; omega
        rw [List.getElem?_take, if_pos hj, List.getElem?_drop] at hy
        exact hcell _ y _ hy (by simp [List.getElem?_eq_getElem (show i * k + j < cs.length by rw [hcs]; exact hlt hi hj)])
    rw [hcl] at this
    rw [e1] at this ⊢
    exact this
  have hblk : blk κ l (.vec e k n xs) = (κ l).ownBlock := rfl
  refine ⟨fun c => F c ∨ (κ l).ownBlock = some c, ⟨⟨fun i o hi => ?_, fun i o c hi hc => ?_, fun i j o o' c hi hj hc hc' => ?_, fun c hc => ?_⟩, hF1, ?_, ?_, by simp, fun i o hi hnr => ?_⟩⟩
  · rw [List.length_set]
    rcases set_get hll hi with ⟨rfl, rfl⟩ | ⟨hne, ho⟩
    · refine ⟨hrd, fun ad n' c' hk => ?_⟩
      rcases r1.2 with ⟨q1, _⟩ | ⟨g, cap, cur, q1, _⟩
      · rw [q1] at hk; cases hk
      · rw [q1] at hk; injection hk with hk; injection hk with hk; exact ⟨g, hk.symm⟩
    · exact (s.ro i o ho).mono hF1 (fun _ _ => rfl) (fun _ _ => rfl) rfl fun l' hl' => ⟨rfl, (s.ro i o ho).bound l' hl'⟩
  · rcases set_get hll hi with ⟨rfl, rfl⟩ | ⟨hne, ho⟩
    · simp [blk] at hc
    · refine ⟨(s.lt i o c ho hc).1, ?_⟩
      rintro (hf | hf)
      · exact (s.lt i o c ho hc).2 hf
      · exact hne (s.ne i l o _ c ho h hc (hblk.trans hf))
  · rcases set_get hll hi with ⟨rfl, rfl⟩ | ⟨hne, ho⟩
    · simp [blk] at hc
    · rcases set_get hll hj with ⟨rfl, rfl⟩ | ⟨hne', ho'⟩
      · simp [blk] at hc'
      · exact s.ne i j o o' c ho ho' hc hc'
  · rcases hc with hc | hc
    · exact s.fl c hc
    · exact (s.lt l _ c h (hblk.trans hc)).1
  · rintro c (hc | hc)
    · exact .inl hc
    · exact .inr ⟨l, _, h, hblk.trans hc⟩
  · rintro c ⟨i, o, hi, hc⟩
    rcases set_get hll hi with ⟨rfl, rfl⟩ | ⟨hne, ho⟩
    · simp [blk] at hc
    · exact ⟨i, o, ho, hc⟩
  · by_cases e0 : i = l
    · subst e0
      exact ⟨_, List.getElem?_set_self hll, fun _ _ _ h => by cases h⟩
    · exact ⟨o, by rw [List.getElem?_set_ne (fun h => e0 h.symm)]; exact hi, hnr⟩
theorem turn_freezeV (l : Nat) : TurnS ⟨tm, H⟩ ⟨tm, freezeV l H⟩ := by
  unfold freezeV
  cases h : H[l]? with
  | none => exact TurnS.refl _
  | some o =>
    cases o <;> try exact TurnS.refl _
    rename_i e k n xs
    simp only []
    cases hf : PV.frzs (freezeRows (PV.rowss xs) H) xs with
    | none => exact TurnS.refl _
    | some ts =>
      simp only []
      cases hc : (decide (2 ≤ k) && decide (ts.length = n * k) && (PV.rowss xs).all (fun r => !((freezeRows (PV.rowss xs) H)[r]? matches some (.row _ _ _)))) with
      | false => exact TurnS.refl _
      | true =>
        simp only [cond_true]
        simp only [Bool.and_eq_true, decide_eq_true_eq, List.all_eq_true] at hc
        refine TurnS.of_frz fun F κ w s => ?_
        obtain ⟨F1, f1, _, f2⟩ := Frz.rows s (PV.rowss xs)
        have h' := f2 l _ h (fun _ _ _ h => by cases h)
        obtain ⟨F2, f3⟩ := Frz.vec f1.si h' hc.1.1 hc.1.2 hf fun p hp r hr e k ys hy => by
          have := hc.2 r (mem_rowss hp hr)
          rw [hy] at this
          simp at this
        exact ⟨F2, f1.trans f3⟩
end
end Go.Sim

/- Runs cut in parts; slots of which only some are told. -/
namespace Go.Sim
open Go.RowKit
set_option linter.unusedVariables false
set_option linter.unusedSimpArgs false
set_option linter.unusedSectionVars false

def slotAtD (d : Nat → PV) : List (Nat × PV) → Nat → PV
  | [], i => d i
  | p :: r, i => bif Nat.beq p.1 i then p.2 else slotAtD d r i
/-- n slots; those that are not told are as d says. -/
def slotsD (n : Nat) (d : Nat → PV) (l : List (Nat × PV)) : List PV := (List.range n).map (slotAtD d l)
def dOf (st : St) : Nat → PV := fun j => st.tmps.getD j undefV
section
variable {β : Type} {E : Env} {rc : Caller} {ops : Array Oper} {N0 : Nat}

theorem opsK_append (hrc : rc.Nat) : ∀ {l m : List (Oper × Bool)} {st st1 : St} {K : St → Res β}, opsK E rc ops l st (fun s => (.ok s : Res St)) = .ok st1 → opsK E rc ops (l ++ m) st K = opsK E rc ops m st1 K
  | [], m, st, st1, K, h => by
    simp only [opsK, Res.ok.injEq] at h
    subst h; rfl
  | x :: l, m, st, st1, K, h => by
    rw [opsK_split hrc] at h
    obtain ⟨s, h1, h2⟩ := bind_ok_inv h
    rw [List.cons_append, opsK_split hrc, h1]
    exact opsK_append hrc h2
/-- A run in two parts. -/
theorem opsK_cut (hrc : rc.Nat) (k : Nat) {l : List (Oper × Bool)} {st st1 st2 : St} (h1 : opsK E rc ops (l.take k) st (fun s => (.ok s : Res St)) = .ok st1) (h2 : opsK E rc ops (l.drop k) st1 (fun s => (.ok s : Res St)) = .ok st2) : opsK E rc ops l st (fun s => (.ok s : Res St)) = .ok st2 := by
  have := opsK_append (K := fun s => (.ok s : Res St)) (m := l.drop k) hrc h1
  rw [List.take_append_drop] at this
  rw [this]; exact h2
theorem runsA_append : ∀ {l m : List (Oper × Bool)} {st st1 st2 : St}, runsA E rc ops N0 l st st1 → runsA E rc ops N0 m st1 st2 → runsA E rc ops N0 (l ++ m) st st2
  | [], m, st, st1, st2, h1, h2 => by
    have h1 : st = st1 := h1
    subst h1; exact h2
  | x :: l, m, st, st1, st2, h1, h2 => by
    obtain ⟨s, a, b, c, d⟩ := h1
    exact ⟨s, a, b, c, runsA_append d h2⟩
theorem runsA_cut (k : Nat) {l : List (Oper × Bool)} {st st1 st2 : St} (h1 : runsA E rc ops N0 (l.take k) st st1) (h2 : runsA E rc ops N0 (l.drop k) st1 st2) : runsA E rc ops N0 l st st2 := by
  have := runsA_append h1 h2
  rwa [List.take_append_drop] at this
theorem RegSem.pre {c : Code} {st st' : St} {Q : St → Prop} (t : TurnS st st') (h : RegSem E c st' Q) : RegSem E c st Q := fun base F κ a w R h0 rel hR => by
  obtain ⟨F1, κ1, r1, e1⟩ := t base F κ a w h0 rel
  exact h base F1 κ1 a w R e1.hl r1 fun s F2 κ2 a2 w2 q r2 e2 => hR s F2 κ2 a2 w2 q r2 (e1.trans e2)
/-- Slots that nobody looks at any more. -/
theorem TurnS.keep (live : List Nat) (tm : List PV) (H : List AObj) : TurnS ⟨tm, H⟩ ⟨keepOnly live tm, H⟩ := fun base F κ a w h0 rel => ⟨F, κ, ⟨by rw [keepOnly_len]; exact rel.tl, fun i p v g1 g2 => by
  simp only [] at g1 ⊢
  rw [keepOnly_get, Option.map_eq_some_iff] at g1
  obtain ⟨q, g1, rfl⟩ := g1
  cases live.contains i with
  | true => exact rel.tr i q v g1 g2
  | false => exact .junk, rel.dn, rel.si⟩, EvD.refl h0⟩
theorem TurnS.keepTo (live : List Nat) {tm tm' : List PV} {H : List AObj} (h : keepOnly live tm = tm') : TurnS ⟨tm, H⟩ ⟨tm', H⟩ := h ▸ TurnS.keep live tm H
/-- A region that draws its order, as it is run. -/
theorem RegSem.draw (hm : E.P.follows .mixedOrders = true) (hc : CallerOk E rc) (hd : drawOk ops = true) {id : Nat} {st st' : St} {Q : St → Prop} (h : opsK E rc ops (drawFlags ops) st (fun s => (.ok s : Res St)) = .ok st') (hQ : Q st') : RegSem E (.region id ops true) st Q := fun base F κ a w R h0 rel hR => by
  refine draw_sound (N0 := base) (K := fun s => (.ok s : Res St)) hm hc hd (by rw [h]; simp) h0 rel fun s F' κ' a' w' e r ev => ?_
  rw [h] at e
  injection e with e
  subst e
  exact hR _ F' κ' a' w' hQ r ev
def getOk (r : Res St) : St := match r with | .ok s => s | _ => ⟨[], []⟩
/-- A region as it is run. -/
theorem RegSem.run (hrc : rc.Nat) (hc : CallerOk E rc) {id : Nat} {st st' : St} {Q : St → Prop} (h : opsK E rc ops (ops.toList.map fun o => (o, false)) st (fun s => (.ok s : Res St)) = .ok st') (hQ : Q st') : RegSem E (.region id ops false) st Q := by
  refine RegSem.of_opsG ?_
  have := opsG_run (Q := Q) (m := []) hrc hc h hQ
  rwa [List.append_nil] at this
end
section
variable {E : Env} {n : Nat} {f : FuncId} {p : List Nat}
/-- Rounds that leave a block, and what stands behind it. -/
def leaveK (E : Env) (n : Nat) (f : FuncId) (p : List Nat) (id i k : Nat) : Ex → St → Res (Bool × St) := fun e s => e.k (.ok (true, s)) (fun j => bif Nat.beq j id then (seqT E n f p i k s fun e s => e.k (.ok (false, canon 0 (hintX E f [] (p.headD 0)).1 s)) (fun _ => .stuck) .stuck) else .stuck) .stuck
theorem seqT_bind {β : Type} {i k : Nat} {st : St} {K : Ex → St → Res β} : seqT E n f p i k st K = (seqX E n f p i k st).bind fun q => K q.1 q.2 := by
  unfold seqT seqX
  rw [nat_seqK (runK_nat E n) (Strict.bind fun q : Ex × St => K q.1 q.2)]
  rfl
end
end Go.Sim

/- A loop's round, told from within its block on. -/
namespace Go.Sim
open Go.RowKit
set_option linter.unusedVariables false
set_option linter.unusedSimpArgs false
set_option linter.unusedSectionVars false
section
variable {E : Env} {n : Nat} {f : FuncId} {p : List Nat}
def endC (E : Env) (f : FuncId) (p : List Nat) (i : Nat) : Ex → St → Res (Ex × St) := fun e s => e.k (.ok (.norm, canon 0 (hintX E f p i).1 s)) (fun j => .ok (.exit j, canon 0 (hintX E f p i).2 s)) (.ok (.ret, canon 0 (resTmps (funcE E f)) s))
/-- Out of the block id, k parts from part a on behind it, and the loop's round is over. -/
def endT (E : Env) (n : Nat) (f : FuncId) (p : List Nat) (i id a k : Nat) : Ex → St → Res (Ex × St) := fun e s => e.k (seqT E n f (p ++ [i]) a k s (endC E f p i)) (fun j => if j = id then seqT E n f (p ++ [i]) a k s (endC E f p i) else endC E f p i (.exit j) s) (endC E f p i .ret s)
theorem seqK_from {β : Type} {l : List Code} {st s : St} (a : Nat) (K : Ex → St → Res β) (h : seqK E (recOf E n) f (funcE E f) n 0 (l.take a) st (fun e s => (.ok (e, s) : Res (Ex × St))) = .ok (.norm, s)) : seqK E (recOf E n) f (funcE E f) n 0 l st K = seqK E (recOf E n) f (funcE E f) n 0 (l.drop a) s K := by
  have e1 : seqK E (recOf E n) f (funcE E f) n 0 l st K = seqK E (recOf E n) f (funcE E f) n 0 (l.take a ++ l.drop a) st K := by rw [List.take_append_drop]
  rw [e1, seqK_append]
  have := nat_seqK (E := E) (f := f) (fn := funcE E f) (n := n) (base := 0) (runK_nat E n) (Strict.bind fun q : Ex × St => q.1.k (seqK E (recOf E n) f (funcE E f) n 0 (l.drop a) q.2 K) (fun i => K (.exit i) q.2) (K .ret q.2)) (l.take a) st fun e s => .ok (e, s)
  rw [h] at this
  exact this.symm
theorem bodyX_end {i a b k1 k2 id : Nat} {st s0 s1 s : St} {e : Ex} {c : Code} (hpI : partsC E f (p ++ [i]) = spine (innerC ((partsC E f p).getD i .skip))) (hb : (partsC E f (p ++ [i]))[a]? = some (.block id c)) (hp : partsC E f ((p ++ [i]) ++ [a]) = spine c)
    (l1 : (partsC E f (p ++ [i])).length = a + 1 + k2) (l2 : (partsC E f ((p ++ [i]) ++ [a])).length = b + k1) (h1 : seqX E n f (p ++ [i]) 0 a st = .ok (.norm, s0)) (h2 : seqX E n f ((p ++ [i]) ++ [a]) 0 b s0 = .ok (.norm, s1))
    (h3 : seqT E n f ((p ++ [i]) ++ [a]) b k1 s1 (endT E n f p i id (a + 1) k2) = .ok (e, s)) : bodyX E n f p i st = .ok (e, s) := by
  unfold bodyX loopB
  show codeK E (recOf E n) f (funcE E f) n 0 (innerC ((partsC E f p).getD i .skip)) st (endC E f p i) = _
  unfold seqX at h1 h2
  rw [List.drop_zero] at h1 h2
  rw [codeK_spine, ← hpI]
  rw [seqK_from a _ h1, drop_one hb]
  show codeK E (recOf E n) f (funcE E f) n 0 (.block id c) s0 (fun e s => e.k (seqK E (recOf E n) f (funcE E f) n 0 ((partsC E f (p ++ [i])).drop (a + 1)) s (endC E f p i)) (fun j => endC E f p i (.exit j) s) (endC E f p i .ret s)) = _
  simp only [codeK]
  rw [codeK_spine, ← hp, seqK_from b _ h2]
  rw [← h3]
  unfold seqT
  have e1 : ((partsC E f ((p ++ [i]) ++ [a])).drop b).take k1 = (partsC E f ((p ++ [i]) ++ [a])).drop b := List.take_of_length_le (by rw [List.length_drop, l2]; omega)
  rw [e1]
  congr 1
  funext e s
  unfold endT seqT
  have e2 : ((partsC E f (p ++ [i])).drop (a + 1)).take k2 = (partsC E f (p ++ [i])).drop (a + 1) := List.take_of_length_le (by rw [List.length_drop, l1]; omega)
  rw [e2]
  cases e <;> rfl
theorem bodyX_exit {i a j : Nat} {st s s' : St} (hpI : partsC E f (p ++ [i]) = spine (innerC ((partsC E f p).getD i .skip))) (h1 : seqX E n f (p ++ [i]) 0 a st = .ok (.exit j, s)) (h2 : canon 0 (hintX E f p i).2 s = s') : bodyX E n f p i st = .ok (.exit j, s') := by
  unfold bodyX loopB
  show codeK E (recOf E n) f (funcE E f) n 0 (innerC ((partsC E f p).getD i .skip)) st (endC E f p i) = _
  rw [codeK_spine, ← hpI]
  unfold seqX at h1
  rw [List.drop_zero] at h1
  have e1 : seqK E (recOf E n) f (funcE E f) n 0 (partsC E f (p ++ [i])) st (endC E f p i) = seqK E (recOf E n) f (funcE E f) n 0 ((partsC E f (p ++ [i])).take a ++ (partsC E f (p ++ [i])).drop a) st (endC E f p i) := by rw [List.take_append_drop]
  rw [e1, seqK_append]
  have := nat_seqK (E := E) (f := f) (fn := funcE E f) (n := n) (base := 0) (runK_nat E n) (Strict.bind fun q : Ex × St => q.1.k (seqK E (recOf E n) f (funcE E f) n 0 ((partsC E f (p ++ [i])).drop a) q.2 (endC E f p i)) (fun i' => endC E f p i (.exit i') q.2) (endC E f p i .ret q.2)) ((partsC E f (p ++ [i])).take a) st fun e s => .ok (e, s)
  rw [h1] at this
  refine this.symm.trans ?_
  rw [← h2]; rfl
/-- From within a round's block to the round's end, where the round belongs to a loop told by what holds at its head. -/
theorem partD_endT {i a b k1 k2 id : Nat} {s1 s : St} {e : Ex} {Q : Ex → St → Prop} (l1 : (partsC E f (p ++ [i])).length = a + 1 + k2) (l2 : (partsC E f ((p ++ [i]) ++ [a])).length = b + k1)
    (h : seqT E n f ((p ++ [i]) ++ [a]) b k1 s1 (endT E n f p i id (a + 1) k2) = .ok (e, s)) (hQ : ∀ e' s', endC E f p i e' s' = .ok (e, s) → Q e' s') :
    partD E n f ((p ++ [i]) ++ [a]) b s1 fun e st => e.kP (partD E n f (p ++ [i]) (a + 1) st Q) (fun j => if j = id then partD E n f (p ++ [i]) (a + 1) st Q else Q (.exit j) st) (Q .ret st) := by
  rw [seqT_bind] at h
  obtain ⟨⟨e1, st1⟩, h1, h2⟩ := bind_ok_inv h
  have rest : ∀ st, seqT E n f (p ++ [i]) (a + 1) k2 st (endC E f p i) = .ok (e, s) → partD E n f (p ++ [i]) (a + 1) st Q := fun st h => by
    rw [seqT_bind] at h
    obtain ⟨⟨e2, st2⟩, h3, h4⟩ := bind_ok_inv h
    refine partD_x (e := e2) k2 h3 ?_
    cases e2 with
    | norm => exact partD_end l1 (hQ _ _ h4)
    | exit j => exact hQ _ _ h4
    | ret => exact hQ _ _ h4
  refine partD_x (e := e1) k1 h1 ?_
  cases e1 with
  | norm => exact partD_end l2 (rest st1 h2)
  | exit j =>
    simp only [endT, Ex.k] at h2
    simp only [Ex.kP]
    split at h2
    · rename_i hj; rw [if_pos hj]; exact rest st1 h2
    · rename_i hj; rw [if_neg hj]; exact hQ _ _ h2
  | ret => exact hQ _ _ h2
end
end Go.Sim
