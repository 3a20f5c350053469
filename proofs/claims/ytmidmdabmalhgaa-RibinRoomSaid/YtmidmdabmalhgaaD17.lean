/- Calls: what callers lean on; how a call is made. -/
import Derived.Test.YtmidmdabmalhgaaD16
namespace Go.Sim
open Go.RowKit
set_option linter.unusedVariables false
set_option linter.unusedSimpArgs false

/-- A row that somebody may own. -/
def Row (F : Nat → Prop) (w : World) (e k : Nat) (xs : List T) (v : Value) : Prop := RO F (fun _ => v) 0 w 0 (.row e k xs)
theorem Row.ro {F : Nat → Prop} {w : World} {e k : Nat} {xs : List T} {v : Value} (h : Row F w e k xs v) {κ : Nat → Value} {N l : Nat} (hk : κ l = v) : RO F κ N w l (.row e k xs) := by
  obtain ⟨cs, h1, h2⟩ := h
  exact ⟨cs, by rw [hk]; exact h1, h2⟩

inductive Out (E : Env) (f : FuncId) (F : Nat → Prop) (B : Nat) (w : World) : T → Value → Prop
  | frozen {x : T} {v : Value} (hm : E.mode f = 0) (h : Rd F w x v) : Out E f F B w x v
  | row {e k : Nat} {xs : List T} {v : Value} (hm : E.mode f = 1) (hr : retRow E f = some (e, k)) (h : Row F w e k xs v) (hb : ∀ b, v.ownBlock = some b → B ≤ b ∧ b < w.heap.size ∧ ¬ F b) : Out E f F B w (.sl k xs) v
  | tup {e k : Nat} {xs ys : List T} {v : Value} {vs : List Value} (hm : 2 ≤ E.mode f) (hr : retRow E f = some (e, k)) (h : Row F w e k xs v) (hb : ∀ b, v.ownBlock = some b → B ≤ b ∧ b < w.heap.size ∧ ¬ F b)
      (hc : ys.length + 1 = retCount E f) (hl : vs.length = ys.length) (hys : ∀ (i : Nat) (x : T) (v : Value), ys[i]? = some x → vs[i]? = some v → Rd F w x v) : Out E f F B w (.tup (.sl k xs :: ys)) (.tuple (v :: vs).toArray)

/-- The world has grown by blocks that nobody had; some of them are frozen. -/
structure Grown (F : Nat → Prop) (w : World) (F' : Nat → Prop) (w' : World) : Prop where
  os : w'.os = w.os
  tape : w'.tape = w.tape
  output : w'.output = w.output
  size : w.heap.size ≤ w'.heap.size
  old : ∀ b, b < w.heap.size → w'.heap[b]? = w.heap[b]?
  fm : ∀ b, F b → F' b
  fn : ∀ b, F' b → F b ∨ w.heap.size ≤ b
  fl : ∀ b, F' b → b < w'.heap.size

/-- What is come to when a function is called. -/
def Invokes (P : Program) (f : FuncId) (args : Array Value) (w : World) (R : Value → World → Prop) : Prop := match (callFunc f args).run P w with
  | .ok (.enter g as) w1 => Calls P g as w1 fun e w' => ∃ v, e = .returned v ∧ R v w'
  | .ok (.value v) w1 => R v w1
  | .ok (.row row as) w1 => Rows P row as w1 R
  | _ => False

theorem Invokes.mono {P : Program} {f : FuncId} {args : Array Value} {w : World} {R R' : Value → World → Prop} (h : Invokes P f args w R) (hr : ∀ v w', R v w' → R' v w') : Invokes P f args w R' := by
  unfold Invokes at *
  split at h
  · exact Calls.mono h fun e w' ⟨v, h1, h2⟩ => ⟨v, h1, hr v w' h2⟩
  · exact hr _ _ h
  · exact Rows.mono h hr
  · exact h.elim

theorem Invokes.upon {P : Program} {f : FuncId} {args : Array Value} {w : World} {R : Value → World → Prop} {o : Oper} {a : Act} {next : Act → World → Prop} {Q : Exit → Act → World → Prop} (h : Invokes P f args w R)
    (hr : ∀ v w', R v w' → next (a.put o.dst v) w') : o.upon P a next Q ((callFunc f args).run P w) := by
  unfold Invokes at h
  generalize (callFunc f args).run P w = r at *
  cases r with
  | ok n w1 =>
    cases n <;> simp only at h
    case enter g as =>
      simp only [Oper.upon]
      refine Calls.mono h fun e w' ⟨v, h1, h2⟩ => ?_
      subst h1
      exact hr v w' h2
    case value v => exact hr _ _ h
    case row row as => exact Rows.mono h hr
  | halt => exact h.elim

/-- What is leant on of a function that writes on a row of its caller's. -/
def InplOk (E : Env) (f : FuncId) (g : List AObj → List T → List PV → Res (List T)) : Prop := ∀ (F : Nat → Prop) (κ : Nat → Value) (w : World) (H : List AObj) (l e k : Nat) (xs : List T) (rest : List PV) (vals : List Value), SI F κ w H → H[l]? = some (.row e k xs) →
  retRow E f = some (e, k) → l ∉ PV.rowss rest → vals.length = rest.length → (∀ (i : Nat) (p : PV) (v : Value), rest[i]? = some p → vals[i]? = some v → RP F κ H.length w p v) → g H xs rest ≠ .stuck →
  Invokes E.P f (κ l :: vals).toArray w fun r w' => ∃ ys, g H xs rest = .ok ys ∧ w.grownBy w' (κ l).ownBlock ∧ (r.ownBlock = (κ l).ownBlock ∨ ∃ b, r.ownBlock = some b ∧ w.heap.size ≤ b) ∧ (∀ b, r.ownBlock = some b → b < w'.heap.size) ∧
    ∀ F1 : Nat → Prop, (∀ b, F b → F1 b) → (∀ m ∈ PV.rowss rest, ∀ (e' k' : Nat) (xs' : List T) (b : Nat), H[m]? = some (.row e' k' xs') → (κ m).ownBlock = some b → F1 b) → (∀ b, F1 b → w'.heap[b]? = w.heap[b]?) → Row F1 w' e k ys r

structure CallerOk (E : Env) (rc : Caller) : Prop where
  nat : rc.Nat
  inpl : ∀ (f : FuncId) (g : List AObj → List T → List PV → Res (List T)), E.inpl f = some g → InplOk E f g
  pure : ∀ (f : FuncId) (ts : List T), rc.pure f ts ≠ .stuck → ∀ (F : Nat → Prop) (w : World) (vals : List Value), vals.length = ts.length → (∀ (i : Nat) (x : T) (v : Value), ts[i]? = some x → vals[i]? = some v → Rd F w x v) →
    (∀ b, F b → b < w.heap.size) → Invokes E.P f vals.toArray w fun v w' => ∃ x F', rc.pure f ts = .ok x ∧ Out E f F' w.heap.size w' x v ∧ Grown F w F' w'
  go : ∀ (β : Type) (f : FuncId) (args : List PV) (H : List AObj) (K : PV → List AObj → Res β), rc.go β f args H K ≠ .stuck → ∀ (F : Nat → Prop) (κ : Nat → Value) (w : World) (vals : List Value), vals.length = args.length →
    (∀ (i : Nat) (p : PV) (v : Value), args[i]? = some p → vals[i]? = some v → RP F κ H.length w p v) → SI F κ w H →
    Invokes E.P f vals.toArray w fun v w' => ∃ r H' F' κ', rc.go β f args H K = K r H' ∧ RP F' κ' H'.length w' r v ∧ SI F' κ' w' H' ∧ Ev H.length F κ w H F' κ' w' H'

theorem compsK_tup {β : Type} : ∀ (n i : Nat) (l : List T) (K : List PV → Res β), i + n = l.length → compsK (.tup l) i n K = K ((l.drop i).map .t)
  | 0, i, l, K, h => by simp [compsK, List.drop_of_length_le (show l.length ≤ i by omega)]
  | n + 1, i, l, K, h => by
    have hi : i < l.length := by omega
    simp only [compsK, compT, List.getElem?_eq_getElem hi]
    rw [compsK_tup n (i + 1) l _ (by omega), List.drop_eq_getElem_cons hi]
    rfl

section
variable {β : Type} {E : Env} {rc : Caller} {st : St} {F : Nat → Prop} {κ : Nat → Value} {w : World} {N0 : Nat} {tm : Array Value}

theorem bind_inv {α : Type} {r : Res α} {k : α → Res β} (h : r.bind k ≠ .stuck) : r ≠ .stuck := by rintro rfl; exact h rfl

theorem Grown.next (h0 : N0 ≤ st.heap.length) (s : SI F κ w st.heap) (ht : TR F κ w st tm) {F' : Nat → Prop} {w' : World} (g : Grown F w F' w') {p : PV} {v : Value} (hp : RP F' κ st.heap.length w' p v) : Next' N0 F κ w st tm p v F' κ w' st :=
  Next'.fresh h0 s ht g.os g.tape g.output g.size g.old g.fm g.fn g.fl hp

/-- A step behind a freezing. -/
theorem Next'.frozen {ls : List Nat} {F1 F' : Nat → Prop} {κ' : Nat → Value} {w' : World} {p : PV} {v : Value} {st' : St} (h0 : N0 ≤ st.heap.length) (a1 : ∀ b, F b → F1 b) (a2 : ∀ b, F1 b → F b ∨ Own κ st.heap b) (a3 : ∀ b, Own κ (freezeRows ls st.heap) b → Own κ st.heap b)
    (a5 : ∀ (l : Nat) (o : AObj), st.heap[l]? = some o → (∀ (e : TypeId) (k : Nat) (xs : List T), o ≠ .row e k xs) → (freezeRows ls st.heap)[l]? = some o)
    (h : Next' N0 F1 κ w ⟨st.tmps, freezeRows ls st.heap⟩ tm p v F' κ' w' st') : Next' N0 F κ w st tm p v F' κ' w' st' :=
  ⟨h.si, (Ev.freeze ls h0 a1 a2 a3 a5).trans h.ev, h.rp, h.tl, h.tr⟩

theorem hide_get (ex : List Nat) (H : List AObj) (l : Nat) : (hideRows ex H)[l]? = (H[l]?).map fun o => match o with
  | .row e k xs => bif ex.contains l then .row e k xs else .dead
  | o => o := by
  unfold hideRows
  rw [List.getElem?_map, List.getElem?_zipIdx]
  cases H[l]? with
  | none => rfl
  | some o => simp; cases o <;> rfl
theorem hide_len (ex : List Nat) (H : List AObj) : (hideRows ex H).length = H.length := by simp [hideRows]
theorem show_get (ex : List Nat) (H H' : List AObj) (l : Nat) : (showRows ex H H')[l]? = (H'[l]?).map fun o => match H[l]? with
  | some (.row e k xs) => bif ex.contains l then o else .row e k xs
  | _ => o := by
  unfold showRows
  rw [List.getElem?_map, List.getElem?_zipIdx]
  cases H'[l]? with
  | none => rfl
  | some o =>
    simp only [Option.map_some, Nat.zero_add]
    cases H[l]? with
    | none => rfl
    | some q => cases q <;> rfl
theorem show_len (ex : List Nat) (H H' : List AObj) : (showRows ex H H').length = H'.length := by simp [showRows]

/-- Which rows are hidden. -/
def Hid (ex : List Nat) (H : List AObj) (l : Nat) : Prop := ex.contains l = false ∧ ∃ e k xs, H[l]? = some (.row e k xs)

theorem hide_cases (ex : List Nat) (H : List AObj) (l : Nat) : (Hid ex H l ∧ (hideRows ex H)[l]? = some .dead) ∨ (¬ Hid ex H l ∧ (hideRows ex H)[l]? = H[l]?) := by
  rw [hide_get]
  cases h : H[l]? with
  | none => exact .inr ⟨fun ⟨_, e, k, xs, h'⟩ => (by rw [h] at h'; cases h'), rfl⟩
  | some o =>
    cases o with
    | row e k xs =>
      cases hc : ex.contains l with
      | true => exact .inr ⟨fun h' => (by rw [h'.1] at hc; cases hc), by simp only [Option.map_some, hc, cond_true]⟩
      | false => exact .inl ⟨⟨hc, e, k, xs, h⟩, by simp only [Option.map_some, hc, cond_false]⟩
    | _ => exact .inr ⟨fun ⟨_, e, k, xs, h'⟩ => (by rw [h] at h'; cases h'), rfl⟩

theorem SI.hide (s : SI F κ w st.heap) (ex : List Nat) : SI F κ w (hideRows ex st.heap) := by
  have hg : ∀ l o, (hideRows ex st.heap)[l]? = some o → o = AObj.dead ∨ st.heap[l]? = some o := fun l o h => by
    rcases hide_cases ex st.heap l with ⟨_, h2⟩ | ⟨_, h2⟩
    · rw [h] at h2; injection h2 with h2; exact .inl h2
    · exact .inr (h2 ▸ h)
  refine ⟨fun l o h => ?_, fun l o b h hb => ?_, fun l l' o o' b h h' hb hb' => ?_, s.fl⟩
  · rw [hide_len]
    rcases hg l o h with rfl | h1
    · trivial
    · exact s.ro l o h1
  · rcases hg l o h with rfl | h1
    · simp [blk] at hb
    · exact s.lt l o b h1 hb
  · rcases hg l o h with rfl | h1
    · simp [blk] at hb
    · rcases hg l' o' h' with rfl | h2
      · simp [blk] at hb'
      · exact s.ne l l' o o' b h1 h2 hb hb'

theorem hide_own {ex : List Nat} {H : List AObj} {b : Nat} (h : Own κ (hideRows ex H) b) : ∃ l o, H[l]? = some o ∧ blk κ l o = some b ∧ ¬ Hid ex H l := by
  obtain ⟨l, o, h1, h2⟩ := h
  rcases hide_cases ex H l with ⟨_, h4⟩ | ⟨h3, h4⟩
  · rw [h1] at h4; injection h4 with h4; subst h4; simp [blk] at h2
  · exact ⟨l, o, by rw [← h4]; exact h1, h2, h3⟩

/-- Behind a call that may write: the hidden rows are shown again. -/
theorem goBack (h0 : N0 ≤ st.heap.length) (s : SI F κ w st.heap) (ht : TR F κ w st tm) {ex : List Nat} {F' : Nat → Prop} {κ' : Nat → Value} {w' : World} {H' : List AObj} {r : PV} {v : Value}
    (hr : RP F' κ' H'.length w' r v) (s' : SI F' κ' w' H') (ev : Ev (hideRows ex st.heap).length F κ w (hideRows ex st.heap) F' κ' w' H') :
    Next' N0 F κ w st tm r v F' κ' w' ⟨PV.kills (ex.contains ·) st.tmps, showRows ex st.heap H'⟩ := by
  have hN : st.heap.length ≤ H'.length := by have := ev.hl; rwa [hide_len] at this
  -- a hidden row is as it was
  have hid : ∀ l, Hid ex st.heap l → κ' l = κ l ∧ (∃ o', H'[l]? = some o' ∧ ∀ e k xs, o' ≠ .row e k xs) := fun l hl => by
    have hlt : l < st.heap.length := by obtain ⟨_, e, k, xs, h⟩ := hl; exact (List.getElem?_eq_some_iff.1 h).1
    rcases hide_cases ex st.heap l with ⟨_, h2⟩ | ⟨h1, _⟩
    · obtain ⟨a, o', b, c⟩ := ev.kp l .dead (by rw [hide_len]; exact hlt) h2 (by simp)
      exact ⟨a, o', b, c⟩
    · exact absurd hl h1
  have hidb : ∀ l e k xs b, Hid ex st.heap l → st.heap[l]? = some (.row e k xs) → (κ l).ownBlock = some b → w'.heap[b]? = w.heap[b]? ∧ b < w.heap.size ∧ ¬ F' b ∧ (∀ i o, H'[i]? = some o → ¬ Hid ex st.heap i → blk κ' i o ≠ some b) := by
    intro l e k xs b hl ho hb
    obtain ⟨h1, h2⟩ := s.lt l _ b ho (by simpa [blk] using hb)
    have hno : ¬ Own κ (hideRows ex st.heap) b := fun h => by
      obtain ⟨l', o', a, c, d⟩ := hide_own h
      exact d (s.ne l l' _ o' b ho a (by simpa [blk] using hb) c ▸ hl)
    refine ⟨ev.frame b h1 hno, h1, fun hf => ?_, fun i o hi _ hbi => ?_⟩
    · rcases ev.fn b hf with h | h | h
      · exact h2 h
      · exact hno h
      · omega
    · rcases ev.on b ⟨i, o, hi, hbi⟩ with h | h
      · exact hno h
      · omega
  have sg : ∀ l o, (showRows ex st.heap H')[l]? = some o → (Hid ex st.heap l ∧ st.heap[l]? = some o ∧ ∃ e k xs, o = .row e k xs) ∨ (¬ Hid ex st.heap l ∧ H'[l]? = some o) := by
    intro l o h
    rw [show_get, Option.map_eq_some_iff] at h
    obtain ⟨o', h1, h2⟩ := h
    cases h3 : st.heap[l]? with
    | none => rw [h3] at h2; simp only at h2; subst h2; exact .inr ⟨fun ⟨_, e, k, xs, h⟩ => (by rw [h3] at h; cases h), h1⟩
    | some q =>
      rw [h3] at h2
      cases q with
      | row e k xs =>
        simp only at h2
        cases hc : ex.contains l with
        | true => rw [hc] at h2; simp only [cond_true] at h2; subst h2; exact .inr ⟨fun h => (by rw [h.1] at hc; cases hc), h1⟩
        | false => rw [hc] at h2; simp only [cond_false] at h2; subst h2; exact .inl ⟨⟨hc, e, k, xs, h3⟩, rfl, e, k, xs, rfl⟩
      | _ => simp only at h2; subst h2; exact .inr ⟨fun ⟨_, e, k, xs, h⟩ => (by rw [h3] at h; cases h), h1⟩
  refine ⟨⟨fun l o h => ?_, fun l o b h hb => ?_, fun l l' o o' b h h' hb hb' => ?_, s'.fl⟩, ⟨ev.os, ev.tape, ev.output, ev.size, fun b hb hno => ?_, ev.fm, fun b hb => ?_, fun b hb => ?_, by rw [show_len]; omega, fun l o hl h1 h2 => ?_⟩, by rw [show_len]; exact hr, by simp [kills_length], fun i q u g1 g2 => ?_⟩
  · rw [show_len]
    rcases sg l o h with ⟨h1, h2, e, k, xs, rfl⟩ | ⟨h1, h2⟩
    · refine (s.ro l _ h2).mono ev.fm (fun b hb => ?_) (fun b hb => ?_) (hid l h1).1 (fun l' hl' => by simp [AObj.locs] at hl')
      · exact ev.frame b (s.fl b hb) fun h => by obtain ⟨l', o', a, c, _⟩ := hide_own h; exact (s.lt l' o' b a c).2 hb
      · exact (hidb l e k xs b h1 h2 (by simpa [blk] using hb)).1
    · exact s'.ro l o h2
  · rcases sg l o h with ⟨h1, h2, e, k, xs, rfl⟩ | ⟨h1, h2⟩
    · have hb : (κ l).ownBlock = some b := by rw [← (hid l h1).1]; simpa [blk] using hb
      obtain ⟨_, a, c, _⟩ := hidb l e k xs b h1 h2 hb
      exact ⟨Nat.lt_of_lt_of_le a ev.size, c⟩
    · exact s'.lt l o b h2 hb
  · rcases sg l o h with ⟨h1, h2, e, k, xs, rfl⟩ | ⟨h1, h2⟩ <;> rcases sg l' o' h' with ⟨h1', h2', e', k', xs', rfl⟩ | ⟨h1', h2'⟩
    · have hb : (κ l).ownBlock = some b := by rw [← (hid l h1).1]; simpa [blk] using hb
      have hb' : (κ l').ownBlock = some b := by rw [← (hid l' h1').1]; simpa [blk] using hb'
      exact s.ne l l' _ _ b h2 h2' (by simpa [blk] using hb) (by simpa [blk] using hb')
    · have hb : (κ l).ownBlock = some b := by rw [← (hid l h1).1]; simpa [blk] using hb
      exact absurd hb' ((hidb l e k xs b h1 h2 hb).2.2.2 l' o' h2' h1')
    · have hb' : (κ l').ownBlock = some b := by rw [← (hid l' h1').1]; simpa [blk] using hb'
      exact absurd hb ((hidb l' e' k' xs' b h1' h2' hb').2.2.2 l o h2 h1)
    · exact s'.ne l l' o o' b h2 h2' hb hb'
  · refine ev.frame b hb fun h => ?_
    obtain ⟨l', o', a, c, _⟩ := hide_own h
    exact hno ⟨l', o', a, c⟩
  · rcases ev.fn b hb with h | h | h
    · exact .inl h
    · obtain ⟨l', o', a, c, _⟩ := hide_own h; exact .inr (.inl ⟨l', o', a, c⟩)
    · exact .inr (.inr h)
  · obtain ⟨l, o, h1, h2⟩ := hb
    rcases sg l o h1 with ⟨a1, a2, e, k, xs, rfl⟩ | ⟨a1, a2⟩
    · have hb : (κ l).ownBlock = some b := by rw [← (hid l a1).1]; simpa [blk] using h2
      exact .inl ⟨l, _, a2, by simpa [blk] using hb⟩
    · rcases ev.on b ⟨l, o, a2, h2⟩ with h | h
      · obtain ⟨l', o', a, c, _⟩ := hide_own h; exact .inl ⟨l', o', a, c⟩
      · exact .inr h
  · have hnh : ¬ Hid ex st.heap l := fun ⟨_, e, k, xs, h⟩ => h2 e k xs (by rw [h1] at h; injection h)
    rcases hide_cases ex st.heap l with ⟨h3, _⟩ | ⟨_, h4⟩
    · exact absurd h3 hnh
    · obtain ⟨a, o', b, c⟩ := ev.kp l o (by rw [hide_len]; omega) (h4.trans h1) h2
      refine ⟨a, o', ?_, c⟩
      rw [show_get, b]
      simp only [Option.map_some, h1]
      cases o <;> first | rfl | exact absurd rfl (h2 _ _ _)
  · rw [kills_get, Option.map_eq_some_iff] at g1
    obtain ⟨q, g1, rfl⟩ := g1
    rw [show_len]
    refine (ht i q u g1 g2).kill _ ev.fm (fun b hb => ?_) hN fun l hl hne => ?_
    · exact ev.frame b (s.fl b hb) fun h => by obtain ⟨l', o', a, c, _⟩ := hide_own h; exact (s.lt l' o' b a c).2 hb
    · cases ho : st.heap[l]? with
      | none => have := List.getElem?_eq_none_iff.1 ho; omega
      | some o =>
        by_cases hrow : ∃ e k xs, o = .row e k xs
        · obtain ⟨e, k, xs, rfl⟩ := hrow
          obtain ⟨A, c, h1, _⟩ := row_len (s.ro l _ ho)
          refine ⟨?_, A, _, c, h1⟩
          cases hc : ex.contains l with
          | true => rfl
          | false => exact absurd (hid l ⟨hc, e, k, xs, ho⟩).1 hne
        · have hnr : ∀ e k xs, o ≠ .row e k xs := fun e k xs h => hrow ⟨e, k, xs, h⟩
          rcases hide_cases ex st.heap l with ⟨⟨_, e, k, xs, h3⟩, _⟩ | ⟨_, h4⟩
          · rw [ho] at h3; injection h3 with h3; exact absurd h3 (hnr e k xs)
          · exact absurd (ev.kp l o (by rw [hide_len]; exact hl) (h4.trans ho) hnr).1 hne

/-- The first elements of a row of one's own. -/
theorem Row.cut {w' : World} {F' : Nat → Prop} {e k hi : Nat} {xs : List T} {r v : Value} (h : Row F' w' e k xs r) (hv : ViewV r v k 0 hi) (hle : hi ≤ xs.length) : Row F' w' e k (xs.take hi) v ∧ v.ownBlock = r.ownBlock := by
  obtain ⟨B, n', c', A', ⟨v1, vb⟩, v2, v3, v4, v5⟩ := hv
  obtain ⟨cs, o1, o2, o3, o4, o5⟩ := h
  have hcs := o1.1
  have hxl : (xs.take hi).length = hi := by simp; omega
  have hle2 : hi * k ≤ cs.length := by rw [hcs]; exact Nat.mul_le_mul_right _ hle
  refine ⟨⟨cs.take (hi * k), ?_, by omega, fun x hx => o3 x (List.mem_of_mem_take hx), fun c hc => o4 c (List.mem_of_mem_take hc), fun i x j y u hx hy hu => ?_⟩, ?_⟩
  · rw [hxl]
    refine ⟨by simp; omega, ?_⟩
    rcases o1.2 with ⟨q1, q2⟩ | ⟨g, cap, cur, q1, q2, q3, q4, q5, q6, q7⟩
    · replace q1 : r = _ := q1
      rw [v1] at q1
      injection q1 with q1 q3 q4
      subst q1; subst q4
      rcases v5 with ⟨_, rfl⟩ | ⟨b, o, h, _⟩
      · have hz : hi = 0 := by replace q2 : xs.length = 0 := q2; omega
        left; exact ⟨by rw [v2, hz], hz⟩
      · cases h
    · replace q1 : r = _ := q1
      rw [v1] at q1
      injection q1 with q1 q8 q9
      subst q1; subst q9
      rcases v5 with ⟨h, _⟩ | ⟨b, o, h1, rfl, h3⟩
      · cases h
      · injection h1 with h1; injection h1 with h1
        subst h1
        right
        refine ⟨g, c', cur, ?_, q2, q3, by omega, q5, q6, ?_⟩
        · rw [v2, h3 (.inr rfl)]; simp
        · rw [← q7, List.take_take]; congr 1; rw [hcs] at hle2; omega
  · have hi' : i < (xs.take hi).length := (List.getElem?_eq_some_iff.1 hx).1
    rw [List.getElem?_take, if_pos (by omega)] at hx
    rw [List.getElem?_take] at hu
    split at hu
    · exact o5 i x j y u hx hy hu
    · cases hu
  · rw [v1, v2]
    rcases v5 with ⟨rfl, rfl⟩ | ⟨b, o, rfl, rfl, _⟩ <;> rfl

theorem trimK_sound {st1 : St} {F' : Nat → Prop} {κ' : Nat → Value} {w' : World} {r : PV} {v : Value} {K : PV → St → Res β} (h0 : N0 ≤ st1.heap.length) (hn : Next' N0 F κ w st tm r v F' κ' w' st1) :
    ∃ p st2 κ2, trimK r st1 K = K p st2 ∧ Next' N0 F κ w st tm p v F' κ2 w' st2 := by
  unfold trimK
  split
  · rename_i l k hi
    split
    · rename_i e k' xs ho
      cases hg : (k' == k && decide (hi ≤ xs.length)) with
      | false => exact ⟨_, _, κ', rfl, hn⟩
      | true =>
        simp only [Bool.and_eq_true, beq_iff_eq, decide_eq_true_eq] at hg
        obtain ⟨rfl, hle⟩ := hg
        simp only [cond_true]
        have hrp := hn.rp
        cases hrp with
        | @view _ _ _ _ A n c hN hv =>
        obtain ⟨b3, hblk⟩ := Row.cut (show Row F' w' e k' xs (κ' l) from hn.si.ro l _ ho) hv hle
        have hro : RO F' (upd κ' l (.slice A n c)) st1.heap.length w' l (.row e k' (xs.take hi)) := b3.ro (upd_same _ _ _)
        obtain ⟨t1, t2, t3, t4⟩ := hn.si.rowTurn ho (.slice A n c) ⟨rfl, rfl, rfl, Nat.le_refl _, fun _ _ _ => rfl⟩ (.inl hblk) (fun b hb => by rw [hblk] at hb; exact (hn.si.lt l _ b ho (by simpa [blk] using hb)).1) hro N0 h0
        refine ⟨_, _, upd κ' l (.slice A n c), rfl, t1, hn.ev.trans t2, .own (by simpa using hN) (upd_same _ _ _), by rw [kills_length]; exact hn.tl, fun i q u g1 g2 => ?_⟩
        rw [kills_get, Option.map_eq_some_iff] at g1
        obtain ⟨q, g1, rfl⟩ := g1
        exact (hn.tr i q u g1 g2).kill _ (fun _ h => h) t3 (by simp) t4
    · exact ⟨_, _, κ', rfl, hn⟩
  · exact ⟨_, _, κ', rfl, hn⟩

theorem inplK_sound {dr : Bool} {f : FuncId} {g : List AObj → List T → List PV → Res (List T)} (hg : InplOk E f g) {args : List PV} {vals : List Value} {K : PV → St → Res β} (h : inplK E dr f g args st K ≠ .stuck) (h0 : N0 ≤ st.heap.length) (s : SI F κ w st.heap) (ht : TR F κ w st tm)
    (hl : vals.length = args.length) (ha : ∀ (i : Nat) (p : PV) (v : Value), args[i]? = some p → vals[i]? = some v → RP F κ st.heap.length w p v) :
    Invokes E.P f vals.toArray w fun v w' => ∃ p st' F' κ', inplK E dr f g args st K = K p st' ∧ Next' N0 F κ w st tm p v F' κ' w' st' := by
  unfold inplK at h ⊢
  match args, vals, hl with
  | [], _, _ => exact absurd rfl h
  | p :: rest, v :: vals, hl =>
    have hp := ha 0 p v rfl rfl
    cases hp with
    | @own l A n c hN hk =>
      simp only [] at h ⊢
      cases ho : st.heap[l]? with
      | none => simp [ho] at h
      | some obj =>
        cases obj with
        | row e k xs =>
          simp only [ho] at h ⊢
          obtain ⟨g1, e1⟩ := cond_inv' h
          rw [e1] at h ⊢
          simp only [Bool.and_eq_true, beq_iff_eq, Bool.not_eq_true'] at g1
          obtain ⟨⟨_, g2⟩, g3⟩ := g1
          have hnm : l ∉ PV.rowss rest := fun hm => by rw [List.contains_iff_mem.2 hm] at g3; cases g3
          obtain ⟨F1, s1, a1, a2, a3, a4, a5, a6⟩ := freeze_sound (PV.rowss rest) s
          have hi := hg F κ w st.heap l e k xs rest vals s ho g2 hnm (by simpa using hl) (fun i p v c d => ha (i + 1) p v (by simpa using c) (by simpa using d)) (bind_inv h)
          rw [hk] at hi
          refine hi.mono fun r w' => ?_
          rintro ⟨ys, q1, q2, q3, q4, q5⟩
          rw [q1]
          simp only [Res.bind_ok]
          rw [← hk] at q2 q3
          have ho' : (freezeRows (PV.rowss rest) st.heap)[l]? = some (.row e k xs) := by rw [freezeRows_other _ _ hnm]; exact ho
          have hF1 : ∀ b, F1 b → w'.heap[b]? = w.heap[b]? := fun b hb => q2.block b (s1.fl b hb) fun e => (s1.lt l _ b ho' (by simpa [blk] using e.symm)).2 hb
          have hrow := q5 F1 a1 a4 hF1
          have hro : RO F1 (upd κ l r) (freezeRows (PV.rowss rest) st.heap).length w' l (.row e k ys) := hrow.ro (upd_same _ _ _)
          obtain ⟨t1, t2, t3, t4⟩ := s1.rowTurn ho' r q2 q3 q4 hro N0 (by rw [freezeRows_length]; exact h0)
          refine ⟨_, _, F1, upd κ l r, rfl, Next'.frozen h0 a1 a2 a3 a5 ⟨t1, t2, ?_, by simp [kills_length], fun i q u c d => ?_⟩⟩
          · obtain ⟨A', c', h4, _⟩ := row_len hro
            rw [upd_same] at h4
            rw [h4]
            exact .own (by simpa [freezeRows_length] using hN) (by rw [upd_same])
          · rw [kills_get, Option.map_eq_some_iff] at c
            obtain ⟨q, c, rfl⟩ := c
            exact ((ht i q u c d).freeze a1).kill _ (fun _ h => h) t3 (by simp [freezeRows_length]) (fun i hi => t4 i (by rw [freezeRows_length]; exact hi))
        | _ => simp [ho] at h
    | _ => exact absurd rfl h

theorem callK_sound (hc : CallerOk E rc) {dr : Bool} {f : FuncId} {args : List PV} {vals : List Value} {K : PV → St → Res β} (h : callK E rc dr f args st K ≠ .stuck) (h0 : N0 ≤ st.heap.length) (s : SI F κ w st.heap) (ht : TR F κ w st tm)
    (hl : vals.length = args.length) (ha : ∀ (i : Nat) (p : PV) (v : Value), args[i]? = some p → vals[i]? = some v → RP F κ st.heap.length w p v) :
    Invokes E.P f vals.toArray w fun v w' => ∃ p st' F' κ', callK E rc dr f args st K = K p st' ∧ Next' N0 F κ w st tm p v F' κ' w' st' := by
  unfold callK at h ⊢
  cases hin : E.inpl f with
  | some g =>
    simp only [hin] at h ⊢
    exact inplK_sound (hc.inpl f g hin) h h0 s ht hl ha
  | none =>
  simp only [hin] at h ⊢
  cases hf' : (bif E.mode f == 3 then none else PV.frzs st.heap args) with
  | some ts =>
    have hf : PV.frzs st.heap args = some ts := by
      cases hm3 : E.mode f == 3 with
      | true => rw [hm3] at hf'; cases hf'
      | false => rw [hm3] at hf'; exact hf'
    simp only [hf'] at h ⊢
    obtain ⟨F1, s1, a1, a2, a3, a4, a5, a6⟩ := freeze_sound (PV.rowss args) s
    obtain ⟨t1, t2⟩ := frzs_sound s ha hf a1 a4
    have ht1 : TR F1 κ w ⟨st.tmps, freezeRows (PV.rowss args) st.heap⟩ tm := fun i q v c d => by simpa [freezeRows_length] using (ht i q v c d).freeze a1
    have h01 : N0 ≤ (freezeRows (PV.rowss args) st.heap).length := by rw [freezeRows_length]; exact h0
    have back : ∀ {p : PV} {v : Value} {F' : Nat → Prop} {κ' : Nat → Value} {w' : World} {st' : St}, Next' N0 F1 κ w ⟨st.tmps, freezeRows (PV.rowss args) st.heap⟩ tm p v F' κ' w' st' → Next' N0 F κ w st tm p v F' κ' w' st' := fun h => h.frozen h0 a1 a2 a3 a5
    match hm : E.mode f with
    | 0 =>
      simp only [hm] at h ⊢
      refine (hc.pure f ts (bind_inv h) F1 w vals (by omega) t2 s1.fl).mono fun v w' => ?_
      rintro ⟨x, F', e1, ho, hg⟩
      rw [e1] at h ⊢
      simp only [Res.bind_ok] at h ⊢
      have hx : Rd F' w' x v := by
        cases ho with
        | frozen _ h => exact h
        | row h => omega
        | tup h => omega
      have hfz : Next' N0 F κ w st tm (.t x) v F' κ w' ⟨st.tmps, freezeRows (PV.rowss args) st.heap⟩ := back (hg.next h01 s1 ht1 (.t hx))
      cases hr : (PV.rowss args).isEmpty with
      | true =>
        rw [hr] at h
        have : PV.rowss args = [] := by simpa using hr
        rw [this] at hfz
        exact ⟨_, _, F', κ, rfl, hfz⟩
      | false =>
        rw [hr] at h
        simp only [cond_false] at h ⊢
        cases hre : retFree E f with
        | true =>
          rw [hre] at h
          simp only [cond_true] at h ⊢
          obtain ⟨h1, h2⟩ := chk_inv h
          rw [h2]
          exact ⟨_, _, F, κ, rfl, Next'.fresh h0 s ht hg.os hg.tape hg.output hg.size hg.old (fun _ h => h) (fun _ h => .inl h) (fun b hb => Nat.lt_of_lt_of_le (s.fl b hb) hg.size) (.t (hx.plain h1))⟩
        | false =>
          rw [hre] at h
          simp only [cond_false] at h ⊢
          obtain ⟨h1, h2⟩ := cond_inv h
          rw [h2]
          exact ⟨_, _, F', κ, rfl, hfz⟩
    | 1 =>
      simp only [hm] at h ⊢
      obtain ⟨h1, h2⟩ := cond_inv h
      rw [h2] at h ⊢
      obtain ⟨⟨e, k⟩, h3, h4⟩ := someK_inv h
      rw [h4] at h ⊢
      refine (hc.pure f ts (bind_inv h) F1 w vals (by omega) t2 s1.fl).mono fun v w' => ?_
      rintro ⟨x, F', e1, ho, hg⟩
      rw [e1] at h ⊢
      simp only [Res.bind_ok] at h ⊢
      cases ho with
      | frozen h => omega
      | tup h => omega
      | @row e' k' xs v _ hr hrow hb =>
        rw [hr] at h3
        injection h3 with h3
        injection h3 with h3 h5
        subst h3
        subst h5
        refine ⟨.own st.heap.length, ⟨st.tmps, freezeRows (PV.rowss args) st.heap ++ [.row e' k' xs]⟩, F', upd κ (freezeRows (PV.rowss args) st.heap).length v, by simp [slT], back ?_⟩
        refine Next'.push h01 s1 ht1 hg.os hg.tape hg.output hg.size hg.old hg.fm hg.fn hg.fl (hrow.ro (upd_same κ _ v)) (fun b hb' => ?_) ?_
        · simp only [blk, upd_same] at hb'; exact hb b hb'
        · obtain ⟨A, c, h6, _⟩ := row_len (hrow.ro (κ := fun _ => v) (N := 0) (l := 0) rfl)
          change v = _ at h6
          subst h6
          have := RP.own (F := F') (κ := upd κ (freezeRows (PV.rowss args) st.heap).length (.slice A xs.length c)) (N := (freezeRows (PV.rowss args) st.heap).length + 1) (w := w') (l := (freezeRows (PV.rowss args) st.heap).length) (by omega) (upd_same κ _ _)
          rw [freezeRows_length] at this ⊢
          exact this
    | m + 2 =>
      simp only [hm] at h ⊢
      obtain ⟨h1, h2⟩ := cond_inv h
      rw [h2] at h ⊢
      obtain ⟨⟨e, k⟩, h3, h4⟩ := someK_inv h
      rw [h4] at h ⊢
      refine (hc.pure f ts (bind_inv h) F1 w vals (by omega) t2 s1.fl).mono fun v w' => ?_
      rintro ⟨x, F', e1, ho, hg⟩
      rw [e1] at h ⊢
      simp only [Res.bind_ok] at h ⊢
      cases ho with
      | frozen h => omega
      | row h => omega
      | @tup e' k' xs ys v vs _ hr hrow hb hcnt hlen hys =>
        rw [hr] at h3
        injection h3 with h3
        injection h3 with h3 h5
        subst h3
        subst h5
        refine ⟨.tup (.own st.heap.length :: ys.map .t), ⟨st.tmps, freezeRows (PV.rowss args) st.heap ++ [.row e' k' xs]⟩, F', upd κ (freezeRows (PV.rowss args) st.heap).length v, ?_, back ?_⟩
        · rw [show retCount E f - 1 = ys.length by omega]
          simp only [compT, List.getElem?_cons_zero, slT, if_true]
          rw [compsK_tup _ _ _ _ (by simp; omega)]
          rfl
        have ro := hrow.ro (κ := upd κ (freezeRows (PV.rowss args) st.heap).length v) (N := (freezeRows (PV.rowss args) st.heap).length + 1) (upd_same κ _ v)
        have hp := Next'.push (p := .junk) h01 s1 ht1 hg.os hg.tape hg.output hg.size hg.old hg.fm hg.fn hg.fl ro (fun b hb' => by simp only [blk, upd_same] at hb'; exact hb b hb') .junk
        refine ⟨hp.si, ?_, ?_, hp.tl, hp.tr⟩
        · have := hp.ev
          exact this
        · refine .tup (vs := v :: vs) (by simp [hlen]) fun i p u g1 g2 => ?_
          cases i with
          | zero =>
            simp at g1 g2
            subst g1
            subst g2
            obtain ⟨A, c, h6, _⟩ := row_len (hrow.ro (κ := fun _ => v) (N := 0) (l := 0) rfl)
            change v = _ at h6
            subst h6
            refine .own (by simp [freezeRows_length]) ?_
            rw [← freezeRows_length (PV.rowss args) st.heap]
            exact upd_same κ _ _
          | succ i =>
            simp only [List.getElem?_cons_succ, List.getElem?_map, Option.map_eq_some_iff] at g1 g2
            obtain ⟨y, g1, rfl⟩ := g1
            exact .t (hys i y u g1 g2)
  | none =>
    simp only [hf'] at h ⊢
    obtain ⟨h1, h2⟩ := cond_inv h
    rw [h2] at h ⊢
    refine (hc.go _ f args _ _ h F κ w vals hl (by rw [hide_len]; exact ha) (s.hide _)).mono fun v w' => ?_
    rintro ⟨r, H', F', κ', e1, e2, e3, e4⟩
    have hn := goBack h0 s ht e2 e3 e4
    obtain ⟨p, st2, κ2, f1, f2⟩ := trimK_sound (K := K) hn.ev.hl hn
    exact ⟨p, st2, F', κ2, e1.trans f1, f2⟩
end
end Go.Sim
