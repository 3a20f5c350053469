/- binOp, unOp, convert; slices that are read, cut, measured. -/
import Derived.Test.YtmidmdabmalhgaaD6
namespace Go.Sim
open Go.RowKit
set_option linter.unusedVariables false
set_option linter.unusedSimpArgs false

section
variable {β : Type} {E : Env} {st : St} {F : Nat → Prop} {κ : Nat → Value} {w : World}

theorem binK_sound {op : BinOp} {t t' : TypeId} {x y : Operand} {px py : PV} {K : PV → Res β} {vx vy : Value} {N : Nat} (h : binK E op t t' x y px py K ≠ .stuck) (hx : RP F κ N w px vx) (hy : RP F κ N w py vy) (ix : Is x vx) (iy : Is y vy) :
    ∃ q u, binK E op t t' x y px py K = K q ∧ (do eqGuard op t x y vx vy; binOp op t vx vy : Sem Value).run E.P w = .ok u w ∧ RP F κ N w q u := by
  unfold binK at h ⊢
  cases hk : kindP E.P t with
  | some k =>
    simp only [hk] at h ⊢
    have hsh : (op = .shl ∨ op = .shr) → ∃ q u, binK E op t t' x y px py K = K q ∧ (do eqGuard op t x y vx vy; binOp op t vx vy : Sem Value).run E.P w = .ok u w ∧ RP F κ N w q u := by
      intro ho
      unfold binK
      simp only [hk]
      have key : ∀ k', kindP E.P t' = some k' → (match px, py with
          | .t a, .t b => iT k a fun a => iT k' b fun b => shiftK op k a b fun r => K (.t r)
          | _, _ => .stuck) ≠ .stuck → ∃ q u, (match px, py with
          | .t a, .t b => iT k a fun a => iT k' b fun b => shiftK op k a b fun r => K (.t r)
          | _, _ => .stuck) = K q ∧ (do eqGuard op t x y vx vy; binOp op t vx vy : Sem Value).run E.P w = .ok u w ∧ RP F κ N w q u := by
        intro k' hk' h
        cases hx with
        | @t a _ r1 =>
          cases hy with
          | @t b _ r2 =>
            simp only [] at h ⊢
            obtain ⟨n, rfl, e1⟩ := iT_inv h
            rw [e1] at h ⊢
            obtain ⟨m, rfl, e2⟩ := iT_inv h
            rw [e2] at h ⊢
            cases r1 with
            | int h1 =>
              cases r2 with
              | int h2 =>
                obtain ⟨q, u, e3, e4, e5⟩ := shiftK_sound (E := E) (F := F) (w := w) (t := t) (k' := k') h h1
                exact ⟨_, u, e3, by simp only [Sem.run_bind, run_eqGuard_int, Result.andThen_ok, e4], .t e5⟩
          | _ => exact absurd rfl h
        | _ => exact absurd rfl h
      rcases ho with rfl | rfl
      · simp only [] at h ⊢
        cases hk' : kindP E.P t' with
        | none => simp [hk'] at h
        | some k' => simp only [hk'] at h ⊢; exact key k' hk' h
      · simp only [] at h ⊢
        cases hk' : kindP E.P t' with
        | none => simp [hk'] at h
        | some k' => simp only [hk'] at h ⊢; exact key k' hk' h
    have har : (op ≠ .shl ∧ op ≠ .shr) → (match px, py with
          | .t a, .t b => iT k a fun a => iT k b fun b => arithK op k a b fun r => K (.t r)
          | _, _ => .stuck) ≠ .stuck → ∃ q u, (match px, py with
          | .t a, .t b => iT k a fun a => iT k b fun b => arithK op k a b fun r => K (.t r)
          | _, _ => .stuck) = K q ∧ (do eqGuard op t x y vx vy; binOp op t vx vy : Sem Value).run E.P w = .ok u w ∧ RP F κ N w q u := by
      intro ho h
      cases hx with
      | @t a _ r1 =>
        cases hy with
        | @t b _ r2 =>
          simp only [] at h ⊢
          obtain ⟨n, rfl, e1⟩ := iT_inv h
          rw [e1] at h ⊢
          obtain ⟨m, rfl, e2⟩ := iT_inv h
          rw [e2] at h ⊢
          cases r1 with
          | int h1 =>
            cases r2 with
            | int h2 =>
              obtain ⟨q, u, e3, e4, e5⟩ := arithK_sound (E := E) (F := F) (w := w) (t := t) ho h h1 h2
              exact ⟨_, u, e3, by simp only [Sem.run_bind, run_eqGuard_int, Result.andThen_ok, e4], .t e5⟩
        | _ => exact absurd rfl h
      | _ => exact absurd rfl h
    cases op with
    | shl => have := hsh (.inl rfl); unfold binK at this; simpa only [hk] using this
    | shr => have := hsh (.inr rfl); unfold binK at this; simpa only [hk] using this
    | _ => exact har ⟨by simp, by simp⟩ h
  | none =>
    simp only [hk] at h ⊢
    cases op with
    | eql =>
      obtain ⟨b, e1, e2, _⟩ := eqK_sound h hx hy ix iy hk
      exact ⟨_, _, e1, e2, .t .bool⟩
    | neq =>
      obtain ⟨b, e1, _, e2⟩ := eqK_sound h hx hy ix iy hk
      exact ⟨_, _, e1, e2, .t .bool⟩
    | _ => exact absurd rfl h

theorem unK_sound {op : UnOp} {t : TypeId} {p : PV} {K : PV → Res β} {v : Value} {N : Nat} (h : unK E op t p K ≠ .stuck) (hp : RP F κ N w p v) :
    ∃ q u, unK E op t p K = K q ∧ (Op.unary op v).run E.P w = .ok u w ∧ RP F κ N w q u := by
  unfold unK at h ⊢
  cases hp with
  | @t x _ r =>
    cases op with
    | not =>
      simp only [] at h ⊢
      obtain ⟨b, rfl, e⟩ := bT_inv h
      rw [e]
      cases r
      exact ⟨_, _, rfl, by simp [Op.unary], .t .bool⟩
    | neg =>
      simp only [] at h ⊢
      obtain ⟨k, hk, e⟩ := someK_inv h
      rw [e] at h ⊢
      obtain ⟨n, rfl, e2⟩ := iT_inv h
      rw [e2]
      cases r
      exact ⟨_, _, rfl, by simp [Op.unary, Op.intArith], .t (.int (wrap_ok _ _))⟩
    | _ => exact absurd rfl h
  | _ => cases op <;> exact absurd rfl h

theorem convK_sound {s d : TypeId} {p : PV} {K : PV → Res β} {v : Value} {N : Nat} (h : convK E s d p K ≠ .stuck) (hp : RP F κ N w p v) :
    ∃ q u, convK E s d p K = K q ∧ (convert s d v).run E.P w = .ok u w ∧ RP F κ N w q u := by
  unfold convK at h ⊢
  cases hp with
  | @t x _ r =>
    simp only [] at h ⊢
    obtain ⟨k, hk, e⟩ := someK_inv h
    rw [e] at h ⊢
    obtain ⟨k', hk', e'⟩ := someK_inv h
    rw [e'] at h ⊢
    obtain ⟨n, rfl, e2⟩ := iT_inv h
    rw [e2]
    cases r
    exact ⟨_, _, rfl, by simp [convert, run_underlying (kindP_underlying hk), run_underlying (kindP_underlying hk'), Conv.intToInt], .t (.int (wrap_ok _ _))⟩
  | _ => exact absurd rfl h

/-! ### slices -/
/-- What is known of a slice whose elements are read. -/
def SlV (F : Nat → Prop) (κ : Nat → Value) (w : World) (H : List AObj) (k : Nat) (xs : List T) (p : PV) (v : Value) : Prop :=
  ∃ A n c, v = .slice A n c ∧ n = xs.length ∧ n ≤ c ∧ xs.length ≤ big ∧ (∀ x ∈ xs, x.cells.length = k ∧ (k = 1 → x.isAgg = false)) ∧
    (∃ (b o : Nat) (val : Nat → Nat → Value), (0 < n → A = some ⟨b, o, none⟩ ∧ (F b ∨ ∃ l e xs', l ∈ p.rows ∧ H[l]? = some (.row e k xs') ∧ (κ l).ownBlock = some b)) ∧
      (∀ i j, i < xs.length → j < k → (val i j).oneCell' = true) ∧ (∀ i j, i < xs.length → j < k → w.cell? ⟨b, o + i * k + j, none⟩ = some (val i j)) ∧
      (∀ (i : Nat) (x : T) (j : Nat) (y : T), xs[i]? = some x → x.cells[j]? = some y → Rd F w y (val i j)))

theorem SlV.of_sl {H : List AObj} {k : Nat} {xs : List T} {p : PV} {v : Value} (h : Rd F w (.sl k xs) v) : SlV F κ w H k xs p v := by
  cases h with
  | @sl _ _ A c b o val hn hb hk hA h1 hc hr => exact ⟨A, _, c, rfl, rfl, hn, hb, hk, b, o, val, fun h => ⟨(hA h).1, .inl (hA h).2⟩, h1, hc, hr⟩
theorem SlV.of_row {H : List AObj} {N l e k : Nat} {xs : List T} (h : RO F κ N w l (.row e k xs)) (ho : H[l]? = some (.row e k xs)) : SlV F κ w H k xs (.own l) (κ l) := by
  obtain ⟨cs, h1, h2, h3, h4, h5⟩ := h
  have hcs : cs.length = xs.length * k := h1.1
  have hin : ∀ i j, i < xs.length → j < k → i * k + j < cs.length := fun i j hi hj => by
    rw [hcs]
    calc i * k + j < i * k + k := by omega
      _ = (i + 1) * k := by rw [Nat.succ_mul]
      _ ≤ xs.length * k := Nat.mul_le_mul_right _ hi
  rcases h1.2 with ⟨e1, e2⟩ | ⟨g, cap, cur, e1, e2, e3, e4, e5, e6, e7⟩
  · refine ⟨none, 0, 0, e1, by omega, by omega, h2, h3, 0, 0, fun _ _ => undef, fun h => by omega, fun i j hi => by omega, fun i j hi => by omega, fun i x j y hx => ?_⟩
    have := (List.getElem?_eq_some_iff.1 hx).1
    omega
  · refine ⟨_, _, cap, e1, rfl, e4, h2, h3, g, 0, fun i j => cs.getD (i * k + j) undef, fun _ => ⟨rfl, .inr ⟨l, e, xs, by simp [PV.rows], ho, by rw [e1]; rfl⟩⟩, fun i j hi hj => ?_, fun i j hi hj => ?_, fun i x j y hx hy => ?_⟩
    · show (cs.getD (i * k + j) undef).oneCell' = true
      rw [List.getD_eq_getElem?_getD, List.getElem?_eq_getElem (hin i j hi hj)]; exact h4 _ (List.getElem_mem _)
    · have := h1.cells (g := g) (by rw [e1]; rfl) (i * k + j) (cs.getD (i * k + j) undef) (by rw [List.getD_eq_getElem?_getD, List.getElem?_eq_getElem (hin i j hi hj)]; rfl)
      rw [add_mid, Nat.zero_add] at this
      rwa [Nat.zero_add]
    · have hi : i < xs.length := (List.getElem?_eq_some_iff.1 hx).1
      have hj : j < k := by rw [← (h3 x (List.mem_of_getElem? hx)).1]; exact (List.getElem?_eq_some_iff.1 hy).1
      exact h5 i x j y _ hx hy (by show cs[i * k + j]? = some (cs.getD (i * k + j) undef); rw [List.getD_eq_getElem?_getD, List.getElem?_eq_getElem (hin i j hi hj)]; rfl)

/-- A part of a row. -/
theorem SlV.view {H : List AObj} {k lo hi l : Nat} {xs : List T} {p : PV} {r v : Value} (hv : ViewV r v k lo hi) (h : SlV F κ w H k xs p r) (hp : p.rows = [l]) (hh : hi ≤ xs.length) :
    SlV F κ w H k ((xs.take hi).drop lo) (.view l k lo hi) v := by
  obtain ⟨A, n, c, A', ⟨rfl, vb⟩, rfl, h1, h2, h3⟩ := hv
  obtain ⟨B, n', c', e1, rfl, e3, e4, e5, b, o, val, e6, e7, e8, e9⟩ := h
  injection e1 with q1 q2 q3
  subst q1; subst q2; subst q3
  have hlen : ((xs.take hi).drop lo).length = hi - lo := by simp; omega
  have hget : ∀ (i : Nat) (x : T), ((xs.take hi).drop lo)[i]? = some x → xs[lo + i]? = some x := by
    intro i x hx
    rw [List.getElem?_drop, List.getElem?_take] at hx
    split at hx
    · exact hx
    · cases hx
  refine ⟨_, _, _, rfl, hlen.symm, by omega, by omega, fun x hx => e5 x (List.mem_of_mem_take (List.mem_of_mem_drop hx)), b, o + lo * k, fun i j => val (lo + i) j, fun h0 => ?_, fun i j hi' hj => e7 _ _ (by omega) hj, fun i j hi' hj => ?_, fun i x j y hx hy => e9 _ x j y (hget i x hx) hy⟩
  · obtain ⟨a1, a2⟩ := e6 (by omega)
    refine ⟨?_, ?_⟩
    · rcases h3 with ⟨rfl, _⟩ | ⟨b', o', rfl, rfl, h4⟩
      · cases a1
      · injection a1 with a1; injection a1 with a1 a3 a4; subst a1
        rw [h4 (by omega)]
        rw [show o = 0 from a3.symm]; simp
    · rcases a2 with a2 | ⟨l', e', xs', b1, b2, b3⟩
      · exact .inl a2
      · rw [hp] at b1
        exact .inr ⟨l', e', xs', by simpa [PV.rows] using b1, b2, b3⟩
  · have := e8 (lo + i) j (by omega) hj
    rw [Nat.add_mul] at this
    rw [show o + lo * k + i * k + j = o + (lo * k + i * k) + j by omega]
    exact this

theorem elemsK_sound {k : Nat} {p : PV} {K : List T → Res β} {v : Value} (h : elemsK st k p K ≠ .stuck) (s : SI F κ w st.heap) (hp : RP F κ st.heap.length w p v) :
    ∃ xs, elemsK st k p K = K xs ∧ SlV F κ w st.heap k xs p v := by
  unfold elemsK at h ⊢
  cases hp with
  | nil => exact ⟨[], rfl, none, 0, 0, rfl, rfl, by omega, by simp, by simp, 0, 0, fun _ _ => undef, by omega, fun i j hi => by simp at hi, fun i j hi => by simp at hi, fun i x j y hx => by simp at hx⟩
  | @own l A n c hN hl =>
    simp only [] at h ⊢
    cases ho : st.heap[l]? with
    | none => simp [ho] at h
    | some obj =>
      have hro := s.ro l obj ho
      cases obj with
      | row e k' xs =>
        simp only [ho] at h ⊢
        obtain ⟨h1, h2⟩ := cond_inv' h
        obtain rfl : k' = k := by simpa using h1
        exact ⟨xs, h2, by rw [← hl]; exact SlV.of_row hro ho⟩
      | frow e k' xs =>
        simp only [ho] at h ⊢
        obtain ⟨h1, h2⟩ := cond_inv' h
        obtain rfl : k' = k := by simpa using h1
        exact ⟨xs, h2, by rw [← hl]; exact SlV.of_sl hro.1⟩
      | _ => simp [ho] at h
  | @view l k0 lo hi _ _ _ hN hl =>
    simp only [] at h ⊢
    cases ho : st.heap[l]? with
    | none => simp [ho] at h
    | some obj =>
      have hro := s.ro l obj ho
      cases obj with
      | row e k' xs =>
        simp only [ho] at h ⊢
        obtain ⟨h1, h2⟩ := cond_inv' h
        simp only [Bool.and_eq_true, beq_iff_eq, decide_eq_true_eq] at h1
        obtain ⟨⟨⟨rfl, rfl⟩, _⟩, h3⟩ := h1
        exact ⟨_, h2, SlV.view hl (SlV.of_row hro ho) (by simp [PV.rows]) h3⟩
      | frow e k' xs =>
        simp only [ho] at h ⊢
        obtain ⟨h1, h2⟩ := cond_inv' h
        simp only [Bool.and_eq_true, beq_iff_eq, decide_eq_true_eq] at h1
        obtain ⟨⟨⟨rfl, rfl⟩, _⟩, h3⟩ := h1
        exact ⟨_, h2, SlV.view (p := .own l) hl (SlV.of_sl hro.1) (by simp [PV.rows]) h3⟩
      | _ => simp [ho] at h
  | @full k' xs A hx =>
    simp only [] at h ⊢
    obtain ⟨h1, h2⟩ := cond_inv' h
    obtain rfl : k' = k := by simpa using h1
    exact ⟨xs, h2, SlV.of_sl hx⟩
  | @t x _ hx =>
    simp only [] at h ⊢
    obtain ⟨xs, rfl, e⟩ := slT_inv h
    exact ⟨xs, e, SlV.of_sl hx⟩
  | _ => exact absurd rfl h
end
end Go.Sim
