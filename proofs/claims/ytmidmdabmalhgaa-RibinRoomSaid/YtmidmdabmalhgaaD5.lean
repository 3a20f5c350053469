/- Elements, fields, arithmetic, comparisons, lengths, cuts. -/
import Derived.Test.YtmidmdabmalhgaaD4
namespace Go.Sim
open Go.RowKit
set_option linter.unusedVariables false
set_option linter.unusedSimpArgs false

theorem elP_underlying {P : Program} {t e : TypeId} (h : elP P t = some e) : P.underlying t = some (.slice e) := by
  unfold elP at h
  cases hu : P.underlying t with
  | none => simp [hu] at h
  | some d => cases d <;> simp_all
theorem kindP_underlying {P : Program} {t : TypeId} {k : IntKind} (h : kindP P t = some k) : P.underlying t = some (.int k) := by
  unfold kindP at h
  cases hu : P.underlying t with
  | none => simp [hu] at h
  | some d => cases d <;> simp_all

/-! ### wrapping -/
theorem wrap_ok (k : IntKind) (n : Int) : kindOk k (k.wrap n) = true := by
  cases k <;> (simp only [kindOk, IntKind.wrap, IntKind.min, IntKind.max, IntKind.signed, IntKind.bits, Bool.and_eq_true, decide_eq_true_eq]; simp; omega)
theorem tmod_ok {k : IntKind} {a b : Int} (h : kindOk k a = true) : kindOk k (a.tmod b) = true := by
  have h2 : (a.tmod b).natAbs ≤ a.natAbs := by
    rw [Int.natAbs_tmod]
    exact Nat.mod_le _ _
  have h3 : 0 ≤ a → 0 ≤ a.tmod b := fun h => Int.tmod_nonneg _ h
  have h4 : a ≤ 0 → a.tmod b ≤ 0 := fun h => by
    have := Int.tmod_nonneg b (show 0 ≤ -a by omega)
    rw [Int.neg_tmod] at this
    omega
  simp only [kindOk, Bool.and_eq_true, decide_eq_true_eq] at h ⊢
  cases k <;> simp [IntKind.min, IntKind.max, IntKind.signed, IntKind.bits] at h ⊢ <;> omega
theorem fdiv_ok {k : IntKind} {a : Int} (n : Nat) (h : kindOk k a = true) : kindOk k (a.fdiv (2 ^ n)) = true := by
  have hp : (0 : Int) < 2 ^ n := Int.pow_pos (by omega)
  rw [Int.fdiv_eq_ediv_of_nonneg _ (by omega)]
  have h3 : 0 ≤ a → 0 ≤ a / 2 ^ n ∧ a / 2 ^ n ≤ a := fun h => ⟨Int.ediv_nonneg h (by omega), Int.ediv_le_self _ h⟩
  have h4 : a < 0 → a ≤ a / 2 ^ n ∧ a / 2 ^ n < 0 := fun h => by
    refine ⟨?_, Int.ediv_neg_of_neg_of_pos h hp⟩
    rw [Int.le_ediv_iff_mul_le hp]
    have : (1 : Int) ≤ 2 ^ n := by omega
    have h5 := Int.mul_nonneg (show 0 ≤ -a by omega) (show 0 ≤ (2 : Int) ^ n - 1 by omega)
    rw [Int.mul_sub, Int.neg_mul] at h5
    omega
  simp only [kindOk, Bool.and_eq_true, decide_eq_true_eq] at h ⊢
  cases k <;> simp [IntKind.min, IntKind.max, IntKind.signed, IntKind.bits] at h ⊢ <;> omega
theorem kindOk_nat {n : Nat} (h : n ≤ big) : kindOk .i64 (n : Int) = true := by
  unfold big at h
  simp [kindOk, IntKind.min, IntKind.max, IntKind.signed, IntKind.bits]
  omega

section
variable {β : Type} {E : Env} {st : St} {F : Nat → Prop} {κ : Nat → Value} {w : World}

theorem indexK_sound {t : TypeId} {p ix : PV} {K : PV → Res β} {v vi : Value} (h : indexK E st t p ix K ≠ .stuck) (s : SI F κ w st.heap) (hp : RP F κ st.heap.length w p v) (hi : RP F κ st.heap.length w ix vi) :
    ∃ q u, indexK E st t p ix K = K q ∧ (Instr.indexAt t v vi).run E.P w = .ok u w ∧ RP F κ st.heap.length w q u := by
  unfold indexK at h ⊢
  cases he : elP E.P t with
  | none => simp [he] at h
  | some e =>
    cases hs : szP E.P e with
    | none => simp [he, hs] at h
    | some k =>
      simp only [he, hs] at h ⊢
      have hu := elP_underlying he
      cases hi with
      | @t iv vi hi =>
        simp only [] at h ⊢
        obtain ⟨ki, i, rfl, e1⟩ := anyT_inv h
        rw [e1] at h ⊢
        cases hi with
        | int hik =>
          have hrun : ∀ (ad : Addr) (n c : Nat), 0 ≤ i → i.toNat < n → (Instr.indexAt t (.slice (some ad) n c) (.int ki i)).run E.P w = .ok (.pointer (some (ad.add (i.toNat * k)))) w := by
            intro ad n c h0 h1
            have : 0 ≤ i ∧ i < (n : Int) := ⟨h0, by omega⟩
            simp [Instr.indexAt, asIntOf, run_underlying hu, this, run_sizeOf' hs]
          cases hp with
          | @own l A n c hN hl =>
            simp only [] at h ⊢
            cases ho : st.heap[l]? with
            | none => simp [ho] at h
            | some obj =>
              have hro := s.ro l obj ho
              have fin : ∀ {xs : List T} {k' : Nat} (K' : PV → Res β), n = xs.length → (∀ ad, A = some ad → ∃ b, ad = ⟨b, 0, none⟩) → (0 < n → A ≠ none) →
                  (bif k' == k then chk (decide (0 ≤ i) && decide (i < xs.length)) (K' (.eptr l k i.toNat 0)) else .stuck) ≠ .stuck →
                  ∃ q u, (bif k' == k then chk (decide (0 ≤ i) && decide (i < xs.length)) (K' (.eptr l k i.toNat 0)) else .stuck) = K' q ∧ (Instr.indexAt t (.slice A n c) (.int ki i)).run E.P w = .ok u w ∧ RP F κ st.heap.length w q u := by
                intro xs k' K' hn hA hne h
                obtain ⟨hk, e2⟩ := cond_inv' h
                rw [e2] at h ⊢
                obtain ⟨hb, e3⟩ := chk_inv h
                rw [e3]
                simp only [Bool.and_eq_true, decide_eq_true_eq] at hb
                cases A with
                | none => exact absurd rfl (hne (by omega))
                | some ad =>
                  obtain ⟨b, rfl⟩ := hA ad rfl
                  refine ⟨_, _, rfl, hrun _ n c hb.1 (by omega), ?_⟩
                  rw [add_mid, Nat.zero_add]
                  exact .eptr (n := n) (c := c) hN hl (by omega)
              cases obj with
              | row e' k' xs =>
                simp only [ho] at h ⊢
                obtain ⟨cs, h1, _⟩ := hro
                rw [hl] at h1
                rcases h1.2 with ⟨e2, e3⟩ | ⟨g, cap, cur, e2, _⟩
                · injection e2 with e2 e4 e5
                  exact fin K (by omega) (fun ad h => by rw [e2] at h; cases h) (by omega) h
                · injection e2 with e2 e4 e5
                  exact fin K e4 (fun ad h => by rw [e2] at h; injection h with h; exact ⟨g, h.symm⟩) (by rw [e2]; simp) h
              | frow e' k' xs =>
                simp only [ho] at h ⊢
                obtain ⟨r1, r2⟩ := hro
                rw [hl] at r1
                have hn := (sl_len r1).1
                refine fin K hn (fun ad h => r2 ad n c (by rw [hl, h])) (fun h0 => ?_) h
                obtain ⟨b, o, a1, _⟩ := sl_cells r1 (i := 0) (by omega)
                rw [a1]; simp
              | vec e' xs =>
                simp only [ho] at h ⊢
                obtain ⟨hk, e2⟩ := cond_inv' h
                have hk1 : k = 1 := by simpa using hk
                subst hk1
                obtain ⟨b, vs, c', r1, _⟩ := hro
                rw [hl] at r1
                injection r1 with r1 r2 r3
                have := fin (xs := List.replicate xs.length .nilp) (k' := 1) K (by simpa using r2) (fun ad h => by rw [r1] at h; injection h with h; exact ⟨b, h.symm⟩) (by rw [r1]; simp) (by simpa using h)
                simpa using this
              | _ => simp [ho] at h
          | @view l k0 lo hi A0 n0 c0 hN hl =>
            simp only [] at h ⊢
            cases ho : st.heap[l]? with
            | none => simp [ho] at h
            | some obj =>
              have hro := s.ro l obj ho
              cases obj with
              | row e' k' xs =>
                simp only [ho] at h ⊢
                obtain ⟨hk, e2⟩ := cond_inv' h
                rw [e2] at h ⊢
                obtain ⟨hb, e3⟩ := chk_inv h
                rw [e3]
                simp only [Bool.and_eq_true, beq_iff_eq, decide_eq_true_eq] at hb hk
                obtain ⟨⟨rfl, rfl⟩, hx⟩ := hk
                obtain ⟨A, n, c, A', ⟨v1, vb⟩, v2, v3, v4, v5⟩ := hl
                injection v2 with v2 v7 v8
                subst v2; subst v7; subst v8
                obtain ⟨cs, h1, _⟩ := hro
                rw [v1] at h1
                rcases h1.2 with ⟨q2, q3⟩ | ⟨g, cap, cur, q2, _, _, q5, _⟩
                · injection q2 with q2 q4 q5; omega
                · injection q2 with q2 q4 q5'
                  rcases v5 with ⟨rfl, _⟩ | ⟨b, o, rfl, rfl, v6⟩
                  · cases q2
                  · refine ⟨_, _, rfl, hrun _ _ _ hb.1 (by omega), ?_⟩
                    rw [add_mid, v6 (by omega), ← Nat.add_mul]
                    exact .eptr (n := n) (c := c) (o := 0) hN v1 (by omega)
              | _ => simp [ho] at h
          | @full k' xs A hx =>
            simp only [] at h ⊢
            obtain ⟨hk, e2⟩ := cond_inv' h
            rw [e2] at h ⊢
            have hk' : k' = k := by simpa using hk
            subst hk'
            obtain ⟨y, h0, h1, h2, e3⟩ := atT_inv h
            rw [e3]
            obtain ⟨b, o, a1, a2, val, g1, g2, g3, g4, g5⟩ := sl_cells hx h1
            subst a1
            rw [getD_of h2] at g1 g2 g5
            refine ⟨_, _, rfl, hrun _ _ _ h0 h1, ?_⟩
            rw [add_mid]
            exact .rp (p := o + i.toNat * k') (o := 0) val a2 g1 g2 g3 g4 g5
          | @t x v hx =>
            simp only [] at h ⊢
            obtain ⟨xs, rfl, e2⟩ := slT_inv h
            rw [e2] at h ⊢
            obtain ⟨y, h0, h1, h2, e3⟩ := atT_inv h
            rw [e3]
            cases v with
            | slice A n c =>
              obtain ⟨b, o, a1, a2, val, g1, g2, g3, g4, g5⟩ := sl_cells hx h1
              have hn := (sl_len hx).1
              subst a1
              rw [getD_of h2] at g1 g2 g5
              refine ⟨_, _, rfl, hrun _ _ _ h0 (by omega), ?_⟩
              rw [add_mid]
              exact .rp (p := o + i.toNat * k) (o := 0) val a2 g1 g2 g3 g4 g5
            | _ => cases hx
          | _ => exact absurd rfl h
      | _ => exact absurd rfl h

theorem fieldAddrK_sound {t : TypeId} {f : Nat} {p : PV} {K : PV → Res β} {v : Value} (h : fieldAddrK E t f p K ≠ .stuck) (hp : RP F κ st.heap.length w p v) :
    ∃ q u, fieldAddrK E t f p K = K q ∧ (Instr.fieldAt t v f).run E.P w = .ok u w ∧ RP F κ st.heap.length w q u := by
  unfold fieldAddrK at h ⊢
  cases hf : fieldP E.P t f with
  | none => simp [hf] at h
  | some of =>
    obtain ⟨off, ft⟩ := of
    simp only [hf] at h ⊢
    have hfield : ∃ fs fd, E.P.underlying t = some (.struct fs) ∧ fs[f]? = some fd ∧ fd.offset = off ∧ fd.type = ft := by
      unfold fieldP at hf
      cases hu : E.P.underlying t with
      | none => simp [hu] at hf
      | some d =>
        cases d <;> simp [hu, Option.map_eq_some_iff] at hf
        obtain ⟨fd, h1, h2, h3⟩ := hf
        exact ⟨_, fd, rfl, h1, h2, h3⟩
    obtain ⟨fs, fd, hu, hfd, rfl, rfl⟩ := hfield
    cases hs : szP E.P fd.type with
    | none => simp [hs] at h
    | some sz =>
      cases sz with
      | zero => simp [hs] at h
      | succ sz =>
        simp only [hs] at h ⊢
        have hrun : ∀ b o, (Instr.fieldAt t (.pointer (some ⟨b, o, none⟩)) f).run E.P w = .ok (.pointer (some ⟨b, o + fd.offset, none⟩)) w := by
          intro b o
          simp [Instr.fieldAt, run_underlying hu, hfd, Instr.sureAddr, fieldPlace, run_sizeOf' hs, add_mid]
        cases hp with
        | ptr hN hl => exact ⟨_, _, rfl, hrun _ _, .ptr hN hl⟩
        | @eptr l k i o b n c hN hl hi =>
          refine ⟨_, _, rfl, hrun _ _, ?_⟩
          rw [Nat.add_assoc]
          exact .eptr hN hl hi
        | @rp k x o b p val hF hk hs' h1 hc hr =>
          refine ⟨_, _, rfl, hrun _ _, ?_⟩
          rw [Nat.add_assoc]
          exact .rp val hF hk hs' h1 hc hr
        | @t x v hx =>
          simp only [] at h ⊢
          cases hn : szP E.P t with
          | none => simp [hn] at h
          | some n =>
            simp only [hn] at h ⊢
            obtain ⟨y, rfl, e1⟩ := ptrT_inv h
            rw [e1] at h ⊢
            obtain ⟨h5, e2⟩ := chk_inv h
            rw [e2]
            have h5' : y.cells.length = n := by simpa using h5
            cases hx with
            | ref val hF hs' h1 hc hr =>
              exact ⟨_, _, rfl, hrun _ _, .rp val hF h5' (fun h => hs' (by omega)) (fun j hj => h1 j (by omega)) (fun j hj => hc j (by omega)) hr⟩
        | _ => exact absurd rfl h
end

/-! ### '==' by cells -/
theorem eqLs_append : ∀ (l1 l2 : List Nat) (xs ys : List T) (b : Bool), T.eqLs (l1 ++ l2) xs ys = some b →
    ∃ b1 b2, T.eqLs l1 (xs.take l1.length) (ys.take l1.length) = some b1 ∧ T.eqLs l2 (xs.drop l1.length) (ys.drop l1.length) = some b2 ∧ b = (b1 && b2)
  | [], l2, xs, ys, b, h => ⟨true, b, by simp [T.eqLs], by simpa using h, by simp⟩
  | k :: l1, l2, xs, ys, b, h => by
    have step : ∀ (c : Bool) (xs ys : List T), (T.eqLs (l1 ++ l2) xs ys).map (c && ·) = some b →
        ∃ b1 b2, (T.eqLs l1 (xs.take l1.length) (ys.take l1.length)).map (c && ·) = some b1 ∧ T.eqLs l2 (xs.drop l1.length) (ys.drop l1.length) = some b2 ∧ b = (b1 && b2) := by
      intro c xs ys h
      simp only [Option.map_eq_some_iff] at h
      obtain ⟨b', h1, h2⟩ := h
      obtain ⟨b1, b2, h3, h4, h5⟩ := eqLs_append l1 l2 xs ys b' h1
      exact ⟨c && b1, b2, by simp [h3], h4, by rw [← h2, h5, Bool.and_assoc]⟩
    rw [List.cons_append] at h
    unfold T.eqLs at h
    split at h
    · simp_all
    · rename_i h3
      injection h3 with h1 h1'
      subst h1 h1'
      split at h
      · rename_i hk
        obtain ⟨b1, b2, h3, h4, h5⟩ := step _ _ _ h
        exact ⟨b1, b2, by simpa [T.eqLs, hk] using h3, by simpa using h4, h5⟩
      · cases h
    · rename_i h3
      injection h3 with h1 h1'
      subst h1 h1'
      obtain ⟨b1, b2, h3, h4, h5⟩ := step _ _ _ h
      exact ⟨b1, b2, by simpa [T.eqLs] using h3, by simpa using h4, h5⟩
    · rename_i h3
      injection h3 with h1 h1'
      subst h1 h1'
      obtain ⟨b1, b2, h3, h4, h5⟩ := step _ _ _ h
      exact ⟨b1, b2, by simpa [T.eqLs] using h3, by simpa using h4, h5⟩
    · cases h

/-- A type's value out of its cells. -/
def valOf (a : Bool) (vs : List Value) : Value := if a then .agg vs.toArray else vs.getD 0 undef

section
variable {P : Program}
theorem run_part_of {t : TypeId} {s : Nat} {a : Bool} (hs : szP P t = some s) (ha : aggP P t = some a) (h1 : a = true ∨ s = 1) (w : World) (vs : List Value) (o : Nat) (hl : o + s ≤ vs.length) :
    (part t vs.toArray o).run P w = .ok (valOf a ((vs.drop o).take s)) w := by
  simp only [part, Sem.run_bind, run_isAgg' ha, Result.andThen_ok]
  cases a with
  | true =>
    simp only [if_true, Sem.run_bind, run_sizeOf' hs, Result.andThen_ok, Sem.run_pure, valOf]
    congr 2
    apply Array.ext'
    simp [Array.toList_extract, List.extract_eq_take_drop]
  | false =>
    obtain rfl : s = 1 := by simpa using h1
    have ho : o < vs.length := by omega
    simp [valOf, List.getElem?_eq_getElem ho, List.getD_eq_getElem?_getD, List.getElem?_take]

theorem aggP_struct {t : TypeId} {fs : Array Field} (h : P.underlying t = some (.struct fs)) : aggP P t = some true := by simp [aggP, h]

theorem eq_sound (D : Nat) : ∀ (d : Nat) (t : TypeId) (l : List Nat), eqLv P d t = some l → ∀ (a : Bool), aggP P t = some a → ∀ (F : Nat → Prop) (w : World) (xs ys : List T) (vs us : List Value) (b : Bool),
    vs.length = l.length → us.length = l.length → xs.length = l.length → ys.length = l.length →
    (∀ (i : Nat) (x : T) (v : Value), xs[i]? = some x → vs[i]? = some v → Rd F w x v) → (∀ (i : Nat) (x : T) (v : Value), ys[i]? = some x → us[i]? = some v → Rd F w x v) →
    T.eqLs l xs ys = some b → (Op.equalIn (D + d) t (valOf a vs) (valOf a us)).run P w = .ok b w
  | 0, t, l, h => by simp [eqLv] at h
  | d + 1, t, l, h => by
    intro a ha F w xs ys vs us b hv hu hx hy rx ry he
    unfold eqLv at h
    have one : ∀ {k : Nat}, l = [k] → a = false → ∃ x y v u, xs = [x] ∧ ys = [y] ∧ vs = [v] ∧ us = [u] ∧ Rd F w x v ∧ Rd F w y u := by
      intro k hl _
      subst hl
      match xs, ys, vs, us, hx, hy, hv, hu with
      | [x], [y], [v], [u], _, _, _, _ => exact ⟨x, y, v, u, rfl, rfl, rfl, rfl, rx 0 x v rfl rfl, ry 0 y u rfl rfl⟩
    cases hd : P.underlying t with
    | none => simp [hd] at h
    | some kd =>
      cases kd with
      | int k =>
        simp only [hd, Option.some.injEq] at h
        have ha' : a = false := by simpa [aggP, hd] using ha.symm
        obtain ⟨x, y, v, u, rfl, rfl, rfl, rfl, r1, r2⟩ := one h.symm ha'
        subst h; subst ha'
        cases x <;> cases y <;> simp [T.eqLs] at he
        cases r1; cases r2
        obtain ⟨rfl, he⟩ := he
        simp only [valOf, Bool.false_eq_true, if_false, List.getD_cons_zero]
        rw [show D + (d + 1) = (D + d) + 1 from rfl, run_equalIn_int w (D + d) t _ k _ _ hd, ← he]
      | bool =>
        simp only [hd, Option.some.injEq] at h
        have ha' : a = false := by simpa [aggP, hd] using ha.symm
        obtain ⟨x, y, v, u, rfl, rfl, rfl, rfl, r1, r2⟩ := one h.symm ha'
        subst h; subst ha'
        cases x <;> cases y <;> simp [T.eqLs] at he
        cases r1; cases r2
        simp only [valOf, Bool.false_eq_true, if_false, List.getD_cons_zero]
        rw [show D + (d + 1) = (D + d) + 1 from rfl, run_equalIn_bool' w (D + d) t _ _ hd, ← he]
      | string =>
        simp only [hd, Option.some.injEq] at h
        have ha' : a = false := by simpa [aggP, hd] using ha.symm
        obtain ⟨x, y, v, u, rfl, rfl, rfl, rfl, r1, r2⟩ := one h.symm ha'
        subst h; subst ha'
        cases x <;> cases y <;> simp [T.eqLs] at he
        cases r1; cases r2
        simp only [valOf, Bool.false_eq_true, if_false, List.getD_cons_zero]
        rw [show D + (d + 1) = (D + d) + 1 from rfl, run_equalIn_string w (D + d) t _ _ hd, ← he, beq_toListBytes]
      | struct fs =>
        simp only [hd] at h
        have ha' : a = true := by simpa [aggP, hd] using ha.symm
        subst ha'
        cases hst : P.stoodInHeld t with
        | true => simp [hst] at h
        | false =>
          simp only [hst, cond_false] at h
          have hfs : P.fieldsOf t = fs := by simp [Program.fieldsOf, hd]
          have hrun := run_equalIn_struct w (D + d) t vs.toArray us.toArray (by rw [hfs]; exact hd) hst
          rw [hfs] at hrun
          rw [show D + (d + 1) = (D + d) + 1 from rfl]
          show (Op.equalIn (D + d + 1) t (.agg vs.toArray) (.agg us.toArray)).run P w = _
          rw [hrun]
          clear hrun hfs hd
          have key : ∀ (fl : List Field) (off : Nat) (l : List Nat) (b : Bool), eqLvs P (eqLv P d) fl off = some l → vs.length = off + l.length → us.length = off + l.length → xs.length = off + l.length → ys.length = off + l.length →
              T.eqLs l (xs.drop off) (ys.drop off) = some b → (Op.eqFields (D + d) vs.toArray us.toArray fl).run P w = .ok b w := by
            intro fl
            induction fl with
            | nil =>
              intro off l b h1 _ _ _ _ h2
              simp [eqLvs] at h1
              subst h1
              have : b = true := by
                unfold T.eqLs at h2
                split at h2 <;> simp_all
              subst this
              simp [Op.eqFields]
            | cons f fl ih =>
              intro off l b h1 hv hu hx hy h2
              unfold eqLvs at h1
              cases hg : (f.name == "_" || !(f.offset == off)) with
              | true => simp [hg] at h1
              | false =>
                simp only [hg, cond_false] at h1
                simp only [Bool.or_eq_false_iff, Bool.not_eq_false', beq_iff_eq, beq_eq_false_iff_ne] at hg
                cases e1 : eqLv P d f.type with
                | none => simp [e1] at h1
                | some l1 =>
                  cases e2 : szP P f.type with
                  | none => simp [e1, e2] at h1
                  | some s =>
                    cases e3 : aggP P f.type with
                    | none => simp [e1, e2, e3] at h1
                    | some af =>
                      simp only [e1, e2, e3] at h1
                      cases hc : (l1.length == s && (af || s == 1)) with
                      | false => simp [hc] at h1
                      | true =>
                        simp only [hc, cond_true, Option.map_eq_some_iff] at h1
                        obtain ⟨l2, h3, rfl⟩ := h1
                        simp only [Bool.and_eq_true, Bool.or_eq_true, beq_iff_eq] at hc
                        obtain ⟨rfl, hc2⟩ := hc
                        rw [List.length_append] at hv hu hx hy
                        obtain ⟨b1, b2, h4, h5, rfl⟩ := eqLs_append l1 l2 _ _ _ h2
                        rw [List.drop_drop] at h5
                        rw [List.drop_drop] at h5
                        have r1 := eq_sound D d f.type l1 e1 af e3 F w ((xs.drop off).take l1.length) ((ys.drop off).take l1.length) ((vs.drop off).take l1.length) ((us.drop off).take l1.length) b1
                          (by simp; omega) (by simp; omega) (by simp; omega) (by simp; omega)
                          (fun i x v g1 g2 => by
                            rw [List.getElem?_take] at g1 g2
                            split at g1
                            · rename_i hi
                              rw [if_pos hi] at g2
                              rw [List.getElem?_drop] at g1 g2
                              exact rx _ _ _ g1 g2
                            · cases g1)
                          (fun i x v g1 g2 => by
                            rw [List.getElem?_take] at g1 g2
                            split at g1
                            · rename_i hi
                              rw [if_pos hi] at g2
                              rw [List.getElem?_drop] at g1 g2
                              exact ry _ _ _ g1 g2
                            · cases g1) h4
                        have r2 := ih (off + l1.length) l2 b2 h3 (by omega) (by omega) (by omega) (by omega) h5
                        simp only [Op.eqFields, ne_eq, hg.1, not_false_eq_true, if_true, Sem.run_bind]
                        rw [hg.2, run_part_of e2 e3 hc2 w vs off (by omega)]
                        simp only [Result.andThen_ok]
                        rw [run_part_of e2 e3 hc2 w us off (by omega)]
                        simp only [Result.andThen_ok, r1]
                        cases b1
                        · simp
                        · simpa using r2
          exact key fs.toList 0 l b h (by omega) (by omega) (by omega) (by omega) (by simpa using he)
      | _ => simp [hd] at h
end
end Go.Sim
