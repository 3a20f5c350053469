/- Cuts, appends, makes: operations on slices that turn memory. -/
import Derived.Test.YtmidmdabmalhgaaD8
namespace Go.Sim
open Go.RowKit
set_option linter.unusedVariables false
set_option linter.unusedSimpArgs false

/-- A step from st to st', which hands back p. -/
structure Next' (N0 : Nat) (F : Nat → Prop) (κ : Nat → Value) (w : World) (st : St) (tm : Array Value) (p : PV) (u : Value) (F' : Nat → Prop) (κ' : Nat → Value) (w' : World) (st' : St) : Prop where
  si : SI F' κ' w' st'.heap
  ev : Ev N0 F κ w st.heap F' κ' w' st'.heap
  rp : RP F' κ' st'.heap.length w' p u
  tl : st'.tmps.length = st.tmps.length
  tr : ∀ (i : Nat) (q : PV) (v : Value), st'.tmps[i]? = some q → tm[i]? = some v → RP F' κ' st'.heap.length w' q v

def TR (F : Nat → Prop) (κ : Nat → Value) (w : World) (st : St) (tm : Array Value) : Prop := ∀ (i : Nat) (q : PV) (v : Value), st.tmps[i]? = some q → tm[i]? = some v → RP F κ st.heap.length w q v

section
variable {β : Type} {E : Env} {st : St} {F : Nat → Prop} {κ : Nat → Value} {w : World} {N0 : Nat} {tm : Array Value}

theorem Next'.same (h0 : N0 ≤ st.heap.length) (s : SI F κ w st.heap) (ht : TR F κ w st tm) {p : PV} {u : Value} (hp : RP F κ st.heap.length w p u) : Next' N0 F κ w st tm p u F κ w st :=
  ⟨s, Ev.refl h0, hp, rfl, ht⟩

theorem run_sliceBound' (P : Program) (k : IntKind) (i y : Nat) (code : BoundsCode) (h : i ≤ y) (w : World) : (Instr.sliceBound (.int k (i : Int)) y code).run P w = .ok i w := by
  have : (0 : Int) ≤ i ∧ (i : Int) ≤ y := ⟨by omega, by omega⟩
  simp [Instr.sliceBound, asIntOf, this]

theorem rowView_sound {H : List AObj} {p : PV} {v : Value} {l k a b : Nat} {full : Bool} (h : rowView H p = some (l, k, a, b, full)) (s : SI F κ w H) (hp : RP F κ H.length w p v) :
    ∃ e kr xs A c, H[l]? = some (.row e kr xs) ∧ κ l = .slice A xs.length c ∧ xs.length ≤ c ∧ ViewV (κ l) v k a b ∧ b ≤ xs.length ∧ (full = true → a = 0 ∧ b = xs.length ∧ kr = k ∧ p = .own l) ∧ p.rows = [l] := by
  have len : ∀ {l e kr : Nat} {xs : List T}, H[l]? = some (.row e kr xs) → ∃ A c, κ l = .slice A xs.length c ∧ xs.length ≤ c ∧ (A = none ∨ ∃ b, A = some ⟨b, 0, none⟩) ∧ xs.length ≤ big := by
    intro l e kr xs ho
    obtain ⟨cs, h1, hb, _⟩ := s.ro l _ ho
    rcases h1.2 with ⟨q1, q2⟩ | ⟨g, cap, cur, q1, _, _, q2, _⟩
    · exact ⟨none, 0, by rw [q1, q2], by omega, .inl rfl, hb⟩
    · exact ⟨_, cap, q1, q2, .inr ⟨g, rfl⟩, hb⟩
  cases hp with
  | @own l' A n c hN hl =>
    unfold rowView at h
    simp only [] at h
    cases ho : H[l']? with
    | none => simp [ho] at h
    | some obj =>
      cases obj with
      | row e kr xs =>
        simp only [ho, Option.some.injEq, Prod.mk.injEq] at h
        obtain ⟨rfl, rfl, rfl, rfl, rfl⟩ := h
        obtain ⟨A', c', q1, q2, q3, q6⟩ := len ho
        rw [hl] at q1
        injection q1 with q1 q4 q5
        subst q1; subst q4; subst q5
        refine ⟨e, kr, xs, A, c, ho, hl, q2, ⟨A, _, c, A, ⟨hl, q6⟩, rfl, by omega, Nat.le_refl _, ?_⟩, Nat.le_refl _, fun _ => ⟨rfl, rfl, rfl, rfl⟩, rfl⟩
        rcases q3 with rfl | ⟨b, rfl⟩
        · exact .inl ⟨rfl, rfl⟩
        · exact .inr ⟨b, 0, rfl, rfl, fun _ => by simp⟩
      | _ => simp [ho] at h
  | @view l' k' lo hi A n c hN hl =>
    unfold rowView at h
    simp only [] at h
    cases ho : H[l']? with
    | none => simp [ho] at h
    | some obj =>
      cases obj with
      | row e kr xs =>
        simp only [ho, Option.some.injEq, Prod.mk.injEq] at h
        obtain ⟨rfl, rfl, rfl, rfl, rfl⟩ := h
        obtain ⟨A', c', q1, q2, q3, q6⟩ := len ho
        obtain ⟨A1, n1, c1, A2, ⟨v1, vb⟩, v2, v3, v4, v5⟩ := hl
        rw [q1] at v1
        injection v1 with v1 v6 v7
        subst v1; subst v6; subst v7
        exact ⟨e, kr, xs, _, _, ho, q1, q2, ⟨_, _, _, A2, ⟨q1, vb⟩, v2, v3, v4, v5⟩, v4, by simp, rfl⟩
      | _ => simp [ho] at h
  | _ => simp [rowView] at h

theorem sliceK_sound {dr : Bool} {t : TypeId} {p : PV} {lo hi mx : Option PV} {vlo vhi vmx : Option Value} {K : PV → St → Res β} {v : Value} (h : sliceK E dr st t p lo hi mx K ≠ .stuck) (h0 : N0 ≤ st.heap.length) (s : SI F κ w st.heap) (ht : TR F κ w st tm)
    (hp : RP F κ st.heap.length w p v) (hlo : OptR F κ st.heap.length w lo vlo) (hhi : OptR F κ st.heap.length w hi vhi)
    (hmx : OptR F κ st.heap.length w mx vmx) :
    ∃ q u st' F', sliceK E dr st t p lo hi mx K = K q st' ∧ (Instr.sliceAt t v vlo vhi vmx).run E.P w = .ok u w ∧ Next' N0 F κ w st tm q u F' κ w st' := by
  unfold sliceK at h ⊢
  cases hd : E.P.underlying t with
  | none => simp [hd] at h
  | some d =>
    cases d with
    | string =>
      simp only [hd] at h ⊢
      cases hp with
      | @t x _ hx =>
        cases mx with
        | some m => exact absurd rfl h
        | none =>
          cases vmx with
          | some m => exact hmx.elim
          | none =>
            simp only [] at h ⊢
            obtain ⟨sb, rfl, e1⟩ := strT_inv h
            rw [e1] at h ⊢
            obtain ⟨hh, e2, c2⟩ := boundK_sound h hhi
            rw [e2] at h ⊢
            obtain ⟨l, e3, c3⟩ := boundK_sound h hlo
            rw [e3]
            cases hx with
            | str hsz =>
              have hle : hh ≤ sb.size := by rcases c2 with ⟨_, rfl⟩ | ⟨h, _⟩ <;> omega
              have hll : l ≤ hh := by rcases c3 with ⟨_, rfl⟩ | ⟨h, _⟩ <;> omega
              refine ⟨_, .string (sb.extract l hh), st, F, rfl, ?_, Next'.same h0 s ht (.t (.str ?_))⟩
              · simp only [Instr.sliceAt, Sem.run_bind, run_underlying hd, Result.andThen_ok, Instr.slice, Option.isSome_none, Bool.false_eq_true, if_false, Instr.sliceBounds, Sem.run_pure]
                rcases c2 with ⟨rfl, rfl⟩ | ⟨_, k2, rfl⟩ <;> rcases c3 with ⟨rfl, rfl⟩ | ⟨_, k3, rfl⟩ <;>
                  simp [run_sliceBound', hle, hll]
              · simp only [ByteArray.size_extract]; omega
      | _ => exact absurd rfl h
    | slice e =>
      simp only [hd] at h ⊢
      cases hs : szP E.P e with
      | none => simp [hs] at h
      | some k =>
        simp only [hs] at h ⊢
        cases hrv : rowView st.heap p with
        | some q =>
          obtain ⟨l0, k', a, b, full⟩ := q
          simp only [hrv] at h ⊢
          obtain ⟨hk, ek⟩ := cond_inv h
          rw [ek] at h ⊢
          obtain rfl : k' = k := by simpa using hk
          obtain ⟨e', kr, xs, A0, c, r1, r2, r3, ⟨B, n, c0, A', ⟨v1, vb⟩, rfl, v3, v4, v5⟩, r5, r6, r7⟩ := rowView_sound hrv s hp
          rw [r2] at v1
          injection v1 with v1 v6 v7
          subst v1; subst v6; subst v7
          have hl0 : l0 < st.heap.length := (List.getElem?_eq_some_iff.1 r1).1
          have hrun : ∀ (l hh m : Nat), (Instr.sliceBounds true (b - a) (c - a) vlo vhi vmx).run E.P w = .ok (l, hh, m) w → (Instr.sliceAt t (.slice A' (b - a) (c - a)) vlo vhi vmx).run E.P w = .ok (.slice (if m = l then A' else A'.map (·.add (l * k'))) (hh - l) (m - l)) w := by
            intro l hh m hb
            simp [Instr.sliceAt, Instr.slice, run_underlying hd, hb, run_sizeOf' hs]
          cases mx with
          | none =>
            cases vmx with
            | some m => exact hmx.elim
            | none =>
              simp only [] at h ⊢
              obtain ⟨hh, e2, c2⟩ := boundK_sound h hhi
              rw [e2] at h ⊢
              obtain ⟨l, e3, c3⟩ := boundK_sound h hlo
              rw [e3]
              have hrl : rowLen st.heap l0 = xs.length := by simp [rowLen, r1]
              have hle : hh ≤ xs.length - a := by rcases c2 with ⟨_, rfl⟩ | ⟨h, _⟩ <;> omega
              have hll : l ≤ hh := by rcases c3 with ⟨_, rfl⟩ | ⟨h, _⟩ <;> omega
              refine ⟨_, _, _, F, rfl, hrun l hh (c - a) ?_, Next'.same h0 s ht (.view hl0 ⟨A0, xs.length, c, if c - a = l then A' else A'.map (·.add (l * k')), ⟨r2, vb⟩, ?_, by omega, by omega, ?_⟩)⟩
              · have hle' : hh ≤ c - a := by omega
                rcases c2 with ⟨rfl, rfl⟩ | ⟨_, k2, rfl⟩ <;> rcases c3 with ⟨rfl, rfl⟩ | ⟨_, k3, rfl⟩ <;> simp [Instr.sliceBounds, run_sliceBound', hle, hll, hle']
              · congr 1 <;> omega
              · rcases v5 with ⟨rfl, rfl⟩ | ⟨g, o, rfl, rfl, v6⟩
                · exact .inl ⟨rfl, by split <;> rfl⟩
                · refine .inr ⟨g, if c - a = l then o else o + l * k', rfl, ?_, fun hlt => ?_⟩
                  · split
                    · rfl
                    · simp [add_mid]
                  · split
                    · have : a = 0 ∧ l = 0 := by omega
                      rw [v6 (by omega)]; simp [this]
                    · rw [v6 (by omega), Nat.add_mul]
          | some m =>
            cases vmx with
            | none => exact hmx.elim
            | some vm =>
              simp only [] at h ⊢
              obtain ⟨hn, e00⟩ := cond_inv h
              rw [e00] at h ⊢
              simp only [Bool.or_eq_false_iff, Bool.not_eq_false'] at hn
              obtain ⟨q1, q2, q3, q4⟩ := r6 hn.2
              subst q1; subst q2
              obtain ⟨mm, e0, c0⟩ := boundK_sound (v := some vm) h hmx
              rw [e0] at h ⊢
              obtain ⟨hh, e2, c2⟩ := boundK_sound h hhi
              rw [e2] at h ⊢
              obtain ⟨l, e3, c3⟩ := boundK_sound h hlo
              rw [e3] at h ⊢
              rcases c0 with ⟨c0, _⟩ | ⟨hm, k0, c0⟩
              · cases c0
              · injection c0 with c0
                subst c0
                rcases c2 with ⟨rfl, rfl⟩ | ⟨c2, k2, rfl⟩
                · cases hi with
                  | none => simp at hn
                  | some p => exact hhi.elim
                · have hll : l ≤ hh := by rcases c3 with ⟨_, rfl⟩ | ⟨h, _⟩ <;> omega
                  refine ⟨_, _, _, F, rfl, hrun l hh mm ?_, Next'.same h0 s ht .junk⟩
                  have hmc : mm ≤ c := by omega
                  rcases c3 with ⟨rfl, rfl⟩ | ⟨_, k3, rfl⟩ <;> simp [Instr.sliceBounds, run_sliceBound', hmc, c2, hll]
        | none =>
        simp only [hrv] at h ⊢
        obtain ⟨hdr, edr⟩ := cond_inv h
        rw [edr] at h ⊢
        obtain ⟨xs, e1, hv⟩ := elemsK_sound h s hp
        rw [e1] at h ⊢
        obtain ⟨F', s', a1, a2, a3, a4, a5, a6⟩ := freeze_sound p.rows s
        have hrd := hv.frozen a1 a4
        have hev : Ev N0 F κ w st.heap F' κ w (freezeRows p.rows st.heap) := Ev.freeze p.rows h0 a1 a2 a3 a5
        have fin : ∀ (q : PV) (u : Value), RP F' κ st.heap.length w q u → Next' N0 F κ w st tm q u F' κ w ⟨st.tmps, freezeRows p.rows st.heap⟩ := fun q u hq =>
          ⟨s', hev, by simpa [freezeRows_length] using hq, rfl, fun i q' v' g1 g2 => by simpa [freezeRows_length] using (ht i q' v' g1 g2).freeze a1⟩
        obtain ⟨A, n, c, rfl, rfl, h3, h4, _⟩ := hv
        have hrun : ∀ (l hh m : Nat), (Instr.sliceBounds true xs.length c vlo vhi vmx).run E.P w = .ok (l, hh, m) w → (Instr.sliceAt t (.slice A xs.length c) vlo vhi vmx).run E.P w = .ok (.slice (if m = l then A else A.map (·.add (l * k))) (hh - l) (m - l)) w := by
          intro l hh m hb
          simp [Instr.sliceAt, Instr.slice, run_underlying hd, hb, run_sizeOf' hs]
        cases mx with
        | none =>
          cases vmx with
          | some m => exact hmx.elim
          | none =>
            simp only [] at h ⊢
            obtain ⟨hh, e2, c2⟩ := boundK_sound h hhi
            rw [e2] at h ⊢
            obtain ⟨l, e3, c3⟩ := boundK_sound h hlo
            rw [e3]
            have hle : hh ≤ xs.length := by rcases c2 with ⟨_, rfl⟩ | ⟨h, _⟩ <;> omega
            have hll : l ≤ hh := by rcases c3 with ⟨_, rfl⟩ | ⟨h, _⟩ <;> omega
            refine ⟨_, _, _, F', rfl, hrun l hh c ?_, fin _ _ (.t (hrd.cut hll hle (by omega) (by omega)))⟩
            have hle' : hh ≤ c := by omega
            rcases c2 with ⟨rfl, rfl⟩ | ⟨_, k2, rfl⟩ <;> rcases c3 with ⟨rfl, rfl⟩ | ⟨_, k3, rfl⟩ <;> simp [Instr.sliceBounds, run_sliceBound', hle, hll, hle']
        | some m =>
          cases vmx with
          | none => exact hmx.elim
          | some vm =>
            simp only [] at h ⊢
            obtain ⟨hn, e00⟩ := cond_inv h
            rw [e00] at h ⊢
            obtain ⟨mm, e0, c0⟩ := boundK_sound (v := some vm) h hmx
            rw [e0] at h ⊢
            obtain ⟨hh, e2, c2⟩ := boundK_sound h hhi
            rw [e2] at h ⊢
            obtain ⟨l, e3, c3⟩ := boundK_sound h hlo
            rw [e3] at h ⊢
            rcases c0 with ⟨c0, _⟩ | ⟨hm, k0, c0⟩
            · cases c0
            · injection c0 with c0
              subst c0
              rcases c2 with ⟨rfl, rfl⟩ | ⟨c2, k2, rfl⟩
              · cases hi with
                | none => simp at hn
                | some p => exact hhi.elim
              · have hll : l ≤ hh := by rcases c3 with ⟨_, rfl⟩ | ⟨h, _⟩ <;> omega
                have hb : (Instr.sliceBounds true xs.length c vlo (some (.int k2 hh)) (some (.int k0 mm))).run E.P w = .ok (l, hh, mm) w := by
                  have hmc : mm ≤ c := by omega
                  rcases c3 with ⟨rfl, rfl⟩ | ⟨_, k3, rfl⟩ <;> simp [Instr.sliceBounds, run_sliceBound', hmc, c2, hll]
                cases he : decide (mm = hh) with
                | true =>
                  have he' : mm = hh := by simpa using he
                  subst he'
                  refine ⟨_, _, _, F', rfl, hrun l mm mm hb, fin _ _ ?_⟩
                  have hr := hrd.cut (m := mm) hll hm (Nat.le_refl _) (by omega)
                  have hlen : ((xs.take mm).drop l).length = mm - l := by simp; omega
                  have h2 := hr
                  rw [← hlen] at h2 ⊢
                  exact .full h2
                | false => exact ⟨_, _, _, F', rfl, hrun l hh mm hb, fin _ _ (.t (hrd.cut hll (by omega) c2 (by omega)))⟩
    | _ => simp [hd] at h
end
end Go.Sim
