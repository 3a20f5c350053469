/- Operations that leave memory as it is: what they come to. -/
import Derived.Test.YtmidmdabmalhgaaD3
namespace Go.Sim
open Go.RowKit
set_option linter.unusedVariables false
set_option linter.unusedSimpArgs false

section
variable {β : Type}

theorem someK_inv {α : Type} {o : Option α} {K : α → Res β} (h : someK o K ≠ .stuck) : ∃ a, o = some a ∧ someK o K = K a := by
  cases o with
  | none => exact absurd rfl h
  | some a => exact ⟨a, rfl, rfl⟩
theorem chk_inv {b : Bool} {r : Res β} (h : chk b r ≠ .stuck) : b = true ∧ chk b r = r := by
  cases b with
  | false => exact absurd rfl h
  | true => exact ⟨rfl, rfl⟩
theorem bT_inv {x : T} {K : Bool → Res β} (h : bT x K ≠ .stuck) : ∃ b, x = .bool b ∧ bT x K = K b := by
  cases x <;> first | exact ⟨_, rfl, rfl⟩ | exact absurd rfl h
theorem iT_inv {k : IntKind} {x : T} {K : Int → Res β} (h : iT k x K ≠ .stuck) : ∃ n, x = .int k n ∧ iT k x K = K n := by
  cases x with
  | int k' n =>
    by_cases e : k' = k
    · subst e; exact ⟨n, rfl, by simp [iT]⟩
    · simp [iT, e] at h
  | _ => exact absurd rfl h
theorem anyT_inv {x : T} {K : Int → Res β} (h : anyT x K ≠ .stuck) : ∃ k n, x = .int k n ∧ anyT x K = K n := by
  cases x <;> first | exact ⟨_, _, rfl, rfl⟩ | exact absurd rfl h
theorem slT_inv {k : Nat} {x : T} {K : List T → Res β} (h : slT k x K ≠ .stuck) : ∃ xs, x = .sl k xs ∧ slT k x K = K xs := by
  cases x with
  | sl k' xs =>
    by_cases e : k' = k
    · subst e; exact ⟨xs, rfl, by simp [slT]⟩
    · simp [slT, e] at h
  | _ => exact absurd rfl h
theorem strT_inv {x : T} {K : ByteArray → Res β} (h : strT x K ≠ .stuck) : ∃ s, x = .str s ∧ strT x K = K s := by
  cases x <;> first | exact ⟨_, rfl, rfl⟩ | exact absurd rfl h
theorem lenT_inv {x : T} {K : Int → Res β} (h : lenT x K ≠ .stuck) : (∃ k xs, x = .sl k xs ∧ lenT x K = K xs.length) ∨ (∃ s, x = .str s ∧ lenT x K = K s.size) := by
  cases x <;> first | exact .inl ⟨_, _, rfl, rfl⟩ | exact .inr ⟨_, rfl, rfl⟩ | exact absurd rfl h
theorem sllT_inv {x : T} {K : Int → Res β} (h : sllT x K ≠ .stuck) : ∃ k xs, x = .sl k xs ∧ sllT x K = K xs.length := by
  cases x <;> first | exact absurd rfl h | exact ⟨_, _, rfl, rfl⟩
theorem compT_inv {x : T} {i : Nat} {K : T → Res β} (h : compT x i K ≠ .stuck) : ∃ l y, x = .tup l ∧ l[i]? = some y ∧ compT x i K = K y := by
  cases x with
  | tup l =>
    cases e : l[i]? with
    | none => simp [compT, e] at h
    | some y => exact ⟨l, y, rfl, e, by simp [compT, e]⟩
  | _ => exact absurd rfl h
theorem atT_inv {xs : List T} {i : Int} {K : T → Res β} (h : atT xs i K ≠ .stuck) : ∃ e, 0 ≤ i ∧ i.toNat < xs.length ∧ xs[i.toNat]? = some e ∧ atT xs i K = K e := by
  unfold atT at h ⊢
  by_cases h0 : 0 ≤ i
  · rw [if_pos h0] at h
    cases e : xs[i.toNat]? with
    | none => simp [e] at h
    | some y => exact ⟨y, h0, (List.getElem?_eq_some_iff.1 e).1, rfl, by simp [h0, e]⟩
  · simp [h0] at h
theorem ptrT_inv {x : T} {K : T → Res β} (h : ptrT x .stuck K ≠ .stuck) : ∃ y, x = .ref y ∧ ptrT x .stuck K = K y := by
  cases x <;> first | exact ⟨_, rfl, rfl⟩ | exact absurd rfl h
theorem cond_inv {b : Bool} {r : Res β} (h : (bif b then .stuck else r) ≠ .stuck) : b = false ∧ (bif b then .stuck else r) = r := by
  cases b with
  | true => exact absurd rfl h
  | false => exact ⟨rfl, rfl⟩
theorem cond_inv' {b : Bool} {r : Res β} (h : (bif b then r else .stuck) ≠ .stuck) : b = true ∧ (bif b then r else .stuck) = r := by
  cases b with
  | false => exact absurd rfl h
  | true => exact ⟨rfl, rfl⟩
end

theorem getD_of {xs : List T} {i : Nat} {e d : T} (h : xs[i]? = some e) : xs.getD i d = e := by rw [List.getD_eq_getElem?_getD, h]; rfl

section
variable {β : Type} {E : Env} {st : St} {F : Nat → Prop} {κ : Nat → Value} {w : World}

theorem loadK_sound {t : TypeId} {p : PV} {K : PV → Res β} {v : Value} (h : loadK E st t p K ≠ .stuck) (s : SI F κ w st.heap) (hp : RP F κ st.heap.length w p v) :
    ∃ q u, loadK E st t p K = K q ∧ (Instr.loadAt t v).run E.P w = .ok u w ∧ RP F κ st.heap.length w q u := by
  unfold loadK at h ⊢
  cases hs : szP E.P t with
  | none => simp [hs] at h
  | some sz =>
    cases ha : aggP E.P t with
    | none => simp [hs, ha] at h
    | some a =>
      simp only [hs, ha] at h ⊢
      obtain ⟨hg, he⟩ := cond_inv h
      rw [he] at h ⊢
      replace hg := guard_of hg
      clear he
      have hrows : ∀ {x : T} {b p k o : Nat} {val : Nat → Value}, x.cells.length = k → (k = 1 → x.isAgg = false) → (∀ j, j < k → (val j).oneCell' = true) → (∀ j, j < k → w.cell? ⟨b, p + j, none⟩ = some (val j)) →
          (∀ j y, x.cells[j]? = some y → Rd F w y (val j)) → (∀ K' : PV → Res β, (bif o == 0 && sz == k then K' (.t x) else bif decide (o + sz ≤ k) then K' (.t (x.partD o sz a)) else .stuck) ≠ .stuck →
          ∃ q u, (bif o == 0 && sz == k then K' (.t x) else bif decide (o + sz ≤ k) then K' (.t (x.partD o sz a)) else .stuck) = K' q ∧ (Instr.loadAt t (.pointer (some ⟨b, p + o, none⟩))).run E.P w = .ok u w ∧ RP F κ st.heap.length w q u) := by
        intro x b p k o val hk hag h1 hc hr K' hne
        cases hw : (o == 0 && sz == k) with
        | true =>
          simp only [Bool.and_eq_true, beq_iff_eq] at hw
          obtain ⟨rfl, rfl⟩ := hw
          obtain ⟨u, h2, _, h3⟩ := load_rows hs ha hg hk hag h1 hc hr 0 (by omega)
          exact ⟨_, u, rfl, h2, .t (h3 rfl rfl)⟩
        | false =>
          rw [hw] at hne
          simp only [cond_false] at hne ⊢
          obtain ⟨h5, h6⟩ := cond_inv' hne
          rw [h6]
          obtain ⟨u, h2, h3, _⟩ := load_rows hs ha hg hk hag h1 hc hr o (by simpa using h5)
          exact ⟨_, u, rfl, h2, .t h3⟩
      cases hp with
      | @ptr l o b hN hl =>
        cases ho : st.heap[l]? with
        | none => simp [ho] at h
        | some obj =>
          have hro := s.ro l obj ho
          cases obj with
          | box e n v =>
            simp only [ho] at h ⊢
            obtain ⟨b', vs, vv, r1, r2, r3, r4, r5, r6⟩ := hro
            rw [hl] at r1
            injection r1 with r1; injection r1 with r1; injection r1 with r1
            subst r1
            subst r3
            have hcell : ∀ j c, vv.cells.toList[j]? = some c → w.cell? ⟨b, j, none⟩ = some c := fun j c hc => by
              simp only [World.cell?, r2]; simpa using hc
            have hpart : o + sz ≤ n → ∃ u, (Instr.loadAt t (.pointer (some ⟨b, o, none⟩))).run E.P w = .ok u w ∧ RP F κ st.heap.length w (v.part o sz a) u := by
              intro hle
              refine ⟨_, run_load_cells hs ha w b o ((vv.cells.toList.drop o).take sz) (by simp; omega) (by rcases hg with ⟨rfl, _⟩ | ⟨rfl, h⟩ <;> simp_all) (fun j c hc => ?_), ?_⟩
              · rw [List.getElem?_take] at hc
                split at hc
                · rw [List.getElem?_drop] at hc; exact hcell _ _ hc
                · cases hc
              · have := r6.cell_of (n := n) (o := o) (s := sz) (a := a) r4 r5 hle hg
                rcases hg with ⟨rfl, h2⟩ | ⟨rfl, rfl⟩
                · simpa using this
                · simpa [List.getD_eq_getElem?_getD, List.getElem?_take] using this
            cases hw : (o == 0 && sz == n && decide (2 ≤ n)) with
            | true =>
              simp only [Bool.and_eq_true, beq_iff_eq, decide_eq_true_eq] at hw
              obtain ⟨⟨rfl, rfl⟩, h2⟩ := hw
              rcases hg with ⟨rfl, _⟩ | ⟨rfl, h3⟩
              · refine ⟨_, _, rfl, run_load_cells hs ha w b 0 vv.cells.toList (by simp [r4]) (by simp) (fun j c hc => by simpa using hcell j c hc), ?_⟩
                simp only [if_true, Array.toArray_toList]
                have : vv = .agg vv.cells := by
                  cases vv <;> first | rfl | (simp [Value.cells] at r4; omega)
                rw [← this]; exact r6
              · omega
            | false =>
              rw [hw] at h
              simp only [cond_false] at h ⊢
              obtain ⟨h5, h6⟩ := cond_inv' h
              rw [h6]
              obtain ⟨u, h7, h8⟩ := hpart (by simpa using h5)
              exact ⟨_, u, rfl, h7, h8⟩
          | fbox e n x =>
            simp only [ho] at h ⊢
            obtain ⟨b', r1, r2, r3⟩ := hro
            rw [r1] at r2
            rw [hl] at r1
            injection r1 with r1; injection r1 with r1; injection r1 with r1
            subst r1
            cases r2 with
            | ref val hF hs' h1 hc hr =>
              have := hrows (b := b) (p := 0) (k := n) (o := o) r3 (fun h => hs' (by omega)) (fun j hj => h1 j (by omega)) (fun j hj => hc j (by omega)) hr K h
              simpa using this
          | _ => simp [ho] at h
      | @eptr l k i o b n c hN hl hi =>
        cases ho : st.heap[l]? with
        | none => simp [ho] at h
        | some obj =>
          have hro := s.ro l obj ho
          cases obj with
          | row e k' xs =>
            simp only [ho] at h ⊢
            obtain ⟨hk, e1⟩ := cond_inv' h
            rw [e1] at h ⊢
            have hk' : k' = k := by simpa using hk
            subst hk'
            obtain ⟨A, c', e2, _⟩ := row_len hro
            rw [hl] at e2
            injection e2 with e2 e3 e4
            obtain ⟨val, g1, g2, g3, g4, g5⟩ := row_cells hro hl (i := i) (by omega)
            exact hrows g1 g2 g3 g4 g5 K h
          | frow e k' xs =>
            simp only [ho] at h ⊢
            obtain ⟨hk, e1⟩ := cond_inv' h
            rw [e1] at h ⊢
            have hk' : k' = k := by simpa using hk
            subst hk'
            obtain ⟨r1, r2⟩ := hro
            rw [hl] at r1
            have hn := (sl_len r1).1
            obtain ⟨b', o', a1, a2, val, g1, g2, g3, g4, g5⟩ := sl_cells r1 (i := i) (by omega)
            injection a1 with a1
            injection a1 with a1 a3
            subst a1
            subst a3
            have := hrows g1 g2 g3 g4 g5 K h
            simpa using this
          | vec e xs =>
            simp only [ho] at h ⊢
            obtain ⟨hk, e1⟩ := cond_inv' h
            rw [e1] at h ⊢
            simp only [Bool.and_eq_true, beq_iff_eq] at hk
            obtain ⟨⟨rfl, rfl⟩, rfl⟩ := hk
            obtain ⟨b', vs, c', r1, r2, r3, r4, r5⟩ := hro
            rw [hl] at r1
            injection r1 with r1 r6 r7
            injection r1 with r1
            injection r1 with r1
            subst r1
            have hi' : i < vs.size := by omega
            rcases hg with ⟨_, h2⟩ | ⟨rfl, _⟩
            · omega
            · refine ⟨_, _, rfl, run_load_cells hs ha w b (i * 1 + 0) [vs[i]] rfl (by simp) (fun j c hc => ?_), ?_⟩
              · cases j with
                | zero =>
                  simp at hc
                  simp [World.cell?, r2, ← hc, hi']
                | succ j => simp at hc
              · have hx : i < xs.length := by omega
                simp only [Bool.false_eq_true, if_false, List.getD_cons_zero]
                refine r5 i _ _ ?_ (Array.getElem?_eq_getElem hi')
                rw [List.getD_eq_getElem?_getD, List.getElem?_eq_getElem hx]; rfl
          | _ => simp [ho] at h
      | @rp k x o b p val hF hk hs' h1 hc hr =>
        exact hrows hk hs' h1 hc hr K h
      | @t x v hx =>
        simp only [] at h ⊢
        obtain ⟨y, rfl, e⟩ := ptrT_inv h
        rw [e] at h ⊢
        obtain ⟨h5, h6⟩ := chk_inv h
        rw [h6]
        cases hx with
        | ref val hF hs' h1 hc hr =>
          have h5' : y.cells.length = sz := by simpa using h5
          obtain ⟨u, h2, _, h3⟩ := load_rows hs ha hg h5' (fun h => hs' (by omega)) (fun j hj => h1 j (by omega)) (fun j hj => hc j (by omega)) hr 0 (by omega)
          exact ⟨_, u, rfl, by simpa using h2, .t (h3 rfl rfl)⟩
      | _ => exact absurd rfl h
end
end Go.Sim
