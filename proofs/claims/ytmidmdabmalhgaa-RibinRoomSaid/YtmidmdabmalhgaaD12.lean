/- Frozen values; cells of values; an object that is written anew. -/
import Derived.Test.YtmidmdabmalhgaaD11
namespace Go.Sim
open Go.RowKit
set_option linter.unusedVariables false
set_option linter.unusedSimpArgs false

theorem frzs_get {H : List AObj} : ∀ {cs : List PV} {ts : List T}, PV.frzs H cs = some ts → ts.length = cs.length ∧ ∀ (i : Nat) (x : T), ts[i]? = some x → ∃ p, cs[i]? = some p ∧ p.frz H = some x
  | [], ts, h => by simp [PV.frzs] at h; subst h; simp
  | p :: r, ts, h => by
    simp only [PV.frzs] at h
    cases h1 : p.frz H with
    | none => simp [h1] at h
    | some x =>
      cases h2 : PV.frzs H r with
      | none => simp [h1, h2] at h
      | some xs =>
        simp [h1, h2] at h
        subst h
        obtain ⟨a, b⟩ := frzs_get h2
        refine ⟨by simp [a], fun i y hy => ?_⟩
        cases i with
        | zero => simp at hy; subst hy; exact ⟨p, rfl, h1⟩
        | succ i => simpa using b i y (by simpa using hy)

section
variable {F F' : Nat → Prop} {κ : Nat → Value} {w w' : World} {H : List AObj}

/-- A slot's value as a tree, where its rows are frozen. -/
theorem frz_sound (s : SI F κ w H) {p : PV} {v : Value} (h : RP F κ H.length w p v) (a : ∀ b, F b → F' b) : ∀ {x : T}, p.frz H = some x →
    (∀ l ∈ p.rows, ∀ (e : TypeId) (k : Nat) (xs : List T) (b : Nat), H[l]? = some (.row e k xs) → (κ l).ownBlock = some b → F' b) → Rd F' w x v := by
  have mono : ∀ {x : T} {v : Value}, Rd F w x v → Rd F' w x v := fun h => h.mono a (fun _ _ => rfl)
  induction h with
  | t h => intro x hx hr; simp [PV.frz] at hx; subst hx; exact mono h
  | nil => intro x hx hr; simp [PV.frz] at hx; subst hx; exact .sl (xs := []) (c := 0) 0 0 (fun _ _ => undef) (by simp) (by simp) (by simp) (by simp) (fun i j hi => by simp at hi) (fun i j hi => by simp at hi) (fun i x j y hx => by simp at hx)
  | @agg cs vs hl h1 hr ih =>
    intro x hx hq
    simp only [PV.frz, Option.map_eq_some_iff] at hx
    obtain ⟨ts, h2, rfl⟩ := hx
    obtain ⟨h3, h4⟩ := frzs_get h2
    refine .agg (by omega) h1 fun i x v hx hv => ?_
    obtain ⟨p, g1, g2⟩ := h4 i x hx
    exact ih i p v g1 hv g2 fun l hl => hq l (by simp only [PV.rows]; exact mem_rowss (List.mem_of_getElem? g1) hl)
  | @tup cs vs hl hr ih =>
    intro x hx hq
    simp only [PV.frz, Option.map_eq_some_iff] at hx
    obtain ⟨ts, h2, rfl⟩ := hx
    obtain ⟨h3, h4⟩ := frzs_get h2
    refine .tup (by omega) fun i x v hx hv => ?_
    obtain ⟨p, g1, g2⟩ := h4 i x hx
    exact ih i p v g1 hv g2 fun l hl => hq l (by simp only [PV.rows]; exact mem_rowss (List.mem_of_getElem? g1) hl)
  | @fn f fs cs vf vc h1 h2 r1 r2 i1 i2 =>
    intro x hx hq
    simp only [PV.frz] at hx
    cases e1 : PV.frzs H fs with
    | none => simp [e1] at hx
    | some ts =>
      cases e2 : PV.frzs H cs with
      | none => simp [e1, e2] at hx
      | some us =>
        simp [e1, e2] at hx
        subst hx
        obtain ⟨h3, h4⟩ := frzs_get e1
        obtain ⟨h5, h6⟩ := frzs_get e2
        refine .fn (by omega) (by omega) (fun i x v hx hv => ?_) (fun i x v hx hv => ?_)
        · obtain ⟨p, g1, g2⟩ := h4 i x hx
          exact i1 i p v g1 hv g2 fun l hl => hq l (by simp only [PV.rows, List.mem_append]; exact .inl (mem_rowss (List.mem_of_getElem? g1) hl))
        · obtain ⟨p, g1, g2⟩ := h6 i x hx
          exact i2 i p v g1 hv g2 fun l hl => hq l (by simp only [PV.rows, List.mem_append]; exact .inr (mem_rowss (List.mem_of_getElem? g1) hl))
  | @ptr l o b hN hk =>
    intro x hx hq
    simp only [PV.frz] at hx
    cases ho : H[l]? with
    | none => simp [ho] at hx
    | some obj =>
      cases obj with
      | fbox e n v =>
        simp only [ho] at hx
        split at hx
        · rename_i h0
          subst h0
          injection hx with hx
          subst hx
          obtain ⟨b', r1, r2, r3⟩ := s.ro l _ ho
          rw [hk] at r2
          exact mono r2
        · cases hx
      | _ => simp [ho] at hx
  | @own l A n c hN hk =>
    intro x hx hq
    simp only [PV.frz] at hx
    cases ho : H[l]? with
    | none => simp [ho] at hx
    | some obj =>
      have hro := s.ro l _ ho
      cases obj with
      | row e k xs =>
        simp only [ho, Option.some.injEq] at hx
        subst hx
        have := SlV.of_row hro ho
        rw [hk] at this
        exact this.frozen a (by simpa [PV.rows] using hq)
      | frow e k xs =>
        simp only [ho, Option.some.injEq] at hx
        subst hx
        rw [← hk]
        exact mono hro.1
      | _ => simp [ho] at hx
  | @view l k lo hi A n c hN hk =>
    intro x hx hq
    simp only [PV.frz] at hx
    cases ho : H[l]? with
    | none => simp [ho] at hx
    | some obj =>
      have hro := s.ro l _ ho
      cases obj with
      | row e k' xs =>
        simp only [ho] at hx
        cases hg : (k' == k && decide (lo ≤ hi) && decide (hi ≤ xs.length)) with
        | false => rw [hg] at hx; cases hx
        | true =>
          rw [hg] at hx
          simp only [cond_true, Option.some.injEq] at hx
          subst hx
          simp only [Bool.and_eq_true, beq_iff_eq, decide_eq_true_eq] at hg
          obtain ⟨⟨rfl, _⟩, h3⟩ := hg
          exact (SlV.view (l := l) hk (SlV.of_row hro ho) (by simp [PV.rows]) h3).frozen a (by simpa [PV.rows] using hq)
      | frow e k' xs =>
        simp only [ho] at hx
        cases hg : (k' == k && decide (lo ≤ hi) && decide (hi ≤ xs.length)) with
        | false => rw [hg] at hx; cases hx
        | true =>
          rw [hg] at hx
          simp only [cond_true, Option.some.injEq] at hx
          subst hx
          simp only [Bool.and_eq_true, beq_iff_eq, decide_eq_true_eq] at hg
          obtain ⟨⟨rfl, _⟩, h3⟩ := hg
          exact (SlV.view (H := H) (l := l) (p := .own l) hk (SlV.of_sl hro.1) (by simp [PV.rows]) h3).frozen a (by simpa [PV.rows] using hq)
      | _ => simp [ho] at hx
  | full h => intro x hx hq; simp [PV.frz] at hx; subst hx; exact mono h
  | eptr => intro x hx; simp [PV.frz] at hx
  | rp => intro x hx; simp [PV.frz] at hx
  | junk => intro x hx; simp [PV.frz] at hx

/-- The cells of a slot's value, one by one. -/
theorem RP.cells {N n : Nat} {p : PV} {v : Value} (h : RP F κ N w p v) (hn : v.cells.size = n) (h1 : ∀ c ∈ v.cells, c.oneCell' = true) :
    (p.cells n).length = n ∧ ∀ (i : Nat) (q : PV) (c : Value), (p.cells n)[i]? = some q → v.cells[i]? = some c → RP F κ N w q c := by
  by_cases hv : v.oneCell' = true
  · rw [cells_one hv] at hn
    simp at hn
    subst hn
    have one : ∀ (i : Nat) (q : PV) (c : Value), [p][i]? = some q → v.cells[i]? = some c → RP F κ N w q c := by
      intro i q c hq hc
      rw [cells_one hv] at hc
      cases i with
      | zero => simp at hq hc; subst hq; subst hc; exact h
      | succ i => simp at hq
    cases h with
    | t h =>
      have := eq_zero_cells (h.notAgg hv)
      simp only [PV.cells, List.range_one, List.map_cons, List.map_nil, T.cell, this, List.getD_cons_zero]
      exact ⟨rfl, one⟩
    | agg hl _ _ => simp [Value.oneCell'] at hv
    | tup hl _ => simp [Value.oneCell'] at hv
    | junk => exact ⟨rfl, one⟩
    | _ => exact ⟨rfl, one⟩
  · cases v with
    | tuple vs => exact absurd (h1 (.tuple vs) (by simp [Value.cells])) (by simp [Value.oneCell'])
    | agg vs =>
      simp only [Value.cells] at hn h1 ⊢
      cases h with
      | junk =>
        refine ⟨by simp [PV.cells], fun i q c hq hc => ?_⟩
        simp only [PV.cells] at hq
        have := List.mem_of_getElem? hq
        rw [List.mem_replicate] at this
        rw [this.2]; exact .junk
      | @t x _ h =>
        cases h with
        | @agg cs vs hl ha hr =>
          simp at hn
          refine ⟨by simp [PV.cells], fun i q c hq hc => ?_⟩
          have hi : i < n := by have := (List.getElem?_eq_some_iff.1 hq).1; simpa [PV.cells] using this
          simp only [PV.cells, List.getElem?_map, List.getElem?_range hi, Option.map_some, Option.some.injEq] at hq
          subst hq
          have hi' : i < cs.length := by omega
          refine .t (hr i _ c ?_ (by simpa using hc))
          simp only [T.cell, T.cells, List.getD_eq_getElem?_getD, List.getElem?_eq_getElem hi', Option.getD_some]
      | @agg cs vs hl ha hr =>
        simp at hn
        exact ⟨by simp only [PV.cells]; omega, fun i q c hq hc => hr i q c hq (by simpa using hc)⟩
    | _ => exact absurd rfl hv

theorem okS_sound {N s : Nat} {p : PV} {v : Value} (h : RP F κ N w p v) (ho : p.okS s = true) : v.cells.size = s ∧ ∀ c ∈ v.cells, c.oneCell' = true := by
  have one : ∀ v : Value, v.oneCell' = true → s = 1 → v.cells.size = s ∧ ∀ c ∈ v.cells, c.oneCell' = true := fun v hv hs => by rw [cells_one hv]; simp [hs, hv]
  cases h with
  | @t x _ h =>
    simp only [PV.okS, Bool.and_eq_true, beq_iff_eq] at ho
    obtain ⟨h2, h3⟩ := ho
    cases h with
    | @agg cs vs hl ha hr => simp [T.cells] at h2; simp [Value.cells]; exact ⟨by omega, ha⟩
    | tup => simp [T.isTup] at h3
    | _ => exact one _ rfl (by simpa [T.cells] using h2.symm)
  | @agg cs vs hl ha hr => simp [PV.okS] at ho; simp [Value.cells]; exact ⟨by omega, ha⟩
  | tup => simp [PV.okS] at ho
  | junk => simp [PV.okS] at ho
  | _ => exact one _ rfl (by simpa [PV.okS] using ho)

theorem okE_sound {k : Nat} {x : T} {v : Value} (h : Rd F w x v) (ho : x.okE k = true) : x.cells.length = k ∧ (k = 1 → x.isAgg = false) ∧ v.cells.size = k ∧ (∀ c ∈ v.cells, c.oneCell' = true) ∧
    ∀ (j : Nat) (y : T) (c : Value), x.cells[j]? = some y → v.cells[j]? = some c → Rd F w y c := by
  simp only [T.okE, Bool.and_eq_true, beq_iff_eq, Bool.or_eq_true, Bool.not_eq_true'] at ho
  obtain ⟨⟨h1, h2⟩, h3⟩ := ho
  obtain ⟨a, b⟩ := okS_sound (κ := fun _ => undef) (N := 0) (.t h) (show (PV.t x).okS k = true by simp [PV.okS, h1, h2])
  refine ⟨h1, fun h => ?_, a, b, fun j y c hy hc => ?_⟩
  · rcases h3 with h3 | h3
    · simp [h] at h3
    · exact h3
  · obtain ⟨_, h5⟩ := RP.cells (κ := fun _ => undef) (N := 0) (.t h) a b
    have hj : j < k := by rw [← h1]; exact (List.getElem?_eq_some_iff.1 hy).1
    have := h5 j (.t y) c (by simp [PV.cells, List.getElem?_range hj, T.cell, List.getD_eq_getElem?_getD, hy]) hc
    cases this with
    | t h => exact h

theorem freezeRows_other {l : Nat} : ∀ (ls : List Nat) (H : List AObj), l ∉ ls → (freezeRows ls H)[l]? = H[l]? := by
  unfold freezeRows
  intro ls
  induction ls with
  | nil => intro H _; rfl
  | cons a ls ih =>
    intro H hl
    simp only [List.mem_cons, not_or] at hl
    simp only [List.foldl_cons]
    rw [ih _ hl.2]
    split
    · rw [List.getElem?_set_ne (fun e => hl.1 e.symm)]
    · rfl

end
end Go.Sim
