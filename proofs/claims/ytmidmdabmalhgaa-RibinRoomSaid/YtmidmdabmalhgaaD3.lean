/- Reading: loads, fields, elements. -/
import Derived.Test.YtmidmdabmalhgaaD2
namespace Go.Sim
open Go.RowKit
set_option linter.unusedVariables false
set_option linter.unusedSimpArgs false

section
variable {P : Program}

theorem info_of_sz {t : TypeId} {s : Nat} (h : szP P t = some s) : ∃ i, P.info? t = some i ∧ i.size = s := by
  simpa [szP, Option.map_eq_some_iff] using h
theorem run_sizeOf' {t : TypeId} {s : Nat} (h : szP P t = some s) (w : World) : (sizeOf t).run P w = .ok s w := by
  obtain ⟨i, h1, h2⟩ := info_of_sz h
  simp [sizeOf, typeInfo, h1, h2]
theorem run_isAgg' {t : TypeId} {a : Bool} (h : aggP P t = some a) (w : World) : (isAgg t).run P w = .ok a w := by
  unfold aggP at h
  unfold isAgg
  rw [Sem.run_bind]
  cases hu : P.underlying t with
  | none => simp [hu] at h
  | some d =>
    rw [run_underlying hu w]
    cases d <;> simp_all

theorem add_mid (b o j : Nat) : (⟨b, o, none⟩ : Addr).add j = ⟨b, o + j, none⟩ := by unfold Addr.add; split <;> simp_all

theorem run_load_cells {t : TypeId} {s : Nat} {a : Bool} (hs : szP P t = some s) (ha : aggP P t = some a) (w : World) (b o : Nat) (vs : List Value) (hl : vs.length = s) (h1 : a = false → s = 1)
    (hc : ∀ j v, vs[j]? = some v → w.cell? ⟨b, o + j, none⟩ = some v) :
    (Instr.loadAt t (.pointer (some ⟨b, o, none⟩))).run P w = .ok (if a then .agg vs.toArray else vs.getD 0 undef) w := by
  simp only [Instr.loadAt, Instr.sureAddr, Sem.run_bind, Sem.run_pure, Result.andThen_ok, loadVar, run_isAgg' ha]
  cases a with
  | true =>
    simp only [if_true, Sem.run_bind, run_sizeOf' hs, Result.andThen_ok]
    rw [← hl, run_loadCells_list (P := P) w ⟨b, o, none⟩ vs (fun j v hv => by rw [add_mid]; exact hc j v hv)]
    rfl
  | false =>
    have h0 := h1 rfl
    subst h0
    match vs, hl with
    | [v], _ =>
      have := hc 0 v rfl
      simp at this
      simp [run_load, this]

theorem eq_zero_cells {x : T} (h : x.isAgg = false) : x.cells = [x] := by cases x <;> simp_all [T.isAgg, T.cells]
theorem agg_of_two {x : T} (h : 2 ≤ x.cells.length) : ∃ cs, x = .agg cs := by cases x <;> simp_all [T.cells]

/-- Parts of a tree, read off cells. -/
theorem Rd.part_of {F : Nat → Prop} {w : World} {x : T} {k o s : Nat} {a : Bool} {val : Nat → Value} (hk : x.cells.length = k) (h1 : ∀ j, j < k → (val j).oneCell' = true)
    (hr : ∀ j y, x.cells[j]? = some y → Rd F w y (val j)) (ho : o + s ≤ k) (hs : a = false → s = 1) :
    Rd F w (x.partD o s a) (if a then .agg ((List.range s).map fun j => val (o + j)).toArray else val o) := by
  cases a with
  | true =>
    simp only [if_true, T.partD, cond_true]
    refine .agg (by simp; omega) (fun v hv => ?_) fun i y v hy hv => ?_
    · simp only [List.mem_map, List.mem_range] at hv
      obtain ⟨j, hj, rfl⟩ := hv
      exact h1 _ (by omega)
    · rw [List.getElem?_take] at hy
      split at hy
      · rename_i hi
        rw [List.getElem?_drop] at hy
        rw [List.getElem?_map, List.getElem?_range hi] at hv
        simp at hv
        subst hv
        exact hr _ _ hy
      · cases hy
  | false =>
    simp only [T.partD, cond_false, T.cell, Bool.false_eq_true, if_false]
    have := hs rfl
    subst this
    have hlt : o < x.cells.length := by omega
    rw [List.getD_eq_getElem?_getD, List.getElem?_eq_getElem hlt]
    exact hr o _ (List.getElem?_eq_getElem hlt)
theorem Rd.whole_of {F : Nat → Prop} {w : World} {x : T} {k : Nat} {a : Bool} {val : Nat → Value} (hk : x.cells.length = k) (hag : k = 1 → x.isAgg = false) (h1 : ∀ j, j < k → (val j).oneCell' = true)
    (hr : ∀ j y, x.cells[j]? = some y → Rd F w y (val j)) (hs : (a = true ∧ 2 ≤ k) ∨ (a = false ∧ k = 1)) :
    Rd F w x (if a then .agg ((List.range k).map fun j => val j).toArray else val 0) := by
  rcases hs with ⟨rfl, h2⟩ | ⟨rfl, rfl⟩
  · obtain ⟨cs, rfl⟩ := agg_of_two (x := x) (by omega)
    simp only [if_true, T.cells] at hk hr ⊢
    refine .agg (by simp [hk]) (fun v hv => ?_) fun i y v hy hv => ?_
    · simp only [List.mem_map, List.mem_range] at hv
      obtain ⟨j, hj, rfl⟩ := hv
      exact h1 _ hj
    · have hi : i < k := by rw [← hk]; exact (List.getElem?_eq_some_iff.1 hy).1
      rw [List.getElem?_map, List.getElem?_range hi] at hv
      simp at hv
      subst hv
      exact hr _ _ hy
  · have := eq_zero_cells (hag rfl)
    simpa using hr 0 x (by rw [this]; rfl)

theorem guard_of {a : Bool} {s : Nat} (h : (!((a && decide (2 ≤ s)) || (!a && s == 1))) = false) : (a = true ∧ 2 ≤ s) ∨ (a = false ∧ s = 1) := by
  cases a <;> simp_all

theorem cells_one {v : Value} (h : v.oneCell' = true) : v.cells = #[v] := by cases v <;> simp_all [Value.oneCell', Value.cells]
theorem Rd.notAgg {F : Nat → Prop} {w : World} {x : T} {v : Value} (h : Rd F w x v) (h1 : v.oneCell' = true) : x.isAgg = false := by
  cases h <;> simp_all [Value.oneCell', T.isAgg]
theorem mkAgg_rp {F : Nat → Prop} {κ : Nat → Value} {N : Nat} {w : World} {cs : List PV} {vs : List Value} (hl : vs.length = cs.length) (h1 : ∀ v ∈ vs, v.oneCell' = true)
    (hr : ∀ (i : Nat) (p : PV) (v : Value), cs[i]? = some p → vs[i]? = some v → RP F κ N w p v) : RP F κ N w (mkAgg cs) (.agg vs.toArray) := by
  have aux : ∀ (cs : List PV) (ts : List T), allT cs = some ts → ts.length = cs.length ∧ ∀ (i : Nat) (x : T), ts[i]? = some x → cs[i]? = some (PV.t x) := by
    intro cs
    induction cs with
    | nil => intro ts h; simp [allT] at h; subst h; simp
    | cons p r ih =>
      intro ts h
      cases p <;> simp [allT, Option.map_eq_some_iff] at h
      obtain ⟨r', h2, rfl⟩ := h
      obtain ⟨a, b⟩ := ih r' h2
      refine ⟨by simp [a], fun i x hx => ?_⟩
      cases i with
      | zero => simpa using hx
      | succ i => simpa using b i x (by simpa using hx)
  unfold mkAgg
  cases h : allT cs with
  | none => exact .agg hl h1 hr
  | some ts =>
    obtain ⟨a, b⟩ := aux cs ts h
    refine .t (.agg (by omega) h1 fun i x v hx hv => ?_)
    have := hr i _ v (b i x hx) hv
    cases this with
    | t h => exact h

/-- The cells of a slot's value. -/
theorem RP.cell_of {F : Nat → Prop} {κ : Nat → Value} {N : Nat} {w : World} {p : PV} {v : Value} (h : RP F κ N w p v) {n o s : Nat} {a : Bool} (hn : v.cells.size = n) (h1 : ∀ c ∈ v.cells, c.oneCell' = true)
    (ho : o + s ≤ n) (hs : (a = true ∧ 2 ≤ s) ∨ (a = false ∧ s = 1)) :
    RP F κ N w (p.part o s a) (if a then .agg ((v.cells.toList.drop o).take s).toArray else v.cells.getD o undef) := by
  have hone : ∀ c ∈ (v.cells.toList.drop o).take s, c.oneCell' = true := fun c hc => h1 c (by simpa using List.mem_of_mem_drop (List.mem_of_mem_take hc))
  by_cases hv : v.oneCell' = true
  · rw [cells_one hv] at hn ⊢
    simp at hn
    rcases hs with ⟨rfl, h2⟩ | ⟨rfl, rfl⟩
    · omega
    · obtain rfl : o = 0 := by omega
      simp only [Bool.false_eq_true, if_false]
      show RP F κ N w (p.part 0 1 false) v
      cases h with
      | t h =>
        have := eq_zero_cells (h.notAgg hv)
        simpa [PV.part, T.partD, T.cell, this] using RP.t h
      | agg hl _ _ => simp [Value.oneCell'] at hv
      | tup hl _ => simp [Value.oneCell'] at hv
      | nil => exact .nil
      | fn a b c d => exact .fn a b c d
      | ptr a b => exact .ptr a b
      | own a b => exact .own a b
      | eptr a b c => exact .eptr a b c
      | view a b => exact .view a b
      | full h => exact .full h
      | rp val a b c d e f => exact .rp val a b c d e f
      | junk => exact .junk
  · cases v with
    | tuple vs => exact absurd (h1 (.tuple vs) (by simp [Value.cells])) (by simp [Value.oneCell'])
    | agg vs =>
      simp only [Value.cells] at hn ho h1 hone ⊢
      cases h with
      | junk => exact .junk
      | @t x _ h =>
        cases h with
        | @agg cs vs hl ha hr =>
          simp only [PV.part]
          refine .t ?_
          simp only [List.size_toArray] at hn
          have := Rd.part_of (F := F) (w := w) (x := .agg cs) (k := n) (o := o) (s := s) (a := a) (val := fun j => vs.getD j undef) (by simp [T.cells]; omega)
            (fun j hj => by rw [List.getD_eq_getElem?_getD, List.getElem?_eq_getElem (by omega)]; exact ha _ (List.getElem_mem _))
            (fun j y hy => by
              have hj : j < vs.length := by rw [hl]; exact (List.getElem?_eq_some_iff.1 hy).1
              rw [List.getD_eq_getElem?_getD, List.getElem?_eq_getElem hj]
              exact hr j y _ hy (List.getElem?_eq_getElem hj)) ho (by rcases hs with ⟨rfl, _⟩ | ⟨rfl, h⟩ <;> simp_all)
          cases a with
          | true =>
            simp only [if_true] at this ⊢
            have e : ((List.range s).map fun j => vs.getD (o + j) undef) = (vs.drop o).take s := by
              apply List.ext_getElem
              · simp; omega
              · intro i h1 h2
                simp at h1
                simp [List.getD_eq_getElem?_getD, List.getElem?_eq_getElem (show o + i < vs.length by omega)]
            rwa [e] at this
          | false =>
            simp only [Bool.false_eq_true, if_false] at this ⊢
            simpa [List.getD_eq_getElem?_getD] using this
      | @agg cs vs hl ha hr =>
        simp only [PV.part]
        simp only [List.size_toArray] at hn
        rcases hs with ⟨rfl, h2⟩ | ⟨rfl, rfl⟩
        · simp only [cond_true, if_true]
          refine mkAgg_rp (by simp; omega) hone fun i p v hp hv => ?_
          rw [List.getElem?_take] at hp hv
          split at hp
          · rename_i hi
            rw [if_pos hi] at hv
            rw [List.getElem?_drop] at hp hv
            exact hr _ _ _ hp (by simpa using hv)
          · cases hp
        · simp only [cond_false, Bool.false_eq_true, if_false]
          have h2 : o < cs.length := by omega
          refine hr o _ _ (by rw [List.getD_eq_getElem?_getD, List.getElem?_eq_getElem h2]; rfl) ?_
          simp [List.getElem?_eq_getElem (show o < vs.length by omega)]
    | _ => exact absurd rfl hv

theorem load_rows {F : Nat → Prop} {w : World} {t : TypeId} {s k : Nat} {a : Bool} (hs : szP P t = some s) (ha : aggP P t = some a) (hg : (a = true ∧ 2 ≤ s) ∨ (a = false ∧ s = 1))
    {x : T} {b p : Nat} {val : Nat → Value} (hk : x.cells.length = k) (hag : k = 1 → x.isAgg = false) (h1 : ∀ j, j < k → (val j).oneCell' = true)
    (hc : ∀ j, j < k → w.cell? ⟨b, p + j, none⟩ = some (val j)) (hr : ∀ j y, x.cells[j]? = some y → Rd F w y (val j)) (o : Nat) (ho : o + s ≤ k) :
    ∃ u, (Instr.loadAt t (.pointer (some ⟨b, p + o, none⟩))).run P w = .ok u w ∧ Rd F w (x.partD o s a) u ∧ (o = 0 → s = k → Rd F w x u) := by
  have hrun := run_load_cells hs ha w b (p + o) ((List.range s).map fun j => val (o + j)) (by simp) (by rcases hg with ⟨rfl, _⟩ | ⟨rfl, h⟩ <;> simp_all) (fun j v hv => by
    have hj : j < s := by have := (List.getElem?_eq_some_iff.1 hv).1; simpa using this
    rw [List.getElem?_map, List.getElem?_range hj] at hv
    simp at hv
    subst hv
    rw [Nat.add_assoc]
    exact hc _ (by omega))
  refine ⟨_, hrun, ?_, fun h0 h2 => ?_⟩
  · have := Rd.part_of (a := a) hk h1 hr ho (by rcases hg with ⟨rfl, _⟩ | ⟨rfl, h⟩ <;> simp_all)
    rcases hg with ⟨rfl, _⟩ | ⟨rfl, rfl⟩
    · simpa using this
    · simpa [List.range_succ] using this
  · subst h0
    subst h2
    have := Rd.whole_of hk hag h1 hr hg
    rcases hg with ⟨rfl, _⟩ | ⟨rfl, rfl⟩
    · simpa using this
    · simpa [List.range_succ] using this
end

/-- A row's cells. -/
theorem row_cells {F : Nat → Prop} {κ : Nat → Value} {N l : Nat} {w : World} {e k : Nat} {xs : List T} (h : RO F κ N w l (.row e k xs)) {b n c : Nat} (hk : κ l = .slice (some ⟨b, 0, none⟩) n c) {i : Nat} (hi : i < xs.length) :
    ∃ val : Nat → Value, (xs.getD i .nilp).cells.length = k ∧ (k = 1 → (xs.getD i .nilp).isAgg = false) ∧ (∀ j, j < k → (val j).oneCell' = true) ∧ (∀ j, j < k → w.cell? ⟨b, i * k + j, none⟩ = some (val j)) ∧
      (∀ j y, (xs.getD i .nilp).cells[j]? = some y → Rd F w y (val j)) := by
  obtain ⟨cs, h1, h2, h3, h4, h5⟩ := h
  have hx : xs.getD i .nilp ∈ xs := by rw [List.getD_eq_getElem?_getD, List.getElem?_eq_getElem hi]; exact List.getElem_mem _
  have hcs : cs.length = xs.length * k := h1.1
  have hin : ∀ j, j < k → i * k + j < cs.length := fun j hj => by
    rw [hcs]
    calc i * k + j < i * k + k := by omega
      _ = (i + 1) * k := by rw [Nat.succ_mul]
      _ ≤ xs.length * k := Nat.mul_le_mul_right _ hi
  refine ⟨fun j => cs.getD (i * k + j) undef, (h3 _ hx).1, (h3 _ hx).2, fun j hj => ?_, fun j hj => ?_, fun j y hy => ?_⟩
  · show (cs.getD (i * k + j) undef).oneCell' = true
    rw [List.getD_eq_getElem?_getD, List.getElem?_eq_getElem (hin j hj)]; exact h4 _ (List.getElem_mem _)
  · have := h1.cells (g := b) (by rw [hk]; rfl) (i * k + j) (cs.getD (i * k + j) undef) (by rw [List.getD_eq_getElem?_getD, List.getElem?_eq_getElem (hin j hj)]; rfl)
    rwa [add_mid, Nat.zero_add] at this
  · have hj : j < k := by rw [← (h3 _ hx).1]; exact (List.getElem?_eq_some_iff.1 hy).1
    refine h5 i _ j y _ ?_ hy ?_
    · rw [List.getD_eq_getElem?_getD, List.getElem?_eq_getElem hi]; rfl
    · simp [List.getElem?_eq_getElem (hin j hj)]

theorem sl_cells {F : Nat → Prop} {w : World} {k : Nat} {xs : List T} {A : Option Addr} {n c : Nat} (h : Rd F w (.sl k xs) (.slice A n c)) {i : Nat} (hi : i < xs.length) :
    ∃ b o, A = some ⟨b, o, none⟩ ∧ F b ∧ ∃ val : Nat → Value, (xs.getD i .nilp).cells.length = k ∧ (k = 1 → (xs.getD i .nilp).isAgg = false) ∧ (∀ j, j < k → (val j).oneCell' = true) ∧ (∀ j, j < k → w.cell? ⟨b, o + i * k + j, none⟩ = some (val j)) ∧
      (∀ j y, (xs.getD i .nilp).cells[j]? = some y → Rd F w y (val j)) := by
  cases h with
  | sl b o val hn hb hk hA h1 hc hr =>
    have hx : xs.getD i .nilp ∈ xs := by rw [List.getD_eq_getElem?_getD, List.getElem?_eq_getElem hi]; exact List.getElem_mem _
    exact ⟨b, o, (hA (by omega)).1, (hA (by omega)).2, val i, (hk _ hx).1, (hk _ hx).2, fun j hj => h1 i j hi hj, fun j hj => hc i j hi hj,
      fun j y hy => hr i _ j y (by rw [List.getD_eq_getElem?_getD, List.getElem?_eq_getElem hi]; rfl) hy⟩
theorem sl_len {F : Nat → Prop} {w : World} {k : Nat} {xs : List T} {A : Option Addr} {n c : Nat} (h : Rd F w (.sl k xs) (.slice A n c)) : n = xs.length ∧ n ≤ c ∧ n ≤ big := by
  cases h with
  | sl b o val hn hb hk hA h1 hc hr => exact ⟨rfl, hn, hb⟩
theorem row_len {F : Nat → Prop} {κ : Nat → Value} {N l : Nat} {w : World} {e k : Nat} {xs : List T} (h : RO F κ N w l (.row e k xs)) : ∃ A c, κ l = .slice A xs.length c ∧ xs.length ≤ big := by
  obtain ⟨cs, h1, h2, _⟩ := h
  rcases h1.2 with ⟨e1, e2⟩ | ⟨g, cap, cur, e1, _⟩
  · exact ⟨none, 0, by rw [e1, e2], h2⟩
  · exact ⟨_, cap, e1, h2⟩

end Go.Sim
