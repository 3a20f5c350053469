/- clear and copy onto rows of one's own; parts of values. -/
import Derived.Test.YtmidmdabmalhgaaD18
namespace Go.Sim
open Go.RowKit
set_option linter.unusedVariables false
set_option linter.unusedSimpArgs false

section
variable {β : Type} {E : Env} {st : St} {F : Nat → Prop} {κ : Nat → Value} {w : World} {N0 : Nat} {tm : Array Value}

/-- The steps of a write onto a part of a row. -/
theorem part_write (h0 : N0 ≤ st.heap.length) (s : SI F κ w st.heap) (ht : TR F κ w st tm) {l e k a b : Nat} {xs ys : List T} (ho : st.heap[l]? = some (.row e k xs)) {v : Value} (hv : ViewV (κ l) v k a b)
    (hb : b ≤ xs.length) (ha : a + ys.length ≤ b) {news : List Value} (n1 : news.length = ys.length * k) (n2 : ∀ u ∈ news, u.oneCell' = true) (n3 : ∀ x ∈ ys, x.cells.length = k ∧ (k = 1 → x.isAgg = false))
    (n6 : ∀ (i : Nat) (x : T) (j : Nat) (y : T) (u : Value), ys[i]? = some x → x.cells[j]? = some y → news[i * k + j]? = some u → Rd F w y u) (p : PV) (u : Value) (hp : RP F κ st.heap.length w p u) :
    ∃ A c w', v = .slice A (b - a) c ∧ (A = none → ys = []) ∧ (∀ ad, A = some ad → (storeCells ad news).run E.P w = .ok () w') ∧ (A = none → w' = w) ∧ Next' N0 F κ w st tm p u F κ w' ⟨st.tmps, st.heap.set l (.row e k (spliceT xs a ys))⟩ := by
  obtain ⟨A, n, c, A', ⟨v1, vb⟩, rfl, v3, v4, v5⟩ := hv
  obtain ⟨cs, o1, _⟩ := s.ro l _ ho
  have same : ys = [] → Next' N0 F κ w st tm p u F κ w ⟨st.tmps, st.heap.set l (.row e k (spliceT xs a ys))⟩ := fun h => by
    subst h
    rw [spliceT_nil, set_self ho]
    exact Next'.same h0 s ht hp
  have hle : n ≤ c ∧ n = xs.length := by
    rcases o1.2 with ⟨q1, q2⟩ | ⟨g, cap, cur, q1, _, _, q2, _⟩
    · rw [v1] at q1; injection q1 with q1 q3 q4; omega
    · rw [v1] at q1; injection q1 with q1 q3 q4; omega
  rcases v5 with ⟨rfl, rfl⟩ | ⟨g, o, rfl, rfl, v6⟩
  · have hys : ys = [] := by
      rcases o1.2 with ⟨q1, q2⟩ | ⟨g, cap, cur, q1, _⟩
      · exact List.eq_nil_of_length_eq_zero (by omega)
      · rw [v1] at q1; cases q1
    exact ⟨none, c - a, w, rfl, fun _ => hys, fun ad h => (by cases h), fun _ => rfl, same hys⟩
  · rcases Nat.eq_zero_or_pos ys.length with ey | ey
    · have hys : ys = [] := List.eq_nil_of_length_eq_zero ey
      have hn : news = [] := List.eq_nil_of_length_eq_zero (by rw [n1, ey]; simp)
      exact ⟨_, c - a, w, rfl, fun _ => hys, fun ad h => (by rw [hn]; rfl), fun h => (by cases h), same hys⟩
    · obtain ⟨w', g1, g2, g3, g4⟩ := row_splice (P := E.P) (N0 := N0) (a := a) s h0 ho v1 (by omega) n1 n2 n3 n6
      refine ⟨_, c - a, w', rfl, fun h => (by cases h), fun ad h => ?_, fun h => (by cases h), g2, g3, by simpa using g4 p u hp, rfl, fun i q u g5 g6 => ?_⟩
      · injection h with h
        subst h
        rw [v6 (by omega)]
        exact g1
      · simpa using g4 q u (ht i q u g5 g6)

theorem zero_cells {z : Value} {k n : Nat} (hz : z.cells.size = k + 1) (i : Nat) (hi : i < n * (k + 1)) : (Builtin.zeroCells z.cells n)[i]? = z.cells[i % (k + 1)]? := by
  unfold Builtin.zeroCells
  rw [Array.getElem?_map, Array.getElem?_range, hz]
  rw [if_pos (by simpa using hi)]
  have : i % (k + 1) < z.cells.size := by rw [hz]; exact Nat.mod_lt _ (by omega)
  simp only [Option.map_some]
  rw [getElem!_pos z.cells _ this, Array.getElem?_eq_getElem this]

theorem clearK_sound {t ty : TypeId} {p : PV} {K : St → Res β} {v : Value} (h : clearK E st t p K ≠ .stuck) (h0 : N0 ≤ st.heap.length) (s : SI F κ w st.heap) (ht : TR F κ w st tm) (hp : RP F κ st.heap.length w p v) :
    ∃ st' w', clearK E st t p K = K st' ∧ (Builtin.clear_ #[t] ty #[v]).run E.P w = .ok undef w' ∧ Next' N0 F κ w st tm undefV undef F κ w' st' := by
  unfold clearK at h ⊢
  cases he : elP E.P t with
  | none => simp [he] at h
  | some e =>
    cases hs : szP E.P e with
    | none => simp [he, hs] at h
    | some k =>
      cases k with
      | zero => simp [he, hs] at h
      | succ k =>
        cases hz : ((E.P.info? e).bind (·.zero)).bind (pvConst E.P e) with
        | none => simp [he, hs, hz] at h
        | some z =>
          simp only [he, hs, hz] at h ⊢
          obtain ⟨z', h1, e1⟩ := someK_inv h
          rw [e1] at h ⊢
          obtain ⟨h2, e2⟩ := chk_inv h
          rw [e2] at h ⊢
          clear e1 e2
          simp only [Bool.and_eq_true] at h2
          cases hr : rowView st.heap p with
          | none => simp [hr] at h
          | some q =>
            obtain ⟨l, k', a, b, full⟩ := q
            simp only [hr] at h ⊢
            obtain ⟨e', kr, xs, A0, c, r1, r2, r3, r4, r5, r6, r7⟩ := rowView_sound hr s hp
            rw [r1] at h ⊢
            simp only [] at h ⊢
            obtain ⟨g1, e3⟩ := cond_inv' h
            rw [e3] at h ⊢
            obtain ⟨g2, e4⟩ := chk_inv h
            rw [e4]
            clear e3 e4
            simp only [Bool.and_eq_true, beq_iff_eq, decide_eq_true_eq] at g1 g2
            obtain ⟨⟨rfl, rfl⟩, rfl⟩ := g1
            obtain ⟨i, zv, i1, i2, i3⟩ := zero_of hz
            have hu := elP_underlying he
            have hrz : RP F κ 0 w z zv := pvConst_sound i3
            have hfz : Rd F w z' zv := by
              have := frz_sound (F := F) (F' := F) (κ := κ) (w := w) (H := []) ⟨fun l o h => by simp at h, fun l o b h => by simp at h, fun l l' o o' b h => by simp at h, s.fl⟩ hrz (fun _ h => h) h1 (fun l _ e k xs b h => by simp at h)
              exact this
            obtain ⟨z1, z2, z3, z4, z5⟩ := okE_sound hfz h2.2
            have hsz : (Builtin.zeroCells zv.cells (b - a)).toList.length = (List.replicate (b - a) z').length * (k + 1) := by simp [Builtin.zeroCells, z3]
            have hget : ∀ q u, (Builtin.zeroCells zv.cells (b - a)).toList[q]? = some u → zv.cells[q % (k + 1)]? = some u := fun q u hq => by
              have hlt : q < (b - a) * (k + 1) := by
                have := (List.getElem?_eq_some_iff.1 hq).1
                rw [hsz] at this
                simpa using this
              rw [Array.getElem?_toList, zero_cells z3 q hlt] at hq
              exact hq
            obtain ⟨A, cc, w', rfl, p1, p2, p3, p4⟩ := part_write (E := E) (N0 := N0) (tm := tm) (ys := List.replicate (b - a) z') (news := (Builtin.zeroCells zv.cells (b - a)).toList) h0 s ht r1 r4 r5 (by simp; omega) hsz
              (fun u hu => by
                obtain ⟨q, hq⟩ := List.getElem?_of_mem hu
                exact z4 u (Array.mem_of_getElem? (hget q u hq)))
              (fun x hx => by rw [(List.mem_replicate.1 hx).2]; exact ⟨z1, z2⟩)
              (fun i x j y u hx hy hu => by
                have hx2 := (List.mem_replicate.1 (List.mem_of_getElem? hx)).2
                subst hx2
                have hj : j < k + 1 := by rw [← z1]; exact (List.getElem?_eq_some_iff.1 hy).1
                have h6 := hget _ _ hu
                rw [Nat.mul_comm i, Nat.mul_add_mod, Nat.mod_eq_of_lt hj] at h6
                exact z5 j y u hy h6) undefV undef undef_rp
            refine ⟨_, w', rfl, ?_, p4⟩
            cases A with
            | none =>
              rw [p3 rfl]
              simp [Builtin.clear_, run_underlying hu]
              rfl
            | some ad =>
              have := p2 ad rfl
              rcases Nat.eq_zero_or_pos (b - a) with e0 | e0
              · have hw : w' = w := by
                  rw [e0] at this
                  simp [Builtin.zeroCells, storeCells] at this
                  exact this.symm
                rw [hw, e0]
                simp [Builtin.clear_, run_underlying hu]
                rfl
              · obtain ⟨m, hm⟩ : ∃ m, b - a = m + 1 := ⟨b - a - 1, by omega⟩
                rw [hm] at this ⊢
                simp [Builtin.clear_, run_underlying hu, zeroValue, typeInfo, i1, i2, this]
                rfl

theorem copyK_sound {t t' ty : TypeId} {p q : PV} {K : PV → St → Res β} {v u : Value} (h : copyK E st t t' p q K ≠ .stuck) (h0 : N0 ≤ st.heap.length) (s : SI F κ w st.heap) (ht : TR F κ w st tm) (hp : RP F κ st.heap.length w p v) (hq : RP F κ st.heap.length w q u) :
    ∃ r x st' w', copyK E st t t' p q K = K r st' ∧ (Builtin.copy_ #[t, t'] ty #[v, u]).run E.P w = .ok x w' ∧ Next' N0 F κ w st tm r x F κ w' st' := by
  unfold copyK at h ⊢
  cases he : elP E.P t with
  | none => simp [he] at h
  | some e =>
    cases hs : szP E.P e with
    | none => simp [he, hs] at h
    | some k =>
      cases k with
      | zero => simp [he, hs] at h
      | succ k =>
        simp only [he, hs] at h ⊢
        obtain ⟨g0, e1⟩ := cond_inv' h
        rw [e1] at h ⊢
        obtain rfl : t = t' := by simpa using g0
        obtain ⟨ys, e2, hv⟩ := elemsK_sound h s hq
        rw [e2] at h ⊢
        clear e1 e2
        cases hr : rowView st.heap p with
        | none => simp [hr] at h
        | some q =>
          obtain ⟨l, k', a, b, full⟩ := q
          simp only [hr] at h ⊢
          obtain ⟨e', kr, xs, A0, c, r1, r2, r3, r4, r5, r6, r7⟩ := rowView_sound hr s hp
          rw [r1] at h ⊢
          simp only [] at h ⊢
          obtain ⟨g1, e3⟩ := cond_inv' h
          rw [e3] at h ⊢
          obtain ⟨g2, e4⟩ := chk_inv h
          rw [e4]
          clear e3 e4
          simp only [Bool.and_eq_true, beq_iff_eq, decide_eq_true_eq] at g1 g2
          obtain ⟨⟨rfl, rfl⟩, rfl⟩ := g1
          obtain ⟨A, cA, news, rfl, n1, n2, n3, n4, n5, n6⟩ := hv.news
          obtain ⟨i, hi', hsz⟩ := info_of_sz hs
          have hu := elP_underlying he
          have hlt : (ys.take (b - a)).length = min ys.length (b - a) := by simp [Nat.min_comm]
          have hnl : (news.take (min ys.length (b - a) * (k + 1))).length = min ys.length (b - a) * (k + 1) := by
            rw [List.length_take, n1]
            exact Nat.min_eq_left (Nat.mul_le_mul_right _ (Nat.min_le_left _ _))
          obtain ⟨A', cc, w', rfl, p1, p2, p3, p4⟩ := part_write (E := E) (N0 := N0) (tm := tm) (ys := ys.take (b - a)) (news := news.take (min ys.length (b - a) * (k + 1))) h0 s ht r1 r4 r5 (by rw [hlt]; omega) (by rw [hnl, hlt])
            (fun u hu => n2 u (List.mem_of_mem_take hu)) (fun x hx => n3 x (List.mem_of_mem_take hx))
            (fun i x j y u hx hy hu => by
              rw [List.getElem?_take] at hx hu
              split at hx
              · split at hu
                · exact n6 i x j y u hx hy hu
                · cases hu
              · cases hx) (.t (.int .i64 (min ys.length (b - a) : Nat))) (goInt ((min ys.length (b - a) : Nat) : Int)) (.t (.int (kindOk_nat (by omega))))
          refine ⟨_, _, _, w', rfl, ?_, p4⟩
          have hfc : (Builtin.firstCells (k + 1) (min ys.length (b - a)) (.slice A ys.length cA)).run E.P w = .ok (news.take (min ys.length (b - a) * (k + 1))).toArray w := by
            rcases n5 with ⟨rfl, rfl⟩ | ⟨ad, rfl, hA⟩
            · have : news = [] := List.eq_nil_of_length_eq_zero (by simpa using n1)
              subst this
              simp [Builtin.firstCells]
            · exact run_firstCells_some w (k + 1) _ ad ys.length cA _ hnl (fun j u hj => by
                rw [List.getElem?_take] at hj
                split at hj
                · exact hA j u hj
                · cases hj)
          cases A' with
          | none =>
            have hy : ys.take (b - a) = [] := p1 rfl
            rw [p3 rfl]
            have hm : min ys.length (b - a) = 0 := by rw [← hlt, hy]; rfl
            rw [hm] at hfc ⊢
            have hm' : Nat.min ys.length (b - a) = 0 := hm
            simp [Builtin.copy_, run_underlying hu, Builtin.lenOf, sizeOf, typeInfo, hi', hsz, hm', hfc]
          | some ad =>
            have := p2 ad rfl
            have hm' : Nat.min ys.length (b - a) = min ys.length (b - a) := rfl
            simp [Builtin.copy_, run_underlying hu, Builtin.lenOf, sizeOf, typeInfo, hi', hsz, hm', hfc, this]
end

section
variable {β : Type} {E : Env} {F : Nat → Prop} {κ : Nat → Value} {N : Nat} {w : World}
theorem partK_sound {t : TypeId} {s n o : Nat} {a : Bool} {p : PV} {K : PV → Res β} {v : Value} (h : partK s a n o p K ≠ .stuck) (hs : szP E.P t = some s) (ha : aggP E.P t = some a) (hp : RP F κ N w p v) :
    ∃ q u cs, v = .agg cs ∧ partK s a n o p K = K q ∧ (part t cs o).run E.P w = .ok u w ∧ RP F κ N w q u := by
  unfold partK at h ⊢
  obtain ⟨g1, e1⟩ := cond_inv h
  rw [e1] at h ⊢
  obtain ⟨g2, e2⟩ := chk_inv h
  rw [e2]
  simp only [Bool.and_eq_true, decide_eq_true_eq] at g2
  obtain ⟨⟨g3, g4⟩, g5⟩ := g2
  obtain ⟨u1, u2⟩ := okS_sound hp g3
  have hc := hp.cell_of u1 u2 g5 (guard_of g1)
  cases v with
  | agg cs =>
    refine ⟨_, _, cs, rfl, rfl, ?_, hc⟩
    simp only [Value.cells] at u1
    cases a with
    | true =>
      have hex : cs.extract o (o + s) = ((cs.toList.drop o).take s).toArray := by apply Array.ext'; simp [List.drop_take]
      simp [part, run_isAgg' ha, run_sizeOf' hs, Value.cells, hex]
    | false =>
      have hs1 : s = 1 := by rcases guard_of g1 with ⟨h, _⟩ | ⟨_, h⟩; cases h; exact h
      have hlt : o < cs.size := by omega
      simp [part, run_isAgg' ha, Value.cells, Array.getElem?_eq_getElem hlt]
  | _ => simp [Value.cells] at u1; omega

theorem arrK_sound {t : TypeId} {p i : PV} {K : PV → Res β} {v vi : Value} (h : arrK E t p i K ≠ .stuck) (hp : RP F κ N w p v) (hi : RP F κ N w i vi) :
    ∃ q u, arrK E t p i K = K q ∧ (Instr.index t v vi).run E.P w = .ok u w ∧ RP F κ N w q u := by
  unfold arrK at h ⊢
  cases hu : E.P.underlying t with
  | none => simp [hu] at h
  | some d =>
    cases d with
    | array n e =>
      cases hs : szP E.P e with
      | none => simp [hu, hs] at h
      | some s =>
        cases ha : aggP E.P e with
        | none => simp [hu, hs, ha] at h
        | some a =>
          cases hi with
          | @t iv vi hi =>
            simp only [hu, hs, ha] at h ⊢
            obtain ⟨ki, j, rfl, e1⟩ := anyT_inv h
            rw [e1] at h ⊢
            obtain ⟨g1, e2⟩ := chk_inv h
            rw [e2] at h ⊢
            cases hi
            simp only [Bool.and_eq_true, decide_eq_true_eq] at g1
            obtain ⟨q, u, cs, rfl, p1, p2, p3⟩ := partK_sound h hs ha hp
            refine ⟨q, u, p1, ?_, p3⟩
            simp [Instr.index, asIntOf, run_underlying hu, g1, run_sizeOf' hs, p2]
          | _ => simp [hu, hs, ha] at h
    | _ => simp [hu] at h

theorem fldK_sound {t : TypeId} {f : Nat} {p : PV} {K : PV → Res β} {v : Value} (h : fldK E t f p K ≠ .stuck) (hp : RP F κ N w p v) :
    ∃ q u, fldK E t f p K = K q ∧ (Instr.field t v f).run E.P w = .ok u w ∧ RP F κ N w q u := by
  unfold fldK at h ⊢
  cases hf : fieldP E.P t f with
  | none => simp [hf] at h
  | some q =>
    obtain ⟨off, ft⟩ := q
    cases hs : szP E.P ft with
    | none => simp [hf, hs] at h
    | some s =>
      cases ha : aggP E.P ft with
      | none => simp [hf, hs, ha] at h
      | some a =>
        cases hn : szP E.P t with
        | none => simp [hf, hs, ha, hn] at h
        | some n =>
          simp only [hf, hs, ha, hn] at h ⊢
          obtain ⟨q, u, cs, rfl, p1, p2, p3⟩ := partK_sound h hs ha hp
          refine ⟨q, u, p1, ?_, p3⟩
          unfold fieldP at hf
          cases hu : E.P.underlying t with
          | none => simp [hu] at hf
          | some d =>
            cases d with
            | struct fs =>
              simp only [hu, Option.map_eq_some_iff, Prod.mk.injEq] at hf
              obtain ⟨fd, h1, rfl, rfl⟩ := hf
              simp [Instr.field, run_underlying hu, h1, asAgg, p2]
            | _ => simp [hu] at hf
end
end Go.Sim
