/- Operands; new variables; literals. -/
import Derived.Test.YtmidmdabmalhgaaD13
import Derived.Great.BuildSlice
namespace Go.Sim
open Go.RowKit
set_option linter.unusedVariables false
set_option linter.unusedSimpArgs false

section
variable {F : Nat → Prop} {κ : Nat → Value} {N : Nat} {w : World} {P : Program}

theorem pvLeaf_sound {t : TypeId} {v : Value} {p : PV} (h : pvLeaf P t v = some p) : RP F κ N w p v ∧ v.oneCell' = true := by
  unfold pvLeaf at h
  split at h
  · rename_i k n
    cases hk : kindOk k n with
    | true => simp [hk] at h; subst h; exact ⟨.t (.int hk), rfl⟩
    | false => simp [hk] at h
  · injection h with h; subst h; exact ⟨.t .bool, rfl⟩
  · rename_i s
    cases hk : decide (s.size ≤ big) with
    | true => simp [hk] at h; subst h; exact ⟨.t (.str (by simpa using hk)), rfl⟩
    | false => simp [hk] at h
  · injection h with h; subst h; exact ⟨.t .nilp, rfl⟩
  · injection h with h; subst h; exact ⟨.t .nilfn, rfl⟩
  · injection h with h; subst h; exact ⟨.t .nilif, rfl⟩
  · split at h
    · simp only [Option.map_eq_some_iff] at h
      obtain ⟨k, _, rfl⟩ := h
      exact ⟨.nil, rfl⟩
    · cases h
  · cases h

theorem pvZip_sound : ∀ {ts : List TypeId} {vs : List Value} {ps : List PV}, pvZip (pvLeaf P) ts vs = some ps → vs.length = ps.length ∧ (∀ v ∈ vs, v.oneCell' = true) ∧ ∀ (i : Nat) (p : PV) (v : Value), ps[i]? = some p → vs[i]? = some v → RP F κ N w p v
  | [], [], ps, h => by simp [pvZip] at h; subst h; simp
  | [], _ :: _, ps, h => by simp [pvZip] at h
  | _ :: _, [], ps, h => by simp [pvZip] at h
  | t :: ts, v :: vs, ps, h => by
    simp only [pvZip] at h
    cases h1 : pvLeaf P t v with
    | none => simp [h1] at h
    | some p =>
      cases h2 : pvZip (pvLeaf P) ts vs with
      | none => simp [h1, h2] at h
      | some r =>
        simp [h1, h2] at h
        subst h
        obtain ⟨a, b⟩ := pvLeaf_sound (F := F) (κ := κ) (N := N) (w := w) h1
        obtain ⟨c, d, e⟩ := pvZip_sound h2
        refine ⟨by simp [c], fun u hu => ?_, fun i p' u hp hu => ?_⟩
        · rcases List.mem_cons.1 hu with rfl | hu
          · exact b
          · exact d u hu
        · cases i with
          | zero => simp at hp hu; subst hp; subst hu; exact a
          | succ i => exact e i p' u (by simpa using hp) (by simpa using hu)

theorem pvConst_sound {t : TypeId} {v : Value} {p : PV} (h : pvConst P t v = some p) : RP F κ N w p v := by
  unfold pvConst at h
  split at h
  · rename_i vs
    split at h
    · rename_i ts hts
      simp only [Option.map_eq_some_iff] at h
      obtain ⟨ps, h1, rfl⟩ := h
      obtain ⟨a, b, c⟩ := pvZip_sound (F := F) (κ := κ) (N := N) (w := w) h1
      have := mkAgg_rp (κ := κ) (N := N) a b c
      simpa using this
    · cases h
  · rename_i vs
    cases hv : vs.isEmpty with
    | true =>
      simp [hv] at h
      subst h
      have : vs = #[] := by simpa using hv
      subst this
      exact undef_rp
    | false => simp [hv] at h
  · exact (pvLeaf_sound h).1

def TRn (F : Nat → Prop) (κ : Nat → Value) (N : Nat) (w : World) (tm : List PV) (vs : Array Value) : Prop := ∀ (i : Nat) (q : PV) (v : Value), tm[i]? = some q → vs[i]? = some v → RP F κ N w q v

theorem evalO_sound {tm : List PV} {a : Act} (hl : a.tmps.size = tm.length) (ht : TRn F κ N w tm a.tmps) {t : TypeId} {o : Operand} {p : PV} (h : evalO P tm t o = some p) : RP F κ N w p (a.eval o) := by
  cases o with
  | tmp i =>
    simp only [evalO, Option.some.injEq] at h
    subst h
    simp only [Act.eval]
    by_cases hi : i < tm.length
    · have h2 : i < a.tmps.size := by rw [hl]; exact hi
      rw [List.getD_eq_getElem?_getD, List.getElem?_eq_getElem hi, Array.getD_eq_getD_getElem?, Array.getElem?_eq_getElem h2]
      exact ht i _ _ (List.getElem?_eq_getElem hi) (Array.getElem?_eq_getElem h2)
    · have h1 : tm.length ≤ i := Nat.le_of_not_lt hi
      have h2 : a.tmps.size ≤ i := by rw [hl]; exact h1
      rw [List.getD_eq_getElem?_getD, List.getElem?_eq_none h1, Array.getD_eq_getD_getElem?, Array.getElem?_eq_none h2]
      exact undef_rp
  | const v => exact pvConst_sound h
  | global g => simp [evalO] at h
  | func f =>
    simp only [evalO, Option.some.injEq] at h
    subst h
    exact .t (.fn (vf := []) (vc := []) rfl rfl (fun i x v h => by simp at h) (fun i x v h => by simp at h))

theorem evalO_is {a : Act} {o : Operand} : Is o (a.eval o) := fun c h => by subst h; rfl

theorem evalOs_sound {tm : List PV} {a : Act} (hl : a.tmps.size = tm.length) (ht : TRn F κ N w tm a.tmps) {ty : Nat → TypeId} : ∀ {os : List Operand} {j : Nat} {ps : List PV}, evalOs P tm ty j os = some ps →
    ps.length = os.length ∧ ∀ (i : Nat) (p : PV) (v : Value), ps[i]? = some p → (os.map a.eval)[i]? = some v → RP F κ N w p v
  | [], j, ps, h => by simp [evalOs] at h; subst h; simp
  | o :: os, j, ps, h => by
    simp only [evalOs] at h
    cases h1 : evalO P tm (ty j) o with
    | none => simp [h1] at h
    | some p =>
      cases h2 : evalOs P tm ty (j + 1) os with
      | none => simp [h1, h2] at h
      | some r =>
        simp [h1, h2] at h
        subst h
        obtain ⟨a1, a2⟩ := evalOs_sound hl ht h2
        refine ⟨by simp [a1], fun i p' v hp hv => ?_⟩
        cases i with
        | zero => simp at hp hv; subst hp; subst hv; exact evalO_sound hl ht h1
        | succ i => exact a2 i p' v (by simpa using hp) (by simpa using hv)
theorem partsOf_sound {tm : List PV} {a : Act} (hl : a.tmps.size = tm.length) (ht : TRn F κ N w tm a.tmps) {ty : Nat → TypeId} : ∀ {os : List (Nat × Operand)} {ps : List (Nat × PV)}, partsOf P tm ty os = some ps →
    ps.length = os.length ∧ ∀ (i : Nat) (p : Nat × PV) (v : Nat × Value), ps[i]? = some p → (os.map fun x => (x.1, a.eval x.2))[i]? = some v → p.1 = v.1 ∧ RP F κ N w p.2 v.2
  | [], ps, h => by simp [partsOf] at h; subst h; simp
  | (k, o) :: os, ps, h => by
    simp only [partsOf] at h
    cases h1 : evalO P tm (ty k) o with
    | none => simp [h1] at h
    | some p =>
      cases h2 : partsOf P tm ty os with
      | none => simp [h1, h2] at h
      | some r =>
        simp [h1, h2] at h
        subst h
        obtain ⟨a1, a2⟩ := partsOf_sound hl ht h2
        refine ⟨by simp [a1], fun i p' v hp hv => ?_⟩
        cases i with
        | zero => simp at hp hv; subst hp; subst hv; exact ⟨rfl, evalO_sound hl ht h1⟩
        | succ i => exact a2 i p' v (by simpa using hp) (by simpa using hv)
theorem optO_sound {tm : List PV} {a : Act} (hl : a.tmps.size = tm.length) (ht : TRn F κ N w tm a.tmps) {o : Option Operand} {p : Option PV} (h : optO P tm o = some p) : OptR F κ N w p (o.map a.eval) := by
  cases o with
  | none => simp [optO] at h; subst h; trivial
  | some o =>
    simp only [optO, Option.map_eq_some_iff] at h
    obtain ⟨q, h1, rfl⟩ := h
    exact evalO_sound hl ht h1
end

section
variable {β : Type} {E : Env} {st : St} {F : Nat → Prop} {κ : Nat → Value} {w : World} {N0 : Nat} {tm : Array Value}

/-- A new variable. -/
theorem newVar_sound {e : TypeId} {n : Nat} {p : PV} {v : Value} (h0 : N0 ≤ st.heap.length) (s : SI F κ w st.heap) (ht : TR F κ w st tm) (hp : RP F κ st.heap.length w p v) (ho : p.okS n = true) :
    ∃ w' κ', (newVar e v).run E.P w = .ok ⟨w.heap.size, 0, none⟩ w' ∧ Next' N0 F κ w st tm (.ptr st.heap.length 0) (.pointer (some ⟨w.heap.size, 0, none⟩)) F κ' w' ⟨st.tmps, st.heap ++ [.box e n p]⟩ := by
  obtain ⟨a, b⟩ := okS_sound hp ho
  refine ⟨w.alloc (.cells v.cells e), upd κ st.heap.length (.pointer (some ⟨w.heap.size, 0, none⟩)), by simp [newVar, newRow], ?_⟩
  have hold : ∀ b, b < w.heap.size → (w.alloc (.cells v.cells e)).heap[b]? = w.heap[b]? := fun b hb => heap_alloc_old' w _ b hb
  refine Next'.push h0 s ht rfl rfl rfl (by simp) hold (fun _ h => h) (fun _ h => .inl h) (fun b hb => by have := s.fl b hb; simp; omega) ?_ (fun b hb => ?_) (.ptr (by omega) (upd_same κ _ _))
  · exact ⟨w.heap.size, v.cells, v, upd_same κ _ _, heap_alloc_new' w _, rfl, a, b, hp.push s _ hold (fun _ h => h)⟩
  · simp only [blk, upd_same, ptrBlock, Option.some.injEq] at hb
    subst hb
    exact ⟨Nat.le_refl _, by simp, fun hf => absurd (s.fl _ hf) (by omega)⟩

/-- Rows that have been made. -/
theorem newRow_sound {e k cap : Nat} {xs : List T} {cells : Array Value} (h0 : N0 ≤ st.heap.length) (s : SI F κ w st.heap) (ht : TR F κ w st tm)
    (hcap : xs.length ≤ cap) (hmax : cap ≤ maxLen) (hsz : cells.size = cap * k) (hb : xs.length ≤ big) (hx : ∀ x ∈ xs, x.cells.length = k ∧ (k = 1 → x.isAgg = false)) (h1 : ∀ c ∈ cells, c.oneCell' = true)
    (hr : ∀ (i : Nat) (x : T) (j : Nat) (y : T) (v : Value), xs[i]? = some x → x.cells[j]? = some y → cells[i * k + j]? = some v → Rd F w y v) :
    ∃ κ', Next' N0 F κ w st tm (.own st.heap.length) (.slice (some ⟨w.heap.size, 0, none⟩) xs.length cap) F κ' (w.alloc (.cells cells e)) ⟨st.tmps, st.heap ++ [.row e k xs]⟩ := by
  have hold : ∀ b, b < w.heap.size → (w.alloc (.cells cells e)).heap[b]? = w.heap[b]? := fun b hb => heap_alloc_old' w _ b hb
  refine ⟨upd κ st.heap.length (.slice (some ⟨w.heap.size, 0, none⟩) xs.length cap), Next'.push h0 s ht rfl rfl rfl (by simp) hold (fun _ h => h) (fun _ h => .inl h) (fun b hb => by have := s.fl b hb; simp; omega) ?_ (fun b hb => ?_) (.own (by omega) (upd_same κ _ _))⟩
  · have hle : xs.length * k ≤ cells.size := by rw [hsz]; exact Nat.mul_le_mul_right _ hcap
    refine ⟨cells.toList.take (xs.length * k), ?_, hb, hx, fun c hc => h1 c (by simpa using List.mem_of_mem_take hc), fun i x j y v hi hy hv => ?_⟩
    · rw [upd_same]
      exact ⟨by simp; omega, .inr ⟨w.heap.size, cap, cells, rfl, by omega, heap_alloc_new' w _, hcap, hmax, hsz, rfl⟩⟩
    · rw [List.getElem?_take] at hv
      split at hv
      · exact (hr i x j y v hi hy (by simpa using hv)).mono (fun _ h => h) (fun b hb => hold b (s.fl b hb))
      · cases hv
  · simp only [blk, upd_same, Value.ownBlock, Option.some.injEq] at hb
    subst hb
    exact ⟨Nat.le_refl _, by simp, fun hf => absurd (s.fl _ hf) (by omega)⟩

theorem zero_of {e : TypeId} {z : PV} (h : ((E.P.info? e).bind (·.zero)).bind (pvConst E.P e) = some z) : ∃ i zv, E.P.info? e = some i ∧ i.zero = some zv ∧ pvConst E.P e zv = some z := by
  cases h1 : E.P.info? e with
  | none => simp [h1] at h
  | some i =>
    cases h2 : i.zero with
    | none => simp [h1, h2] at h
    | some zv => exact ⟨i, zv, rfl, h2, by simpa [h1, h2] using h⟩

theorem makeSliceK_sound {t : TypeId} {p q : PV} {K : PV → St → Res β} {v u : Value} (h : makeSliceK E st t p q K ≠ .stuck) (h0 : N0 ≤ st.heap.length) (s : SI F κ w st.heap) (ht : TR F κ w st tm) (hp : RP F κ st.heap.length w p v) (hq : RP F κ st.heap.length w q u) :
    ∃ r x st' F' κ' w', makeSliceK E st t p q K = K r st' ∧ (Instr.makeSlice t v u).run E.P w = .ok x w' ∧ Next' N0 F κ w st tm r x F' κ' w' st' := by
  unfold makeSliceK at h ⊢
  cases he : elP E.P t with
  | none => simp [he] at h
  | some e =>
    cases hp with
    | @t n _ hn =>
      cases hq with
      | @t c _ hc =>
        simp only [he] at h ⊢
        cases hs : szP E.P e with
        | none => simp [hs] at h
        | some k =>
          cases k with
          | zero => simp [hs] at h
          | succ k =>
            cases hb : byP E.P e with
            | none => simp [hs, hb] at h
            | some b =>
              cases b with
              | zero => simp [hs, hb] at h
              | succ b =>
                cases hz : ((E.P.info? e).bind (·.zero)).bind (pvConst E.P e) with
                | none => simp [hs, hb, hz] at h
                | some z =>
                  simp only [hs, hb, hz] at h ⊢
                  obtain ⟨zt, g1, e1⟩ := someK_inv h
                  rw [e1] at h ⊢; clear e1
                  obtain ⟨nn, rfl, e1⟩ := iT_inv h
                  rw [e1] at h ⊢; clear e1
                  obtain ⟨cc, rfl, e1⟩ := iT_inv h
                  rw [e1] at h ⊢; clear e1
                  obtain ⟨g2, e1⟩ := chk_inv h
                  rw [e1] at h ⊢; clear e1
                  obtain ⟨g3, e1⟩ := chk_inv h
                  rw [e1] at h ⊢; clear e1
                  simp only [Bool.and_eq_true, decide_eq_true_eq] at g2 g3
                  obtain ⟨g2, g2'⟩ := g2
                  obtain ⟨⟨g4, g5⟩, g6⟩ := g3
                  cases hn
                  cases hc
                  obtain ⟨i, zv, i1, i2, i3⟩ := zero_of hz
                  have hsz : i.size = k + 1 := by simpa [szP, i1] using hs
                  have hby : i.bytes = b + 1 := by simpa [byP, i1] using hb
                  have hzs : zv.cells.size = k + 1 := by unfold zeroOk at g2; simpa [i1, i2] using g2
                  have hz0 : Rd F w zt zv := by
                    have s0 : SI F κ w [] := ⟨by simp, by simp, by simp, s.fl⟩
                    have h := pvConst_sound (F := F) (κ := κ) (N := 0) (w := w) i3
                    exact frz_sound (F' := F) s0 h (fun _ h => h) g1 (by simp)
                  obtain ⟨z1, z2, z3, z4, z5⟩ := okE_sound hz0 g2'
                  have hcb : cc.toNat ≤ big := Nat.le_trans (Nat.le_mul_of_pos_right _ (by omega)) g6
                  have hbig : big ≤ 281474976710656 := by decide
                  have hmax := big_max
                  have hrun := run_make (P := E.P) w t e i zv (elP_underlying he) i1 i2 .i64 .i64 nn cc g4 g5 (by rw [hby]; have : ((cc.toNat * (b + 1) : Nat) : Int) ≤ 281474976710656 := by omega
                                                                                                                  have e : (cc.toNat : Int) = cc := Int.toNat_of_nonneg (by omega)
                                                                                                                  rw [Int.natCast_mul, e] at this
                                                                                                                  rw [Int.mul_comm]; exact this) (by omega)
                  have hle : nn.toNat ≤ cc.toNat := by omega
                  have hnb : nn.toNat ≤ big := by omega
                  have hcell : ∀ m v, (madeCells zv.cells (cc.toNat * i.size))[m]? = some v → zv.cells[m % (k + 1)]? = some v := by
                    intro m v hv
                    have hm : m < cc.toNat * i.size := by have := (Array.getElem?_eq_some_iff.1 hv).1; simpa [madeCells] using this
                    have hmod : m % (k + 1) < zv.cells.size := by rw [hzs]; exact Nat.mod_lt _ (by omega)
                    rw [Array.getElem?_eq_getElem (by simpa [madeCells] using hm)] at hv
                    simp only [madeCells, Array.getElem_map, Array.getElem_range, Option.some.injEq, hzs] at hv
                    rw [← hv, getElem!_pos zv.cells _ hmod, Array.getElem?_eq_getElem hmod]
                  obtain ⟨κ', hnext⟩ := newRow_sound (e := e) (k := k + 1) (cap := cc.toNat) (xs := List.replicate nn.toNat zt) (cells := madeCells zv.cells (cc.toNat * i.size)) h0 s ht (by simpa using hle) (by omega) (by rw [size_madeCells, hsz]) (by simpa using hnb)
                    (fun x hx => by rw [(List.mem_replicate.1 hx).2]; exact ⟨z1, z2⟩)
                    (fun c hc => by
                      obtain ⟨m, hm, rfl⟩ := Array.getElem_of_mem hc
                      exact z4 _ (Array.mem_of_getElem? (hcell m _ (Array.getElem?_eq_getElem hm))))
                    (fun i' x j y v hx hy hv => by
                      have := (List.mem_replicate.1 (List.mem_of_getElem? hx)).2
                      subst this
                      have hj : j < k + 1 := by rw [← z1]; exact (List.getElem?_eq_some_iff.1 hy).1
                      have h2 := hcell _ v hv
                      rw [Nat.mul_comm, Nat.mul_add_mod, Nat.mod_eq_of_lt hj] at h2
                      exact z5 j y v hy h2)
                  rw [List.length_replicate] at hnext
                  exact ⟨_, _, _, F, κ', _, rfl, hrun, hnext⟩
      | _ => simp [he] at h
    | _ => simp [he] at h
end
end Go.Sim
