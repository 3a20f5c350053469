/- Literals of structs, arrays, slices. -/
import Derived.Test.YtmidmdabmalhgaaD14
namespace Go.Sim
open Go.RowKit
set_option linter.unusedVariables false
set_option linter.unusedSimpArgs false

section
variable {β : Type} {E : Env} {st : St} {F : Nat → Prop} {κ : Nat → Value} {w : World} {N0 N : Nat} {tm : Array Value}

theorem fillK_sound {n : Nat} {place : Nat → Option (Nat × Nat)} {K : List PV → Res β} : ∀ {ps : List (Nat × PV)} {vs : List (Nat × Value)} {cs : List PV} {cells : Array Value}, fillK n place cs ps K ≠ .stuck →
    vs.length = ps.length → (∀ (i : Nat) (p : Nat × PV) (v : Nat × Value), ps[i]? = some p → vs[i]? = some v → p.1 = v.1 ∧ RP F κ N w p.2 v.2) →
    cs.length = n → cells.size = n → (∀ c ∈ cells, c.oneCell' = true) → (∀ (i : Nat) (p : PV) (c : Value), cs[i]? = some p → cells[i]? = some c → RP F κ N w p c) →
    ∃ cs' cells', fillK n place cs ps K = K cs' ∧ Instr.fill place cells vs = some cells' ∧ cs'.length = n ∧ cells'.size = n ∧ (∀ c ∈ cells', c.oneCell' = true) ∧
      (∀ (i : Nat) (p : PV) (c : Value), cs'[i]? = some p → cells'[i]? = some c → RP F κ N w p c)
  | [], vs, cs, cells, h, hl, hp, h1, h2, h3, h4 => by
    have : vs = [] := List.eq_nil_of_length_eq_zero hl
    subst this
    exact ⟨cs, cells, rfl, rfl, h1, h2, h3, h4⟩
  | (k, p) :: ps, [], cs, cells, h, hl, hp, h1, h2, h3, h4 => by simp at hl
  | (k, p) :: ps, (k', v) :: vs, cs, cells, h, hl, hp, h1, h2, h3, h4 => by
    obtain ⟨e0, hpv⟩ := hp 0 _ _ rfl rfl
    simp only at e0 hpv
    subst e0
    simp only [fillK] at h ⊢
    cases hpl : place k with
    | none => simp [hpl] at h
    | some os =>
      obtain ⟨o, s⟩ := os
      simp only [hpl] at h ⊢
      obtain ⟨g1, e1⟩ := cond_inv' h
      rw [e1] at h ⊢
      clear e1
      obtain ⟨g2, e1⟩ := chk_inv h
      rw [e1] at h ⊢
      clear e1
      have g1 : o + s ≤ n := by simpa using g1
      obtain ⟨u1, u2⟩ := okS_sound hpv g2
      obtain ⟨u3, u4⟩ := hpv.cells u1 u2
      obtain ⟨f1, f2⟩ := Great.foldl_set o v.cells.toList 0 cells
      have ecells : (v.cells.zipIdx.foldl (fun cs (x : Value × Nat) => cs.setIfInBounds (o + x.2) x.1) cells) = ((v.cells.toList.zipIdx 0).foldl (fun cs (x : Value × Nat) => cs.setIfInBounds (o + x.2) x.1) cells) := by
        rw [← Array.foldl_toList, Array.toList_zipIdx]
      generalize hnew : (v.cells.toList.zipIdx 0).foldl (fun cs (x : Value × Nat) => cs.setIfInBounds (o + x.2) x.1) cells = new at *
      have hget : ∀ i : Nat, new[i]? = if i < o then cells[i]? else if i < o + s then v.cells[i - o]? else cells[i]? := by
        intro i
        rw [f2 i]
        simp only [Nat.add_zero, Array.length_toList, u1]
        by_cases a : i < o
        · rw [if_neg (by omega), if_pos a]
        · rw [if_neg a]
          by_cases b : i < o + s
          · rw [if_pos (by omega), if_pos b]; simp
          · rw [if_neg (by omega), if_neg b]
      obtain ⟨cs', cells', r1, r2, r3, r4, r5, r6⟩ := fillK_sound (ps := ps) (vs := vs) (cs := cs.take o ++ p.cells s ++ cs.drop (o + s)) (cells := new) h (by simpa using hl) (fun i p v a b => hp (i + 1) p v (by simpa using a) (by simpa using b))
        (by rw [splice_len _ _ u3 (by omega)]; exact h1) (by rw [f1]; exact h2) (fun c hc => by
          obtain ⟨i, hi, rfl⟩ := Array.getElem_of_mem hc
          have := hget i
          rw [Array.getElem?_eq_getElem hi] at this
          split at this
          · exact h3 _ (Array.mem_of_getElem? this.symm)
          · split at this
            · exact u2 _ (Array.mem_of_getElem? this.symm)
            · exact h3 _ (Array.mem_of_getElem? this.symm))
        (fun i q c hq hc => by
          rw [splice_get _ _ u3 (by omega)] at hq
          rw [hget i] at hc
          split at hq
          · rename_i a; rw [if_pos a] at hc; exact h4 i q c hq hc
          · rename_i a
            rw [if_neg a] at hc
            split at hq
            · rename_i b; rw [if_pos b] at hc; exact u4 _ q c hq hc
            · rename_i b; rw [if_neg b] at hc; exact h4 i q c hq hc)
      refine ⟨cs', cells', r1, ?_, r3, r4, r5, r6⟩
      unfold Instr.fill
      simp only [hpl, u1]
      rw [if_neg (by simp; omega)]
      rw [← r2]
      congr 1

theorem buildK_sound {t : TypeId} {ps : List (Nat × PV)} {vs : Array (Nat × Value)} {K : PV → Res β} (h : buildK E t ps K ≠ .stuck) (hl : vs.toList.length = ps.length)
    (hp : ∀ (i : Nat) (p : Nat × PV) (v : Nat × Value), ps[i]? = some p → vs.toList[i]? = some v → p.1 = v.1 ∧ RP F κ N w p.2 v.2) :
    ∃ q u, buildK E t ps K = K q ∧ (Instr.build t vs).run E.P w = .ok u w ∧ RP F κ N w q u := by
  unfold buildK at h ⊢
  cases hs : szP E.P t with
  | none => simp [hs] at h
  | some n =>
    cases hz : ((E.P.info? t).bind (·.zero)).bind (pvConst E.P t) with
    | none => simp [hs, hz] at h
    | some z =>
      simp only [hs, hz] at h ⊢
      obtain ⟨place, hpl, e1⟩ := someK_inv h
      rw [e1] at h ⊢
      clear e1
      obtain ⟨g1, e1⟩ := chk_inv h
      rw [e1] at h ⊢
      clear e1
      obtain ⟨i, zv, i1, i2, i3⟩ := zero_of hz
      have hzr : RP F κ N w z zv := pvConst_sound i3
      obtain ⟨z1, z2⟩ := okS_sound hzr g1
      obtain ⟨z3, z4⟩ := hzr.cells z1 z2
      have fin : ∀ place : Nat → Option (Nat × Nat), fillK n place (z.cells n) ps (fun cs => K (mkAgg cs)) ≠ .stuck → (∀ cells, Instr.fill place zv.cells vs.toList = some cells → E.P.built t vs.toList = some cells) →
          ∃ q u, fillK n place (z.cells n) ps (fun cs => K (mkAgg cs)) = K q ∧ (Instr.build t vs).run E.P w = .ok u w ∧ RP F κ N w q u := by
        intro place hne hb
        obtain ⟨cs', cells', r1, r2, r3, r4, r5, r6⟩ := fillK_sound hne hl hp z3 z1 z2 z4
        refine ⟨_, _, r1, run_build w t vs cells' (hb _ r2), ?_⟩
        have := mkAgg_rp (κ := κ) (N := N) (w := w) (F := F) (cs := cs') (vs := cells'.toList) (by simp; omega) (by simpa using r5) (fun i p v a b => r6 i p v a (by simpa using b))
        simpa using this
      refine fin place h fun cells hc => ?_
      unfold placesP at hpl
      unfold Program.built
      cases hu : E.P.underlying t with
      | none => simp [hu] at hpl
      | some d =>
        cases d with
        | struct fs =>
          simp only [hu, Option.map_eq_some_iff] at hpl
          obtain ⟨places, e2, rfl⟩ := hpl
          simp only [i1, i2, e2]
          simpa using hc
        | array m e =>
          simp only [hu, Option.map_eq_some_iff] at hpl
          obtain ⟨ie, e2, rfl⟩ := hpl
          simp only [i1, i2, e2]
          exact hc
        | _ => simp [hu] at hpl

theorem frzs_sound {H : List AObj} (s : SI F κ w H) {F' : Nat → Prop} {ps : List PV} {vs : List Value} {xs : List T} (hp : ∀ (i : Nat) (p : PV) (v : Value), ps[i]? = some p → vs[i]? = some v → RP F κ H.length w p v) (hx : PV.frzs H ps = some xs) (a : ∀ b, F b → F' b)
    (hr : ∀ l ∈ PV.rowss ps, ∀ (e : TypeId) (k : Nat) (xs : List T) (b : Nat), H[l]? = some (.row e k xs) → (κ l).ownBlock = some b → F' b) :
    xs.length = ps.length ∧ ∀ (i : Nat) (x : T) (v : Value), xs[i]? = some x → vs[i]? = some v → Rd F' w x v := by
  obtain ⟨h1, h2⟩ := frzs_get hx
  refine ⟨h1, fun i x v g1 g2 => ?_⟩
  obtain ⟨p, h3, h4⟩ := h2 i x g1
  exact frz_sound s (hp i p v h3 g2) a h4 fun l hl => hr l (mem_rowss (List.mem_of_getElem? h3) hl)

theorem chkAll_inv {α : Type} {f : α → Bool} {r : Res β} : ∀ {xs : List α}, chkAll f xs r ≠ .stuck → (∀ x ∈ xs, f x = true) ∧ chkAll f xs r = r
  | [], h => ⟨by simp, rfl⟩
  | x :: xs, h => by
    simp only [chkAll] at h ⊢
    obtain ⟨h1, h2⟩ := chk_inv h
    rw [h2] at h ⊢
    obtain ⟨h3, h4⟩ := chkAll_inv h
    exact ⟨fun y hy => (List.mem_cons.1 hy).elim (fun e => e ▸ h1) (h3 y), h4⟩

theorem buildSliceK_sound {dr : Bool} {t : TypeId} {n : Nat} {ps : List (Nat × PV)} {vs : Array (Nat × Value)} {K : PV → St → Res β} (h : buildSliceK E dr st t n ps K ≠ .stuck) (h0 : N0 ≤ st.heap.length) (s : SI F κ w st.heap) (ht : TR F κ w st tm) (hl : vs.toList.length = ps.length)
    (hp : ∀ (i : Nat) (p : Nat × PV) (v : Nat × Value), ps[i]? = some p → vs.toList[i]? = some v → p.1 = v.1 ∧ RP F κ st.heap.length w p.2 v.2) :
    ∃ q u st' F' κ' w', buildSliceK E dr st t n ps K = K q st' ∧ (Instr.buildSlice t n vs).run E.P w = .ok u w' ∧ Next' N0 F κ w st tm q u F' κ' w' st' ∧ (dr = true → st' = st) := by
  unfold buildSliceK at h ⊢
  cases he : elP E.P t with
  | none => simp [he] at h
  | some e =>
    cases hs : szP E.P e with
    | none => simp [he, hs] at h
    | some k =>
      cases k with
      | zero => simp [he, hs] at h
      | succ k =>
        simp only [he, hs] at h ⊢
        obtain ⟨g1, e1⟩ := cond_inv h
        rw [e1] at h ⊢
        clear e1
        simp only [Bool.not_eq_false', Bool.and_eq_true, decide_eq_true_eq, beq_iff_eq] at g1
        obtain ⟨⟨g1, g2⟩, g3⟩ := g1
        obtain ⟨i, i1, i2⟩ := info_of_sz hs
        cases hz : i.zero with
        | none => unfold zeroOk at g2; simp [i1, hz] at g2
        | some zv =>
          have hzs : zv.cells.size = k + 1 := by unfold zeroOk at g2; simpa [i1, hz] using g2
          have hpn : ps.length = n := by have := congrArg List.length g3; simpa using this
          -- the values, in order
          have hparts : vs.toList = ((vs.toList.map (·.2)).zipIdx 0).map fun x => (x.2, x.1) := by
            apply List.ext_getElem
            · simp
            · intro j h1 h2
              have hj : j < ps.length := by omega
              have h4 := (hp j _ _ (List.getElem?_eq_getElem hj) (List.getElem?_eq_getElem h1)).1
              have h5 : (ps.map (·.1))[j]? = (List.range n)[j]? := by rw [g3]
              rw [List.getElem?_map, List.getElem?_eq_getElem hj, List.getElem?_range (by omega)] at h5
              simp only [Option.map_some, Option.some.injEq] at h5
              simp only [List.getElem_map, List.getElem_zipIdx, Nat.zero_add]
              rw [h5] at h4
              exact Prod.ext h4.symm rfl
          have hvl : (vs.toList.map (·.2)).length = n := by simp; simpa [hpn] using hl
          have hrun : (∀ v ∈ vs.toList.map (·.2), v.cells.size = k + 1) → (Instr.buildSlice t n vs).run E.P w = .ok (.slice (some ⟨w.heap.size, 0, none⟩) n n) (w.alloc (.cells ((vs.toList.map (·.2)).flatMap fun v => v.cells.toList).toArray e)) := by
            intro hsz
            rcases Nat.eq_zero_or_pos n with e0 | e0
            · subst e0
              have : vs = #[] := by
                have : vs.toList.length = 0 := by simpa using hvl
                apply Array.ext'; exact List.eq_nil_of_length_eq_zero this
              subst this
              simp [Instr.buildSlice, run_underlying (elP_underlying he), run_sizeOf' hs, Instr.fill, newRow, Array.range_zero']
            · have hf := Great.fill_whole (s := k + 1) (by omega) (vs.toList.map (·.2)) ((Array.range (n * i.size)).map (zv.cells[· % zv.cells.size]!)) hsz (by rw [hvl, i2]; simp)
              rw [← hparts, ← i2] at hf
              exact run_buildSlice w t e n vs _ i zv (elP_underlying he) i1 hz (by rw [i2]; omega) (by rw [i2]; exact Nat.ne_of_gt (Nat.mul_pos e0 (by omega))) hf
          have hp2 : ∀ (i : Nat) (p : PV) (v : Value), (ps.map (·.2))[i]? = some p → (vs.toList.map (·.2))[i]? = some v → RP F κ st.heap.length w p v := by
            intro i p v a b
            rw [List.getElem?_map, Option.map_eq_some_iff] at a b
            obtain ⟨p', a, rfl⟩ := a
            obtain ⟨v', b, rfl⟩ := b
            exact (hp i p' v' a b).2
          have hlen : ((vs.toList.map (·.2)).flatMap fun v => v.cells.toList).length = n * (k + 1) ∨ True := .inr trivial
          cases hfr : PV.frzs st.heap (ps.map (·.2)) with
          | some xs =>
            simp only [hfr] at h ⊢
            obtain ⟨g4, e1⟩ := cond_inv h
            rw [e1] at h ⊢
            clear e1
            obtain ⟨g5, e1⟩ := chkAll_inv h
            rw [e1] at h ⊢
            clear e1
            obtain ⟨F', s', a1, a2, a3, a4, a5, a6⟩ := freeze_sound (PV.rowss (ps.map (·.2))) s
            obtain ⟨x1, x2⟩ := frzs_sound s hp2 hfr a1 a4
            have hxl : xs.length = n := by rw [x1]; simpa using hpn
            have hsz : ∀ v ∈ vs.toList.map (·.2), v.cells.size = k + 1 := by
              intro v hv
              obtain ⟨j, hj, rfl⟩ := List.getElem_of_mem hv
              have hjx : j < xs.length := by omega
              exact (okE_sound (x2 j _ _ (List.getElem?_eq_getElem hjx) (List.getElem?_eq_getElem hj)) (g5 _ (List.getElem_mem hjx))).2.2.1
            have hcell : ∀ m, ((vs.toList.map (·.2)).flatMap fun v => v.cells.toList)[m]? = ((vs.toList.map (·.2))[m / (k + 1)]?).bind fun v => v.cells[m % (k + 1)]? := fun m => Great.flat_get (by omega) _ hsz m
            have hflen : ((vs.toList.map (·.2)).flatMap fun v => v.cells.toList).length = n * (k + 1) := by
              have : ∀ (l : List Value), (∀ v ∈ l, v.cells.size = k + 1) → (l.flatMap fun v => v.cells.toList).length = l.length * (k + 1) := by
                intro l
                induction l with
                | nil => simp
                | cons v l ih => intro h; rw [List.flatMap_cons, List.length_append, ih (fun u hu => h u (List.mem_cons_of_mem _ hu)), Array.length_toList, h v List.mem_cons_self, List.length_cons, Nat.succ_mul]; omega
              rw [this _ hsz, hvl]
            have hbig : n ≤ big := by
              have : n ≤ n * (k + 1) := Nat.le_mul_of_pos_right _ (by omega)
              have : (1024 : Nat) ≤ big := by decide
              omega
            have hmax := big_max
            have hone : ∀ c ∈ ((vs.toList.map (·.2)).flatMap fun v => v.cells.toList).toArray, c.oneCell' = true := by
              intro c hc
              simp only [List.mem_toArray, List.mem_flatMap] at hc
              obtain ⟨v, hv, hc⟩ := hc
              obtain ⟨j, hj, rfl⟩ := List.getElem_of_mem hv
              have hjx : j < xs.length := by omega
              exact (okE_sound (x2 j _ _ (List.getElem?_eq_getElem hjx) (List.getElem?_eq_getElem hj)) (g5 _ (List.getElem_mem hjx))).2.2.2.1 c (by simpa using hc)
            have hel : ∀ x ∈ xs, x.cells.length = k + 1 ∧ (k + 1 = 1 → x.isAgg = false) := by
              intro x hx
              obtain ⟨j, hj, rfl⟩ := List.getElem_of_mem hx
              have hjx : j < (vs.toList.map (·.2)).length := by omega
              have := okE_sound (x2 j _ _ (List.getElem?_eq_getElem hj) (List.getElem?_eq_getElem hjx)) (g5 _ (List.getElem_mem hj))
              exact ⟨this.1, this.2.1⟩
            have hrd : ∀ (i : Nat) (x : T) (j : Nat) (y : T) (v : Value), xs[i]? = some x → x.cells[j]? = some y → ((vs.toList.map (·.2)).flatMap fun v => v.cells.toList).toArray[i * (k + 1) + j]? = some v → Rd F' w y v := by
              intro i x j y v hx hy hv
              have hj : j < k + 1 := by rw [← (hel x (List.mem_of_getElem? hx)).1]; exact (List.getElem?_eq_some_iff.1 hy).1
              have hi : i < (vs.toList.map (·.2)).length := by have := (List.getElem?_eq_some_iff.1 hx).1; omega
              rw [List.getElem?_toArray, hcell, Nat.mul_comm i, Nat.mul_add_div (by omega), Nat.mul_add_mod, Nat.div_eq_of_lt hj, Nat.mod_eq_of_lt hj, Nat.add_zero, List.getElem?_eq_getElem hi] at hv
              exact (okE_sound (x2 i x _ hx (List.getElem?_eq_getElem hi)) (g5 x (List.mem_of_getElem? hx))).2.2.2.2 j y v hy hv
            cases dr with
            | false =>
              simp only [cond_false] at h ⊢
              have ht' : TR F' κ w ⟨st.tmps, freezeRows (PV.rowss (ps.map (·.2))) st.heap⟩ tm := fun i q v c d => by simpa [freezeRows_length] using (ht i q v c d).freeze a1
              obtain ⟨κ', hn⟩ := newRow_sound (st := ⟨st.tmps, freezeRows (PV.rowss (ps.map (·.2))) st.heap⟩) (N0 := N0) (e := e) (k := k + 1) (cap := n) (xs := xs) (cells := ((vs.toList.map (·.2)).flatMap fun v => v.cells.toList).toArray) (by simpa [freezeRows_length] using h0) s' ht' (by omega) (by omega) (by simpa using hflen) (by omega) hel hone hrd
              have hev : Ev N0 F κ w st.heap F' κ w (freezeRows (PV.rowss (ps.map (·.2))) st.heap) := Ev.freeze _ h0 a1 a2 a3 a5
              rw [hxl] at hn
              refine ⟨_, _, _, F', κ', _, rfl, hrun hsz, ⟨hn.si, hev.trans hn.ev, ?_, hn.tl, hn.tr⟩, by simp⟩
              simpa [freezeRows_length] using hn.rp
            | true =>
              simp only [cond_true] at h ⊢
              have hnr : PV.rowss (ps.map (·.2)) = [] := by simpa using g4
              -- frozen at once, in a fresh block
              have x2' : ∀ (i : Nat) (x : T) (v : Value), xs[i]? = some x → (vs.toList.map (·.2))[i]? = some v → Rd F w x v := (frzs_sound s hp2 hfr (fun _ h => h) (by rw [hnr]; simp)).2
              have hold : ∀ b, b < w.heap.size → (w.alloc (.cells ((vs.toList.map (·.2)).flatMap fun v => v.cells.toList).toArray e)).heap[b]? = w.heap[b]? := fun b hb => heap_alloc_old' w _ b hb
              have hrd' : Rd (fun b => F b ∨ b = w.heap.size) (w.alloc (.cells ((vs.toList.map (·.2)).flatMap fun v => v.cells.toList).toArray e)) (.sl (k + 1) xs) (.slice (some ⟨w.heap.size, 0, none⟩) xs.length n) := by
                refine .sl w.heap.size 0 (fun i j => ((vs.toList.map (·.2)).flatMap fun v => v.cells.toList).getD (i * (k + 1) + j) undef) (by omega) (by omega) hel (fun _ => ⟨rfl, .inr rfl⟩) (fun i j hi hj => ?_) (fun i j hi hj => ?_) (fun i x j y hx hy => ?_)
                all_goals
                  have hlt : ∀ i j, i < xs.length → j < k + 1 → i * (k + 1) + j < ((vs.toList.map (·.2)).flatMap fun v => v.cells.toList).length := fun i j hi hj => by
                    rw [hflen]
                    calc i * (k + 1) + j < i * (k + 1) + (k + 1) := by omega
                      _ = (i + 1) * (k + 1) := by rw [Nat.succ_mul]
                      _ ≤ n * (k + 1) := Nat.mul_le_mul_right _ (by omega)
                · show (List.getD _ _ undef).oneCell' = true
                  rw [List.getD_eq_getElem?_getD, List.getElem?_eq_getElem (hlt i j hi hj)]
                  exact hone _ (by simp)
                · show World.cell? _ _ = some (List.getD _ _ undef)
                  rw [List.getD_eq_getElem?_getD, List.getElem?_eq_getElem (hlt i j hi hj)]
                  simp only [World.cell?, heap_alloc_new', Nat.zero_add, List.getElem?_toArray, List.getElem?_eq_getElem (hlt i j hi hj), Option.getD_some, Option.isSome_none, Bool.false_eq_true, if_false]
                · have hi : i < xs.length := (List.getElem?_eq_some_iff.1 hx).1
                  have hj : j < k + 1 := by rw [← (hel x (List.mem_of_getElem? hx)).1]; exact (List.getElem?_eq_some_iff.1 hy).1
                  have hiv : i < (vs.toList.map (·.2)).length := by omega
                  have hg : ((vs.toList.map (·.2)).flatMap fun v => v.cells.toList)[i * (k + 1) + j]? = some (((vs.toList.map (·.2)).flatMap fun v => v.cells.toList).getD (i * (k + 1) + j) undef) := by
                    rw [List.getD_eq_getElem?_getD, List.getElem?_eq_getElem (hlt i j hi hj)]; rfl
                  show Rd _ _ y (List.getD _ _ undef)
                  generalize hvv : (((vs.toList.map (·.2)).flatMap fun v => v.cells.toList).getD (i * (k + 1) + j) undef) = vv at *
                  rw [hcell, Nat.mul_comm i, Nat.mul_add_div (by omega), Nat.mul_add_mod, Nat.div_eq_of_lt hj, Nat.mod_eq_of_lt hj, Nat.add_zero, List.getElem?_eq_getElem hiv] at hg
                  exact ((okE_sound (x2' i x _ hx (List.getElem?_eq_getElem hiv)) (g5 x (List.mem_of_getElem? hx))).2.2.2.2 j y vv hy hg).mono (fun _ h => .inl h) (fun b hb => hold b (s.fl b hb))
              have hrun' := hrun hsz
              rw [← hxl] at hrun' hrd'
              refine ⟨_, _, _, fun b => F b ∨ b = w.heap.size, κ, w.alloc (.cells ((vs.toList.map (·.2)).flatMap fun v => v.cells.toList).toArray e), rfl, by rw [← hxl]; exact hrun', Next'.fresh h0 s ht rfl rfl rfl (by simp) hold (fun _ h => .inl h) (fun b h => h.imp id (by omega)) (fun b h => ?_) (.full hrd'), fun _ => rfl⟩
              rcases h with h | rfl
              · have := s.fl b h; simp; omega
              · simp
          | none =>
            simp only [hfr] at h ⊢
            obtain ⟨g4, e1⟩ := cond_inv' h
            rw [e1] at h ⊢
            clear e1
            simp only [Bool.and_eq_true, beq_iff_eq, Bool.not_eq_true'] at g4
            obtain ⟨rfl, rfl⟩ := g4
            obtain ⟨g5, e1⟩ := chkAll_inv h
            rw [e1] at h ⊢
            clear e1
            have hone : ∀ (j : Nat) (p : PV) (v : Value), (ps.map (·.2))[j]? = some p → (vs.toList.map (·.2))[j]? = some v → v.oneCell' = true := by
              intro j p v a b
              have g := g5 p (List.mem_of_getElem? a)
              simp only [Bool.and_eq_true, Bool.not_eq_true'] at g
              obtain ⟨⟨g6, g7⟩, g8⟩ := g
              have hr := hp2 j p v a b
              obtain ⟨o1, o2⟩ := okS_sound hr g6
              cases v with
              | agg us =>
                exfalso
                cases hr with
                | t h => cases h; simp [T.isAgg] at g8
                | agg => simp at g7
                | junk => simp [PV.okS] at g6
              | tuple us => have := o2 (.tuple us) (by simp [Value.cells]); simp [Value.oneCell'] at this
              | _ => rfl
            have hcs : ∀ v ∈ vs.toList.map (·.2), v.cells = #[v] := by
              intro v hv
              obtain ⟨j, hj, rfl⟩ := List.getElem_of_mem hv
              have hjp : j < (ps.map (·.2)).length := by simp; simp at hj; omega
              exact cells_one (hone j _ _ (List.getElem?_eq_getElem hjp) (List.getElem?_eq_getElem hj))
            have hflat : ((vs.toList.map (·.2)).flatMap fun v => v.cells.toList) = vs.toList.map (·.2) := by
              have : ∀ (l : List Value), (∀ v ∈ l, v.cells = #[v]) → (l.flatMap fun v => v.cells.toList) = l := by
                intro l
                induction l with
                | nil => simp
                | cons v l ih => intro h; rw [List.flatMap_cons, ih (fun u hu => h u (List.mem_cons_of_mem _ hu)), h v List.mem_cons_self]; rfl
              exact this _ hcs
            have hrun' := hrun (fun v hv => by rw [hcs v hv]; rfl)
            rw [hflat] at hrun'
            have hold : ∀ b, b < w.heap.size → (w.alloc (.cells (vs.toList.map (·.2)).toArray e)).heap[b]? = w.heap[b]? := fun b hb => heap_alloc_old' w _ b hb
            refine ⟨_, _, _, F, upd κ st.heap.length (.slice (some ⟨w.heap.size, 0, none⟩) n n), _, rfl, hrun', Next'.push h0 s ht rfl rfl rfl (by simp) hold (fun _ h => h) (fun _ h => .inl h) (fun b hb => by have := s.fl b hb; simp; omega) ?_ (fun b hb => ?_) (.own (by omega) (upd_same κ _ _)), by simp⟩
            · refine ⟨w.heap.size, (vs.toList.map (·.2)).toArray, n, by rw [upd_same]; simp [hpn], heap_alloc_new' w _, by simp; simpa [hpn] using hvl, fun c hc => ?_, fun i p v a b => ?_⟩
              · obtain ⟨j, hj, rfl⟩ := List.getElem_of_mem (show c ∈ vs.toList.map (·.2) by simpa using hc)
                have hjp : j < (ps.map (·.2)).length := by simp; simp at hj; omega
                exact hone j _ _ (List.getElem?_eq_getElem hjp) (List.getElem?_eq_getElem hj)
              · exact (hp2 i p v a (by simpa using b)).push s _ hold (fun _ h => h)
            · simp only [blk, upd_same, Value.ownBlock, Option.some.injEq] at hb
              subst hb
              exact ⟨Nat.le_refl _, by simp, fun hf => absurd (s.fl _ hf) (by omega)⟩
end
end Go.Sim
