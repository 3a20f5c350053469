/- Captured variables: boxes that nobody writes any more. -/
import Derived.Test.YtmidmdabmalhgaaD17
namespace Go.Sim
open Go.RowKit
set_option linter.unusedVariables false
set_option linter.unusedSimpArgs false

def AObj.notRow (o : AObj) : Prop := ∀ (e : TypeId) (k : Nat) (xs : List T), o ≠ .row e k xs

/-- Some objects have been frozen. -/
structure Frz (F : Nat → Prop) (κ : Nat → Value) (w : World) (H : List AObj) (F' : Nat → Prop) (H' : List AObj) : Prop where
  si : SI F' κ w H'
  fm : ∀ b, F b → F' b
  fn : ∀ b, F' b → F b ∨ Own κ H b
  on : ∀ b, Own κ H' b → Own κ H b
  len : H'.length = H.length
  kp : ∀ (l : Nat) (o : AObj), H[l]? = some o → o.notRow → ∃ o', H'[l]? = some o' ∧ o'.notRow

section
variable {F F1 F2 : Nat → Prop} {κ : Nat → Value} {w : World} {H H1 H2 : List AObj}

theorem Frz.refl (s : SI F κ w H) : Frz F κ w H F H := ⟨s, fun _ h => h, fun _ h => .inl h, fun _ h => h, rfl, fun l o h h2 => ⟨o, h, h2⟩⟩
theorem Frz.trans (a : Frz F κ w H F1 H1) (b : Frz F1 κ w H1 F2 H2) : Frz F κ w H F2 H2 where
  si := b.si
  fm := fun x h => b.fm x (a.fm x h)
  fn := fun x h => (b.fn x h).elim (a.fn x) (fun h => .inr (a.on x h))
  on := fun x h => a.on x (b.on x h)
  len := b.len.trans a.len
  kp := fun l o h h2 => by
    obtain ⟨o1, g1, g2⟩ := a.kp l o h h2
    exact b.kp l o1 g1 g2
theorem Frz.rows (s : SI F κ w H) (ls : List Nat) : ∃ F', Frz F κ w H F' (freezeRows ls H) ∧ (∀ l ∈ ls, ∀ (e : TypeId) (k : Nat) (xs : List T) (b : Nat), H[l]? = some (.row e k xs) → (κ l).ownBlock = some b → F' b) ∧
    ∀ (l : Nat) (o : AObj), H[l]? = some o → o.notRow → (freezeRows ls H)[l]? = some o := by
  obtain ⟨F', s', a1, a2, a3, a4, a5, a6⟩ := freeze_sound ls s
  exact ⟨F', ⟨s', a1, a2, a3, freezeRows_length _ _, fun l o h h2 => ⟨o, a5 l o h h2, h2⟩⟩, a4, a5⟩
theorem Frz.next {β : Type} {st : St} {N0 : Nat} {tm : Array Value} (f : Frz F κ w st.heap F1 H1) (h0 : N0 ≤ st.heap.length) (ht : TR F κ w st tm) {p : PV} {v : Value} (hp : RP F1 κ st.heap.length w p v) : Next' N0 F κ w st tm p v F1 κ w ⟨st.tmps, H1⟩ :=
  ⟨f.si, ⟨rfl, rfl, rfl, Nat.le_refl _, fun _ _ _ => rfl, f.fm, fun b h => (f.fn b h).imp id .inl, fun b h => .inl (f.on b h), by rw [f.len]; exact h0, fun l o _ h1 h2 => ⟨rfl, f.kp l o h1 h2⟩⟩, by rw [f.len]; exact hp, rfl,
    fun i q v g1 g2 => by rw [f.len]; exact (ht i q v g1 g2).freeze f.fm⟩

/-- A box that nobody writes any more. -/
theorem Frz.box (s : SI F κ w H) {l : Nat} {e n : Nat} {p : PV} {x : T} (h : H[l]? = some (.box e n p)) (hx : p.frz H = some x) (hn : x.cells.length = n) (h1 : n = 1 → x.isAgg = false) (hrows : ∀ r ∈ p.rows, ∀ (e : TypeId) (k : Nat) (xs : List T), H[r]? ≠ some (.row e k xs)) :
    ∃ F', Frz F κ w H F' (H.set l (.fbox e n x)) ∧ Rd F' w (.ref x) (κ l) := by
  have hl : l < H.length := (List.getElem?_eq_some_iff.1 h).1
  obtain ⟨b, vs, vv, r1, r2, r3, r4, r5, r6⟩ := s.ro l _ h
  subst r3
  have hblk : blk κ l (.box e n p) = some b := by simp [blk, r1, ptrBlock]
  have hF1 : ∀ c, F c → F c ∨ c = b := fun c hc => .inl hc
  have hv : Rd (fun c => F c ∨ c = b) w x vv := frz_sound s r6 hF1 hx (fun r hr e k xs c g _ => absurd g (hrows r hr e k xs))
  have hcells : ∀ (j : Nat) (y : T), x.cells[j]? = some y → ∃ c, vv.cells[j]? = some c ∧ Rd (fun c => F c ∨ c = b) w y c := by
    intro j y hy
    obtain ⟨c1, c2⟩ := RP.cells (κ := κ) (N := 0) (.t hv) r4 r5
    have hj : j < n := by rw [← hn]; exact (List.getElem?_eq_some_iff.1 hy).1
    refine ⟨vv.cells[j], Array.getElem?_eq_getElem (by omega), ?_⟩
    have := c2 j (.t y) _ (by simp [PV.cells, List.getElem?_range hj, T.cell, List.getD_eq_getElem?_getD, hy]) (Array.getElem?_eq_getElem (by omega))
    cases this with
    | t h => exact h
  have href : Rd (fun c => F c ∨ c = b) w (.ref x) (κ l) := by
    rw [r1]
    refine .ref (fun j => vv.cells.getD j undef) (.inr rfl) (fun h => h1 (by omega)) (fun j hj => ?_) (fun j hj => ?_) (fun j y hy => ?_)
    · show (vv.cells.getD j undef).oneCell' = true
      rw [Array.getD_eq_getD_getElem?, Array.getElem?_eq_getElem (show j < vv.cells.size by omega)]
      exact r5 _ (Array.getElem_mem _)
    · show w.cell? _ = some (vv.cells.getD j undef)
      rw [Array.getD_eq_getD_getElem?, Array.getElem?_eq_getElem (show j < vv.cells.size by omega)]
      simp [World.cell?, r2, show j < vv.cells.size by omega]
    · obtain ⟨c, g1, g2⟩ := hcells j y hy
      show Rd _ _ y (vv.cells.getD j undef)
      rw [Array.getD_eq_getD_getElem?, g1]
      exact g2
  refine ⟨fun c => F c ∨ c = b, ⟨⟨fun i o hi => ?_, fun i o c hi hc => ?_, fun i j o o' c hi hj hc hc' => ?_, fun c hc => ?_⟩, hF1, ?_, ?_, by simp, fun i o hi hnr => ?_⟩, href⟩
  · rw [List.length_set]
    rcases set_get hl hi with ⟨rfl, rfl⟩ | ⟨hne, ho⟩
    · exact ⟨b, r1, href, hn⟩
    · exact (s.ro i o ho).mono hF1 (fun _ _ => rfl) (fun _ _ => rfl) rfl fun l' hl' => ⟨rfl, (s.ro i o ho).bound l' hl'⟩
  · rcases set_get hl hi with ⟨rfl, rfl⟩ | ⟨hne, ho⟩
    · simp [blk] at hc
    · refine ⟨(s.lt i o c ho hc).1, ?_⟩
      rintro (hf | rfl)
      · exact (s.lt i o c ho hc).2 hf
      · exact hne (s.ne i l o _ c ho h hc hblk)
  · rcases set_get hl hi with ⟨rfl, rfl⟩ | ⟨hne, ho⟩
    · simp [blk] at hc
    · rcases set_get hl hj with ⟨rfl, rfl⟩ | ⟨hne', ho'⟩
      · simp [blk] at hc'
      · exact s.ne i j o o' c ho ho' hc hc'
  · rcases hc with hc | rfl
    · exact s.fl c hc
    · exact (s.lt l _ c h hblk).1
  · rintro c (hc | rfl)
    · exact .inl hc
    · exact .inr ⟨l, _, h, hblk⟩
  · rintro c ⟨i, o, hi, hc⟩
    rcases set_get hl hi with ⟨rfl, rfl⟩ | ⟨hne, ho⟩
    · simp [blk] at hc
    · exact ⟨i, o, ho, hc⟩
  · by_cases e0 : i = l
    · subst e0
      exact ⟨_, List.getElem?_set_self hl, fun _ _ _ h => by cases h⟩
    · exact ⟨o, by rw [List.getElem?_set_ne (fun h => e0 h.symm)]; exact hi, hnr⟩

theorem frz_congr {H H' : List AObj} (h : ∀ (l : Nat), (∀ (e : TypeId) (k : Nat) (xs : List T), H[l]? = some (.row e k xs) → H'[l]? = some (.row e k xs) ∨ H'[l]? = some (.frow e k xs)) ∧ (∀ o, H[l]? = some o → o.notRow → H'[l]? = some o)) :
    (∀ (p : PV) (x : T), p.frz H = some x → p.frz H' = some x) := by
  have main : ∀ n : Nat, (∀ (p : PV), SizeOf.sizeOf p < n → ∀ (x : T), p.frz H = some x → p.frz H' = some x) ∧ (∀ (ps : List PV), SizeOf.sizeOf ps < n → ∀ (xs : List T), PV.frzs H ps = some xs → PV.frzs H' ps = some xs) := by
    intro n
    induction n with
    | zero => exact ⟨fun p hp => absurd hp (Nat.not_lt_zero _), fun p hp => absurd hp (Nat.not_lt_zero _)⟩
    | succ n ih =>
      refine ⟨fun p hp x hx => ?_, fun ps hp xs hx => ?_⟩
      · cases p with
        | agg cs =>
          simp only [PV.frz, Option.map_eq_some_iff] at hx ⊢
          obtain ⟨ts, h1, h2⟩ := hx
          exact ⟨ts, ih.2 cs (by simp at hp; omega) ts h1, h2⟩
        | tup cs =>
          simp only [PV.frz, Option.map_eq_some_iff] at hx ⊢
          obtain ⟨ts, h1, h2⟩ := hx
          exact ⟨ts, ih.2 cs (by simp at hp; omega) ts h1, h2⟩
        | fn f fs cs =>
          simp only [PV.frz] at hx ⊢
          cases h1 : PV.frzs H fs with
          | none => simp [h1] at hx
          | some a =>
            cases h2 : PV.frzs H cs with
            | none => simp [h1, h2] at hx
            | some b =>
              rw [ih.2 fs (by simp at hp; omega) a h1, ih.2 cs (by simp at hp; omega) b h2]
              simpa [h1, h2] using hx
        | own l =>
          simp only [PV.frz] at hx ⊢
          cases ho : H[l]? with
          | none => simp [ho] at hx
          | some o =>
            cases o with
            | row e k xs =>
              rw [ho] at hx
              rcases (h l).1 e k xs ho with h1 | h1 <;> rw [h1] <;> exact hx
            | frow e k xs => rw [(h l).2 _ ho (fun _ _ _ h => by cases h)]; rw [ho] at hx; exact hx
            | _ => simp [ho] at hx
        | view l k0 lo hi =>
          simp only [PV.frz] at hx ⊢
          cases ho : H[l]? with
          | none => simp [ho] at hx
          | some o =>
            cases o with
            | row e k xs =>
              rw [ho] at hx
              rcases (h l).1 e k xs ho with h1 | h1 <;> rw [h1] <;> exact hx
            | frow e k xs => rw [(h l).2 _ ho (fun _ _ _ h => by cases h)]; rw [ho] at hx; exact hx
            | _ => simp [ho] at hx
        | ptr l o =>
          simp only [PV.frz] at hx ⊢
          cases ho : H[l]? with
          | none => simp [ho] at hx
          | some q =>
            cases q with
            | fbox e k v => rw [(h l).2 _ ho (fun _ _ _ h => by cases h)]; rw [ho] at hx; exact hx
            | _ => simp [ho] at hx
        | _ => exact hx
      · cases ps with
        | nil => exact hx
        | cons p r =>
          simp only [PV.frzs] at hx ⊢
          cases h1 : p.frz H with
          | none => simp [h1] at hx
          | some a =>
            cases h2 : PV.frzs H r with
            | none => simp [h1, h2] at hx
            | some b =>
              rw [ih.1 p (by simp at hp; omega) a h1, ih.2 r (by simp at hp; omega) b h2]
              simpa [h1, h2] using hx
  exact fun p => (main (SizeOf.sizeOf p + 1)).1 p (Nat.lt_succ_self _)

theorem capture_sound (s : SI F κ w H) {p : PV} {v : Value} (h : RP F κ H.length w p v) {x : T} (hc : capture H p = some (x, H1)) : ∃ F', Frz F κ w H F' H1 ∧ Rd F' w x v := by
  cases h with
  | t h => simp [capture] at hc; obtain ⟨rfl, rfl⟩ := hc; exact ⟨F, Frz.refl s, h⟩
  | @ptr l o b hN hk =>
    cases o with
    | succ o => simp [capture] at hc
    | zero =>
      simp only [capture] at hc
      cases ho : H[l]? with
      | none => simp [ho] at hc
      | some q =>
        cases q with
        | box e n q =>
          simp only [ho] at hc
          cases hq : q.frz H with
          | none => simp [hq] at hc
          | some y =>
            simp only [hq] at hc
            cases hg : (y.cells.length == n && (!(n == 1) || !y.isAgg)) with
            | true =>
              rw [hg] at hc
              simp only [cond_true] at hc
              injection hc with hc
              injection hc with h1 h2
              subst h1
              subst h2
              simp only [Bool.and_eq_true, beq_iff_eq, Bool.or_eq_true, Bool.not_eq_true', Bool.not_eq_false'] at hg
              obtain ⟨F1, f1, f2, f3⟩ := Frz.rows s q.rows
              obtain ⟨_, _, _, _, _, _, a5, a6⟩ := freeze_sound q.rows s
              have hob : (freezeRows q.rows H)[l]? = some (.box e n q) := f3 l _ ho (fun _ _ _ h => by cases h)
              have hfz : q.frz (freezeRows q.rows H) = some y := frz_congr (H := H) (fun l' => ⟨a6 l', a5 l'⟩) q y hq
              have hnr : ∀ r ∈ q.rows, ∀ (e : TypeId) (k : Nat) (xs : List T), (freezeRows q.rows H)[r]? ≠ some (.row e k xs) := by
                intro r hr e k xs hh
                -- a row in the list is frozen
                have : ∀ (ls : List Nat) (H : List AObj), r ∈ ls → (freezeRows ls H)[r]? ≠ some (.row e k xs) := by
                  intro ls
                  induction ls with
                  | nil => intro H h; cases h
                  | cons a ls ih =>
                    intro H hm hh
                    by_cases hin : r ∈ ls
                    · exact ih _ hin hh
                    · have hra : r = a := (List.mem_cons.1 hm).resolve_right hin
                      subst hra
                      have e1 : freezeRows (r :: ls) H = freezeRows ls (match H[r]? with | some (AObj.row e k xs) => H.set r (AObj.frow e k xs) | _ => H) := rfl
                      rw [e1, freezeRows_other ls _ hin] at hh
                      cases hq : H[r]? with
                      | none => rw [hq] at hh; simp only [hq] at hh; cases hh
                      | some o =>
                        rw [hq] at hh
                        cases o with
                        | row e' k' xs' =>
                          simp only at hh
                          rw [List.getElem?_set_self (List.getElem?_eq_some_iff.1 hq).1] at hh
                          cases hh
                        | _ => simp only [hq] at hh; cases hh
                exact this _ _ hr hh
              obtain ⟨F2, f4, f5⟩ := Frz.box f1.si hob hfz hg.1 (fun h => by rcases hg.2 with h2 | h2 <;> simp_all) hnr
              exact ⟨F2, f1.trans f4, by rw [← hk]; exact f5⟩
            | false => rw [hg] at hc; cases hc
        | fbox e n y =>
          simp only [ho, Option.some.injEq, Prod.mk.injEq] at hc
          obtain ⟨rfl, rfl⟩ := hc
          obtain ⟨b', r1, r2, r3⟩ := s.ro l _ ho
          exact ⟨F, Frz.refl s, by rw [← hk]; exact r2⟩
        | _ => simp [ho] at hc
  | _ => simp [capture] at hc

theorem captures_sound : ∀ {ps : List PV} {F : Nat → Prop} {H H1 : List AObj} {vs : List Value} {xs : List T}, SI F κ w H → vs.length = ps.length → (∀ (i : Nat) (p : PV) (v : Value), ps[i]? = some p → vs[i]? = some v → RP F κ H.length w p v) → captures H ps = some (xs, H1) →
    ∃ F', Frz F κ w H F' H1 ∧ xs.length = ps.length ∧ ∀ (i : Nat) (x : T) (v : Value), xs[i]? = some x → vs[i]? = some v → Rd F' w x v
  | [], F, H, H1, vs, xs, s, hl, hp, hc => by
    simp [captures] at hc
    obtain ⟨rfl, rfl⟩ := hc
    exact ⟨F, Frz.refl s, rfl, by simp⟩
  | p :: ps, F, H, H1, [], xs, s, hl, hp, hc => by simp at hl
  | p :: ps, F, H, H1, v :: vs, xs, s, hl, hp, hc => by
    simp only [captures] at hc
    cases h1 : capture H p with
    | none => simp [h1] at hc
    | some r =>
      obtain ⟨x, H'⟩ := r
      simp only [h1] at hc
      cases h2 : captures H' ps with
      | none => simp [h2] at hc
      | some r2 =>
        obtain ⟨ys, H''⟩ := r2
        simp only [h2, Option.some.injEq, Prod.mk.injEq] at hc
        obtain ⟨rfl, rfl⟩ := hc
        obtain ⟨Fa, a1, a2⟩ := capture_sound s (hp 0 p v rfl rfl) h1
        obtain ⟨Fb, b1, b2, b3⟩ := captures_sound (vs := vs) a1.si (by simpa using hl) (fun i q u g1 g2 => by rw [a1.len]; exact (hp (i + 1) q u (by simpa using g1) (by simpa using g2)).freeze a1.fm) h2
        refine ⟨Fb, a1.trans b1, by simp [b2], fun i y u g1 g2 => ?_⟩
        cases i with
        | zero => simp at g1 g2; subst g1; subst g2; exact a2.mono b1.fm (fun _ _ => rfl)
        | succ i => exact b3 i y u (by simpa using g1) (by simpa using g2)
end
end Go.Sim
