/- States as they are told at a loop's head. -/
import Derived.Test.YtmidmdabmalhgaaD22
namespace Go.Sim
open Go.RowKit
set_option linter.unusedVariables false
set_option linter.unusedSimpArgs false
set_option linter.unusedSectionVars false

/-- Objects have been added or told anew, in the same world. -/
structure Turn (F : Nat → Prop) (κ : Nat → Value) (w : World) (H : List AObj) (κ' : Nat → Value) (H' : List AObj) : Prop where
  si : SI F κ' w H'
  len : H.length ≤ H'.length
  kp : ∀ l, l < H.length → κ' l = κ l
  on : ∀ b, Own κ' H' b → Own κ H b
  nr : ∀ (l : Nat) (o : AObj), H[l]? = some o → o.notRow → ∃ o', H'[l]? = some o' ∧ o'.notRow

section
variable {F : Nat → Prop} {κ κ' κ'' : Nat → Value} {w : World} {H H' H'' : List AObj}

theorem Turn.refl (s : SI F κ w H) : Turn F κ w H κ H := ⟨s, Nat.le_refl _, fun _ _ => rfl, fun _ h => h, fun l o h h2 => ⟨o, h, h2⟩⟩
theorem Turn.trans (a : Turn F κ w H κ' H') (b : Turn F κ' w H' κ'' H'') : Turn F κ w H κ'' H'' :=
  ⟨b.si, Nat.le_trans a.len b.len, fun l hl => (b.kp l (Nat.lt_of_lt_of_le hl a.len)).trans (a.kp l hl), fun x h => a.on x (b.on x h), fun l o h h2 => by
    obtain ⟨o', h3, h4⟩ := a.nr l o h h2
    exact b.nr l o' h3 h4⟩
theorem Turn.rp (a : Turn F κ w H κ' H') {p : PV} {v : Value} (h : RP F κ H.length w p v) : RP F κ' H'.length w p v :=
  h.mono (fun _ h => h) (fun _ _ => rfl) fun l hl => ⟨a.kp l (h.bound l hl), Nat.lt_of_lt_of_le (h.bound l hl) a.len⟩

theorem Turn.nilRow (s : SI F κ w H) (e k : Nat) : Turn F κ w H (upd κ H.length (.slice none 0 0)) (H ++ [.row e k []]) := by
  refine ⟨s.push _ _ (Nat.le_refl _) (fun _ _ => rfl) (fun _ h => h) (fun _ h => .inl h) s.fl ?_ (fun b hb => ?_), by simp, fun l hl => upd_other κ _ (by omega), fun b hb => ?_, fun l o h h2 => ?_⟩
  · exact ⟨[], by rw [upd_same]; exact World.ownsRow_nil w 0 e k, by simp, by simp, by simp, by simp⟩
  · simp [blk, upd_same, Value.ownBlock] at hb
  · rcases hb.push with h | h
    · exact h
    · simp [blk, upd_same, Value.ownBlock] at h
  · refine ⟨o, ?_, h2⟩
    rw [List.getElem?_append_left (List.getElem?_eq_some_iff.1 h).1]; exact h

theorem prom_prefix : ∀ n : Nat, (∀ p : PV, SizeOf.sizeOf p < n → ∀ H, ∃ N, (p.prom H).2 = H ++ N) ∧ (∀ ps : List PV, SizeOf.sizeOf ps < n → ∀ H, ∃ N, (PV.proms H ps).2 = H ++ N) := by
  intro n
  induction n with
  | zero => exact ⟨fun p hp => absurd hp (Nat.not_lt_zero _), fun p hp => absurd hp (Nat.not_lt_zero _)⟩
  | succ n ih =>
    refine ⟨fun p hp H => ?_, fun ps hp H => ?_⟩
    · cases p with
      | nil e k => exact ⟨_, rfl⟩
      | agg cs => obtain ⟨N, h⟩ := ih.2 cs (by simp at hp; omega) H; exact ⟨N, by simpa [PV.prom] using h⟩
      | _ => exact ⟨[], by simp [PV.prom]⟩
    · cases ps with
      | nil => exact ⟨[], by simp [PV.proms]⟩
      | cons p r =>
        obtain ⟨N, h⟩ := ih.1 p (by simp at hp; omega) H
        obtain ⟨M, h2⟩ := ih.2 r (by simp at hp; omega) (p.prom H).2
        exact ⟨N ++ M, by simp only [PV.proms]; rw [h2, h, List.append_assoc]⟩

theorem prom_sound : ∀ n : Nat, (∀ p : PV, SizeOf.sizeOf p < n → ∀ (κ : Nat → Value) (H : List AObj) (v : Value), SI F κ w H → RP F κ H.length w p v → ∃ κ', Turn F κ w H κ' (p.prom H).2 ∧ RP F κ' (p.prom H).2.length w (p.prom H).1 v) ∧
    (∀ ps : List PV, SizeOf.sizeOf ps < n → ∀ (κ : Nat → Value) (H : List AObj) (vs : List Value), SI F κ w H → vs.length = ps.length → (∀ (i : Nat) (p : PV) (v : Value), ps[i]? = some p → vs[i]? = some v → RP F κ H.length w p v) →
      ∃ κ', Turn F κ w H κ' (PV.proms H ps).2 ∧ (PV.proms H ps).1.length = ps.length ∧ ∀ (i : Nat) (p : PV) (v : Value), (PV.proms H ps).1[i]? = some p → vs[i]? = some v → RP F κ' (PV.proms H ps).2.length w p v) := by
  intro n
  induction n with
  | zero => exact ⟨fun p hp => absurd hp (Nat.not_lt_zero _), fun p hp => absurd hp (Nat.not_lt_zero _)⟩
  | succ n ih =>
    refine ⟨fun p hp κ H v s h => ?_, fun ps hp κ H vs s hl h => ?_⟩
    · cases p with
      | nil e k =>
        cases h
        exact ⟨_, Turn.nilRow s e k, .own (by simp [PV.prom]) (upd_same κ _ _)⟩
      | agg cs =>
        cases h with
        | @agg _ vs hl h1 hr =>
          obtain ⟨κ', h2, h3, h4⟩ := ih.2 cs (by simp at hp; omega) κ H vs s hl hr
          exact ⟨κ', by simpa [PV.prom] using h2, by simp only [PV.prom]; exact .agg (by omega) h1 h4⟩
      | _ => exact ⟨κ, Turn.refl s, h⟩
    · cases ps with
      | nil => exact ⟨κ, Turn.refl s, rfl, by simp [PV.proms]⟩
      | cons p r =>
        match vs, hl with
        | v :: vs, hl =>
          obtain ⟨κ1, a1, a2⟩ := ih.1 p (by simp at hp; omega) κ H v s (h 0 p v rfl rfl)
          obtain ⟨κ2, b1, b2, b3⟩ := ih.2 r (by simp at hp; omega) κ1 (p.prom H).2 vs a1.si (by simpa using hl) (fun i q u g1 g2 => a1.rp (h (i + 1) q u (by simpa using g1) (by simpa using g2)))
          refine ⟨κ2, by simpa [PV.proms] using a1.trans b1, by simp [PV.proms, b2], fun i q u g1 g2 => ?_⟩
          cases i with
          | zero =>
            simp [PV.proms] at g1 g2
            subst g1
            subst g2
            exact b1.rp a2
          | succ i => exact b3 i q u (by simpa [PV.proms] using g1) (by simpa using g2)

/-- A box told anew. -/
theorem Turn.box (s : SI F κ w H) {l e n : Nat} {p p' : PV} (h : H[l]? = some (.box e n p)) (hp : ∀ v, RP F κ H.length w p v → RP F κ H.length w p' v) : Turn F κ w H κ (H.set l (.box e n p')) := by
  have hl : l < H.length := (List.getElem?_eq_some_iff.1 h).1
  obtain ⟨b, vs, vv, r1, r2, r3, r4, r5, r6⟩ := s.ro l _ h
  have hblk : ∀ q, blk κ l (.box e n q) = some b := fun q => by simp [blk, r1, ptrBlock]
  refine ⟨s.objSet h (hblk p) (hblk p') rfl (fun _ _ => rfl) ⟨b, vs, vv, r1, r2, r3, r4, r5, hp vv r6⟩, by simp, fun _ _ => rfl, fun c hc => ?_, fun i o hi hn => ?_⟩
  · obtain ⟨i, o, hi, ho⟩ := hc
    rcases set_get hl hi with ⟨rfl, rfl⟩ | ⟨hne, h2⟩
    · exact ⟨i, _, h, by rw [hblk] at ho ⊢; exact ho⟩
    · exact ⟨i, o, h2, ho⟩
  · by_cases e0 : i = l
    · subst e0; exact ⟨_, List.getElem?_set_self hl, fun _ _ _ h => by cases h⟩
    · exact ⟨o, by rw [List.getElem?_set_ne (fun h => e0 h.symm)]; exact hi, hn⟩

theorem promBoxes_sound : ∀ (n i : Nat) (κ : Nat → Value) (H : List AObj), SI F κ w H → ∃ κ', Turn F κ w H κ' (promBoxes i n H)
  | 0, i, κ, H, s => ⟨κ, Turn.refl s⟩
  | n + 1, i, κ, H, s => by
    simp only [promBoxes]
    split
    · rename_i e m v ho
      obtain ⟨b, vs, vv, r1, r2, r3, r4, r5, r6⟩ := s.ro i _ ho
      obtain ⟨κ1, a1, a2⟩ := (prom_sound (F := F) (w := w) (SizeOf.sizeOf v + 1)).1 v (Nat.lt_succ_self _) κ H vv s r6
      obtain ⟨N, hN⟩ := (prom_prefix (SizeOf.sizeOf v + 1)).1 v (Nat.lt_succ_self _) H
      have ho' : (v.prom H).2[i]? = some (.box e m v) := by rw [hN, List.getElem?_append_left (List.getElem?_eq_some_iff.1 ho).1]; exact ho
      obtain ⟨b', vs', vv', q1, q2, q3, q4, q5, q6⟩ := a1.si.ro i _ ho'
      have hvv : vv'.cells = vv.cells := by
        rw [a1.kp i (List.getElem?_eq_some_iff.1 ho).1, r1] at q1
        injection q1 with q1; injection q1 with q1; injection q1 with q1
        subst q1
        rw [r2] at q2
        injection q2 with q2
        injection q2 with q2
        rw [← q3, ← r3, q2]
      have hbox : Turn F κ1 w (v.prom H).2 κ1 ((v.prom H).2.set i (.box e m (v.prom H).1)) := by
        have hl : i < (v.prom H).2.length := (List.getElem?_eq_some_iff.1 ho').1
        have hblk : ∀ q, blk κ1 i (.box e m q) = some b' := fun q => by simp [blk, q1, ptrBlock]
        refine ⟨a1.si.objSet ho' (hblk _) (hblk _) rfl (fun _ _ => rfl) ⟨b', vs', vv, q1, q2, by rw [q3, hvv], q4, q5, a2⟩, by simp, fun _ _ => rfl, fun c hc => ?_, fun j o hj hn => ?_⟩
        · obtain ⟨j, o, hj, ho2⟩ := hc
          rcases set_get hl hj with ⟨rfl, rfl⟩ | ⟨hne, h2⟩
          · exact ⟨j, _, ho', by rw [hblk] at ho2 ⊢; exact ho2⟩
          · exact ⟨j, o, h2, ho2⟩
        · by_cases e0 : j = i
          · subst e0; exact ⟨_, List.getElem?_set_self hl, fun _ _ _ h => by cases h⟩
          · exact ⟨o, by rw [List.getElem?_set_ne (fun h => e0 h.symm)]; exact hj, hn⟩
      obtain ⟨κ2, c1⟩ := promBoxes_sound n (i + 1) κ1 _ hbox.si
      exact ⟨κ2, a1.trans (hbox.trans c1)⟩
    · exact promBoxes_sound n (i + 1) κ H s

/-! ### names told in another order -/
theorem idx_get : ∀ {xs : List Nat} {l : Nat}, l ∈ xs → xs[idx xs l]? = some l
  | x :: xs, l, h => by
    simp only [idx]
    cases hx : x == l with
    | true => simp at hx; simp [hx]
    | false =>
      have hne : x ≠ l := by simpa using hx
      have := idx_get ((List.mem_cons.1 h).resolve_left fun e => hne e.symm)
      simpa using this
theorem rens_get (f : Nat → Nat) : ∀ (qs : List PV) (i : Nat), (PV.rens f qs)[i]? = (qs[i]?).map (PV.ren f)
  | [], i => by simp [PV.rens]
  | q :: r, 0 => by simp [PV.rens]
  | q :: r, i + 1 => by simpa [PV.rens] using rens_get f r i
theorem rens_length (f : Nat → Nat) : ∀ (qs : List PV), (PV.rens f qs).length = qs.length
  | [] => rfl
  | q :: r => by simp [PV.rens, rens_length f r]

theorem RP.ren {order : List Nat} {N : Nat} {p : PV} {v : Value} (h : RP F κ N w p v) : (∀ l ∈ p.locs, l ∈ order) → RP F (fun i => κ (order.getD i 0)) order.length w (p.ren (idx order)) v := by
  have hk : ∀ l, l ∈ order → κ (order.getD (idx order l) 0) = κ l ∧ idx order l < order.length := fun l hl => by
    have := idx_get hl
    exact ⟨by rw [List.getD_eq_getElem?_getD, this]; rfl, (List.getElem?_eq_some_iff.1 this).1⟩
  induction h with
  | t h => exact fun _ => .t h
  | nil => exact fun _ => .nil
  | @agg cs vs hl h1 _ ih =>
    intro ho
    simp only [PV.ren]
    refine .agg (by rw [rens_length]; exact hl) h1 fun i p v a b => ?_
    rw [rens_get, Option.map_eq_some_iff] at a
    obtain ⟨q, a, rfl⟩ := a
    exact ih i q v a b fun l hl => ho l (by simp only [PV.locs]; exact mem_locss (List.mem_of_getElem? a) hl)
  | @tup cs vs hl _ ih =>
    intro ho
    simp only [PV.ren]
    refine .tup (by rw [rens_length]; exact hl) fun i p v a b => ?_
    rw [rens_get, Option.map_eq_some_iff] at a
    obtain ⟨q, a, rfl⟩ := a
    exact ih i q v a b fun l hl => ho l (by simp only [PV.locs]; exact mem_locss (List.mem_of_getElem? a) hl)
  | @fn f fs cs vf vc h1 h2 r1 r2 i1 i2 =>
    intro ho
    simp only [PV.ren]
    refine .fn (by rw [rens_length]; exact h1) (by rw [rens_length]; exact h2) (fun i p v a b => ?_) (fun i p v a b => ?_)
    · rw [rens_get, Option.map_eq_some_iff] at a
      obtain ⟨q, a, rfl⟩ := a
      exact i1 i q v a b fun l hl => ho l (by simp only [PV.locs, List.mem_append]; exact .inl (mem_locss (List.mem_of_getElem? a) hl))
    · rw [rens_get, Option.map_eq_some_iff] at a
      obtain ⟨q, a, rfl⟩ := a
      exact i2 i q v a b fun l hl => ho l (by simp only [PV.locs, List.mem_append]; exact .inr (mem_locss (List.mem_of_getElem? a) hl))
  | @ptr l o b _ h => intro ho; obtain ⟨a, c⟩ := hk l (ho l (by simp [PV.locs])); exact .ptr c (a.trans h)
  | @own l A n c _ h => intro ho; obtain ⟨a, c⟩ := hk l (ho l (by simp [PV.locs])); exact .own c (a.trans h)
  | @eptr l k i o b n c _ h hi => intro ho; obtain ⟨a, c⟩ := hk l (ho l (by simp [PV.locs])); exact .eptr c (a.trans h) hi
  | @view l k lo hi A n c _ h => intro ho; obtain ⟨a, c⟩ := hk l (ho l (by simp [PV.locs])); exact .view c (by rw [a]; exact h)
  | full h => exact fun _ => .full h
  | rp val a b c d e f => exact fun _ => .rp val a b c d e f
  | junk => exact fun _ => .junk

theorem RO.ren {order : List Nat} {N l m : Nat} {o : AObj} (h : RO F κ N w l o) (hl : order[m]? = some l) (ho : ∀ l ∈ o.locs, l ∈ order) : RO F (fun i => κ (order.getD i 0)) order.length w m (o.ren (idx order)) := by
  have hk : κ (order.getD m 0) = κ l := by rw [List.getD_eq_getElem?_getD, hl]; rfl
  cases o with
  | box e n v =>
    obtain ⟨b, vs, vv, h1, h2, h3, h4, h5, h6⟩ := h
    exact ⟨b, vs, vv, hk.trans h1, h2, h3, h4, h5, h6.ren ho⟩
  | fbox e n v =>
    obtain ⟨b, h1, h2, h3⟩ := h
    exact ⟨b, hk.trans h1, by simp only []; rw [hk]; exact h2, h3⟩
  | row e k xs =>
    obtain ⟨cs, h1, h2⟩ := h
    exact ⟨cs, by simp only []; rw [hk]; exact h1, h2⟩
  | frow e k xs =>
    obtain ⟨h1, h2⟩ := h
    exact ⟨by simp only []; rw [hk]; exact h1, by simp only []; rw [hk]; exact h2⟩
  | vec e xs =>
    obtain ⟨b, vs, c, h1, h2, h3, h4, h5⟩ := h
    refine ⟨b, vs, c, by rw [rens_length]; exact hk.trans h1, h2, by rw [rens_length]; exact h3, h4, fun i p v a d => ?_⟩
    rw [rens_get, Option.map_eq_some_iff] at a
    obtain ⟨q, a, rfl⟩ := a
    exact (h5 i q v a d).ren fun l' hl' => ho l' (by simp only [AObj.locs]; exact mem_locss (List.mem_of_getElem? a) hl')
  | dead => trivial

theorem nodupB_inj : ∀ {xs : List Nat}, nodupB xs = true → ∀ (i j : Nat) (l : Nat), xs[i]? = some l → xs[j]? = some l → i = j
  | [], _, i, j, l, h, _ => by simp at h
  | x :: xs, hn, i, j, l, hi, hj => by
    simp only [nodupB, Bool.and_eq_true, Bool.not_eq_true'] at hn
    have hx : x ∉ xs := fun h => by have := hn.1; rw [List.contains_iff_mem.2 h] at this; cases this
    cases i with
    | zero =>
      simp at hi
      subst hi
      cases j with
      | zero => rfl
      | succ j => exact absurd (List.mem_of_getElem? (show xs[j]? = some x by simpa using hj)) hx
    | succ i =>
      cases j with
      | zero =>
        simp at hj
        subst hj
        exact absurd (List.mem_of_getElem? (show xs[i]? = some x by simpa using hi)) hx
      | succ j => rw [nodupB_inj hn.2 i j l (by simpa using hi) (by simpa using hj)]

theorem blk_ren (f : Nat → Nat) {κ κ' : Nat → Value} {l m : Nat} {o : AObj} (h : κ' m = κ l) : blk κ' m (o.ren f) = blk κ l o := by
  cases o <;> simp [blk, AObj.ren, h]
theorem notRow_ren (f : Nat → Nat) {o : AObj} (h : o.notRow) : (o.ren f).notRow := by
  cases o with
  | row e k xs => exact absurd rfl (h e k xs)
  | _ => intro e k xs h; cases h

theorem tellIn_sound {base : Nat} {order : List Nat} {tm : List PV} {a : Act} (rel : Rel F κ ⟨tm, H⟩ a w) (hb : base ≤ H.length) :
    ∃ κ', Rel F κ' (tellIn base order tm H) a w ∧ Ev base F κ w H F κ' w (tellIn base order tm H).heap := by
  unfold tellIn
  cases hok : orderOk base order tm H with
  | false => exact ⟨κ, rel, Ev.refl hb⟩
  | true =>
    simp only [cond_true]
    unfold orderOk at hok
    simp only [Bool.and_eq_true, List.all_eq_true, decide_eq_true_eq, beq_iff_eq] at hok
    obtain ⟨⟨⟨⟨h1, h2⟩, h3⟩, h4⟩, h5⟩ := hok
    have hget : ∀ (m : Nat) (o : AObj), (order.map fun l => (H.getD l .dead).ren (idx order))[m]? = some o → ∃ l o0, order[m]? = some l ∧ H[l]? = some o0 ∧ o = o0.ren (idx order) ∧ (∀ l' ∈ o0.locs, l' ∈ order) := by
      intro m o h
      rw [List.getElem?_map, Option.map_eq_some_iff] at h
      obtain ⟨l, g1, g2⟩ := h
      have hl := h2 l (List.mem_of_getElem? g1)
      have hg : H[l]? = some (H.getD l .dead) := by rw [List.getD_eq_getElem?_getD, List.getElem?_eq_getElem hl.1]; rfl
      exact ⟨l, _, g1, hg, g2.symm, fun l' hl' => List.contains_iff_mem.1 (hl.2 l' hl')⟩
    have hkey : ∀ m l, order[m]? = some l → κ (order.getD m 0) = κ l := fun m l h => by rw [List.getD_eq_getElem?_getD, h]; rfl
    have hbase : ∀ l, l < base → order[l]? = some l := fun l hl => by
      have := congrArg (fun x => x[l]?) h4
      simp only [List.getElem?_take, if_pos hl, List.getElem?_range hl] at this
      exact this
    refine ⟨fun i => κ (order.getD i 0), ⟨by simp only []; rw [rens_length]; exact rel.tl, fun i p v g1 g2 => ?_, rel.dn, ⟨fun m o h => ?_, fun m o b h hb => ?_, fun m m' o o' b g1 g2 g3 g4 => ?_, rel.si.fl⟩⟩, ⟨rfl, rfl, rfl, Nat.le_refl _, fun _ _ _ => rfl, fun _ h => h, fun _ h => .inl h, fun b hb => ?_, by simpa using h5, fun l o hl g1 g2 => ?_⟩⟩
    · simp only [] at g1
      rw [rens_get, Option.map_eq_some_iff] at g1
      obtain ⟨q, g1, rfl⟩ := g1
      simp only [List.length_map]
      exact (rel.tr i q v g1 g2).ren fun l hl => List.contains_iff_mem.1 (h3 l (mem_locss (List.mem_of_getElem? g1) hl))
    · obtain ⟨l, o0, g1, g2, rfl, g4⟩ := hget m o h
      simp only [List.length_map]
      exact (rel.si.ro l o0 g2).ren g1 g4
    · obtain ⟨l, o0, g1, g2, rfl, g4⟩ := hget m o h
      rw [blk_ren (κ' := fun i => κ (order.getD i 0)) (κ := κ) (l := l) _ (hkey m l g1)] at hb
      exact rel.si.lt l o0 b g2 hb
    · obtain ⟨l, o0, a1, a2, rfl, a4⟩ := hget m o g1
      obtain ⟨l', o0', b1, b2, rfl, b4⟩ := hget m' o' g2
      rw [blk_ren (κ' := fun i => κ (order.getD i 0)) (κ := κ) (l := l) _ (hkey m l a1)] at g3
      rw [blk_ren (κ' := fun i => κ (order.getD i 0)) (κ := κ) (l := l') _ (hkey m' l' b1)] at g4
      have := rel.si.ne l l' o0 o0' b a2 b2 g3 g4
      subst this
      exact nodupB_inj h1 m m' l a1 b1
    · obtain ⟨m, o, g1, g2⟩ := hb
      obtain ⟨l, o0, a1, a2, rfl, a4⟩ := hget m o g1
      rw [blk_ren (κ' := fun i => κ (order.getD i 0)) (κ := κ) (l := l) _ (hkey m l a1)] at g2
      exact .inl ⟨l, o0, a2, g2⟩
    · have hl' := hbase l hl
      refine ⟨hkey l l hl', o.ren (idx order), ?_, notRow_ren _ g2⟩
      simp only [List.getElem?_map, hl', Option.map_some, List.getD_eq_getElem?_getD, g1, Option.getD_some]

theorem keepOnly_get (live : List Nat) (tm : List PV) (i : Nat) : (keepOnly live tm)[i]? = (tm[i]?).map fun p => bif live.contains i then p else .junk := by
  unfold keepOnly
  rw [List.getElem?_map, List.getElem?_zipIdx]
  cases tm[i]? <;> simp
theorem keepOnly_len (live : List Nat) (tm : List PV) : (keepOnly live tm).length = tm.length := by simp [keepOnly]

theorem canon_sound {base : Nat} {live : List Nat} {st : St} {a : Act} (rel : Rel F κ st a w) (hb : base ≤ st.heap.length) :
    ∃ κ', Rel F κ' (canon base live st) a w ∧ Ev base F κ w st.heap F κ' w (canon base live st).heap := by
  unfold canon
  simp only []
  have hk : ∀ (i : Nat) (p : PV) (v : Value), (keepOnly live st.tmps)[i]? = some p → a.tmps.toList[i]? = some v → RP F κ st.heap.length w p v := by
    intro i p v g1 g2
    rw [keepOnly_get, Option.map_eq_some_iff] at g1
    obtain ⟨q, g1, rfl⟩ := g1
    cases live.contains i with
    | true => exact rel.tr i q v g1 (by simpa using g2)
    | false => exact .junk
  obtain ⟨κ1, a1, a2, a3⟩ := (prom_sound (F := F) (w := w) (SizeOf.sizeOf (keepOnly live st.tmps) + 1)).2 _ (Nat.lt_succ_self _) κ st.heap a.tmps.toList rel.si (by rw [keepOnly_len]; simpa using rel.tl) hk
  obtain ⟨κ2, b1⟩ := promBoxes_sound st.heap.length 0 κ1 _ a1.si
  have ab := a1.trans b1
  have rel2 : Rel F κ2 ⟨(PV.proms st.heap (keepOnly live st.tmps)).1, promBoxes 0 st.heap.length (PV.proms st.heap (keepOnly live st.tmps)).2⟩ a w :=
    ⟨by simp only []; rw [a2, keepOnly_len]; exact rel.tl, fun i p v g1 g2 => b1.rp (a3 i p v g1 (by simpa using g2)), rel.dn, b1.si⟩
  obtain ⟨κ3, c1, c2⟩ := tellIn_sound (base := base) (order := reach (promBoxes 0 st.heap.length (PV.proms st.heap (keepOnly live st.tmps)).2) ((promBoxes 0 st.heap.length (PV.proms st.heap (keepOnly live st.tmps)).2).length + 1) (PV.locss (PV.proms st.heap (keepOnly live st.tmps)).1) (List.range base)) rel2 (Nat.le_trans hb ab.len)
  refine ⟨κ3, c1, Ev.trans ?_ c2⟩
  exact ⟨rfl, rfl, rfl, Nat.le_refl _, fun _ _ _ => rfl, fun _ h => h, fun _ h => .inl h, fun b h => .inl (ab.on b h), Nat.le_trans hb ab.len, fun l o hl g1 g2 => ⟨ab.kp l (by omega), ab.nr l o g1 g2⟩⟩
end
end Go.Sim
