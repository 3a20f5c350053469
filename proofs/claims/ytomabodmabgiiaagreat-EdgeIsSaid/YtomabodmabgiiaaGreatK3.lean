/- The texts of a proof, one behind the other: an interpreter and its soundness, what the functions of the program answer, and plain laws on that. -/
import Derived.Test.YtomabodmabgiiaaGreatK2
import Derived.LoopN
import Derived.Scope
set_option linter.unusedVariables false
set_option linter.unusedSimpArgs false
set_option linter.unnecessarySimpa false
set_option linter.unusedSectionVars false
/- States as they are told at a loop's head. -/
namespace Go.Sim
open Go.RowKit
set_option linter.unusedVariables false
set_option linter.unusedSimpArgs false
set_option linter.unusedSectionVars false

/-- Objects have been added or told anew, in the same world. -/
structure Turn (F : Nat → Prop) (κ : Nat → Value) (w : World) (H : List AObj) (κ' : Nat → Value) (H' : List AObj) : Prop where
  si : SI F κ' w H'
  len : H.length ≤ H'.length
  kp : ∀ l, l < H.length → κ' l = κ l
  on : ∀ b, Own κ' H' b → Own κ H b
  nr : ∀ (l : Nat) (o : AObj), H[l]? = some o → o.notRow → ∃ o', H'[l]? = some o' ∧ o'.notRow

section
variable {F : Nat → Prop} {κ κ' κ'' : Nat → Value} {w : World} {H H' H'' : List AObj}

theorem Turn.refl (s : SI F κ w H) : Turn F κ w H κ H := ⟨s, Nat.le_refl _, fun _ _ => rfl, fun _ h => h, fun l o h h2 => ⟨o, h, h2⟩⟩
theorem Turn.trans (a : Turn F κ w H κ' H') (b : Turn F κ' w H' κ'' H'') : Turn F κ w H κ'' H'' :=
  ⟨b.si, Nat.le_trans a.len b.len, fun l hl => (b.kp l (Nat.lt_of_lt_of_le hl a.len)).trans (a.kp l hl), fun x h => a.on x (b.on x h), fun l o h h2 => by
    obtain ⟨o', h3, h4⟩ := a.nr l o h h2
    exact b.nr l o' h3 h4⟩
theorem Turn.rp (a : Turn F κ w H κ' H') {p : PV} {v : Value} (h : RP F κ H.length w p v) : RP F κ' H'.length w p v :=
  h.mono (fun _ h => h) (fun _ _ => rfl) fun l hl => ⟨a.kp l (h.bound l hl), Nat.lt_of_lt_of_le (h.bound l hl) a.len⟩

theorem Turn.nilRow (s : SI F κ w H) (e k : Nat) : Turn F κ w H (upd κ H.length (.slice none 0 0)) (H ++ [.row e k []]) := by
  refine ⟨s.push _ _ (Nat.le_refl _) (fun _ _ => rfl) (fun _ h => h) (fun _ h => .inl h) s.fl ?_ (fun b hb => ?_), by simp, fun l hl => upd_other κ _ (by omega), fun b hb => ?_, fun l o h h2 => ?_⟩
  · exact ⟨[], by rw [upd_same]; exact World.ownsRow_nil w 0 e k, by simp, by simp, by simp, by simp⟩
  · simp [blk, upd_same, Value.ownBlock] at hb
  · rcases hb.push with h | h
    · exact h
    · simp [blk, upd_same, Value.ownBlock] at h
  · refine ⟨o, ?_, h2⟩
    rw [List.getElem?_append_left (List.getElem?_eq_some_iff.1 h).1]; exact h

theorem prom_prefix : ∀ n : Nat, (∀ p : PV, SizeOf.sizeOf p < n → ∀ H, ∃ N, (p.prom H).2 = H ++ N) ∧ (∀ ps : List PV, SizeOf.sizeOf ps < n → ∀ H, ∃ N, (PV.proms H ps).2 = H ++ N) := by
  intro n
  induction n with
  | zero => exact ⟨fun p hp => absurd hp (Nat.not_lt_zero _), fun p hp => absurd hp (Nat.not_lt_zero _)⟩
  | succ n ih =>
    refine ⟨fun p hp H => ?_, fun ps hp H => ?_⟩
    · cases p with
      | nil e k => exact ⟨_, rfl⟩
      | agg cs => obtain ⟨N, h⟩ := ih.2 cs (by simp at hp; omega) H; exact ⟨N, by simpa [PV.prom] using h⟩
      | _ => exact ⟨[], by simp [PV.prom]⟩
    · cases ps with
      | nil => exact ⟨[], by simp [PV.proms]⟩
      | cons p r =>
        obtain ⟨N, h⟩ := ih.1 p (by simp at hp; omega) H
        obtain ⟨M, h2⟩ := ih.2 r (by simp at hp; omega) (p.prom H).2
        exact ⟨N ++ M, by simp only [PV.proms]; rw [h2, h, List.append_assoc]⟩

theorem prom_sound : ∀ n : Nat, (∀ p : PV, SizeOf.sizeOf p < n → ∀ (κ : Nat → Value) (H : List AObj) (v : Value), SI F κ w H → RP F κ H.length w p v → ∃ κ', Turn F κ w H κ' (p.prom H).2 ∧ RP F κ' (p.prom H).2.length w (p.prom H).1 v) ∧
    (∀ ps : List PV, SizeOf.sizeOf ps < n → ∀ (κ : Nat → Value) (H : List AObj) (vs : List Value), SI F κ w H → vs.length = ps.length → (∀ (i : Nat) (p : PV) (v : Value), ps[i]? = some p → vs[i]? = some v → RP F κ H.length w p v) →
      ∃ κ', Turn F κ w H κ' (PV.proms H ps).2 ∧ (PV.proms H ps).1.length = ps.length ∧ ∀ (i : Nat) (p : PV) (v : Value), (PV.proms H ps).1[i]? = some p → vs[i]? = some v → RP F κ' (PV.proms H ps).2.length w p v) := by
  intro n
  induction n with
  | zero => exact ⟨fun p hp => absurd hp (Nat.not_lt_zero _), fun p hp => absurd hp (Nat.not_lt_zero _)⟩
  | succ n ih =>
    refine ⟨fun p hp κ H v s h => ?_, fun ps hp κ H vs s hl h => ?_⟩
    · cases p with
      | nil e k =>
        cases h
        exact ⟨_, Turn.nilRow s e k, .own (by simp [PV.prom]) (upd_same κ _ _)⟩
      | agg cs =>
        cases h with
        | @agg _ vs hl h1 hr =>
          obtain ⟨κ', h2, h3, h4⟩ := ih.2 cs (by simp at hp; omega) κ H vs s hl hr
          exact ⟨κ', by simpa [PV.prom] using h2, by simp only [PV.prom]; exact .agg (by omega) h1 h4⟩
      | _ => exact ⟨κ, Turn.refl s, h⟩
    · cases ps with
      | nil => exact ⟨κ, Turn.refl s, rfl, by simp [PV.proms]⟩
      | cons p r =>
        match vs, hl with
        | v :: vs, hl =>
          obtain ⟨κ1, a1, a2⟩ := ih.1 p (by simp at hp; omega) κ H v s (h 0 p v rfl rfl)
          obtain ⟨κ2, b1, b2, b3⟩ := ih.2 r (by simp at hp; omega) κ1 (p.prom H).2 vs a1.si (by simpa using hl) (fun i q u g1 g2 => a1.rp (h (i + 1) q u (by simpa using g1) (by simpa using g2)))
          refine ⟨κ2, by simpa [PV.proms] using a1.trans b1, by simp [PV.proms, b2], fun i q u g1 g2 => ?_⟩
          cases i with
          | zero =>
            simp [PV.proms] at g1 g2
            subst g1
            subst g2
            exact b1.rp a2
          | succ i => exact b3 i q u (by simpa [PV.proms] using g1) (by simpa using g2)

/-- A box told anew. -/
theorem Turn.box (s : SI F κ w H) {l e n : Nat} {p p' : PV} (h : H[l]? = some (.box e n p)) (hp : ∀ v, RP F κ H.length w p v → RP F κ H.length w p' v) : Turn F κ w H κ (H.set l (.box e n p')) := by
  have hl : l < H.length := (List.getElem?_eq_some_iff.1 h).1
  obtain ⟨b, vs, vv, r1, r2, r3, r4, r5, r6⟩ := s.ro l _ h
  have hblk : ∀ q, blk κ l (.box e n q) = some b := fun q => by simp [blk, r1, ptrBlock]
  refine ⟨s.objSet h (hblk p) (hblk p') rfl (fun _ _ => rfl) ⟨b, vs, vv, r1, r2, r3, r4, r5, hp vv r6⟩, by simp, fun _ _ => rfl, fun c hc => ?_, fun i o hi hn => ?_⟩
  · obtain ⟨i, o, hi, ho⟩ := hc
    rcases set_get hl hi with ⟨rfl, rfl⟩ | ⟨hne, h2⟩
    · exact ⟨i, _, h, by rw [hblk] at ho ⊢; exact ho⟩
    · exact ⟨i, o, h2, ho⟩
  · by_cases e0 : i = l
    · subst e0; exact ⟨_, List.getElem?_set_self hl, fun _ _ _ h => by cases h⟩
    · exact ⟨o, by rw [List.getElem?_set_ne (fun h => e0 h.symm)]; exact hi, hn⟩

theorem promBoxes_sound : ∀ (n i : Nat) (κ : Nat → Value) (H : List AObj), SI F κ w H → ∃ κ', Turn F κ w H κ' (promBoxes i n H)
  | 0, i, κ, H, s => ⟨κ, Turn.refl s⟩
  | n + 1, i, κ, H, s => by
    simp only [promBoxes]
    split
    · rename_i e m v ho
      obtain ⟨b, vs, vv, r1, r2, r3, r4, r5, r6⟩ := s.ro i _ ho
      obtain ⟨κ1, a1, a2⟩ := (prom_sound (F := F) (w := w) (SizeOf.sizeOf v + 1)).1 v (Nat.lt_succ_self _) κ H vv s r6
      obtain ⟨N, hN⟩ := (prom_prefix (SizeOf.sizeOf v + 1)).1 v (Nat.lt_succ_self _) H
      have ho' : (v.prom H).2[i]? = some (.box e m v) := by rw [hN, List.getElem?_append_left (List.getElem?_eq_some_iff.1 ho).1]; exact ho
      obtain ⟨b', vs', vv', q1, q2, q3, q4, q5, q6⟩ := a1.si.ro i _ ho'
      have hvv : vv'.cells = vv.cells := by
        rw [a1.kp i (List.getElem?_eq_some_iff.1 ho).1, r1] at q1
        injection q1 with q1; injection q1 with q1; injection q1 with q1
        subst q1
        rw [r2] at q2
        injection q2 with q2
        injection q2 with q2
        rw [← q3, ← r3, q2]
      have hbox : Turn F κ1 w (v.prom H).2 κ1 ((v.prom H).2.set i (.box e m (v.prom H).1)) := by
        have hl : i < (v.prom H).2.length := (List.getElem?_eq_some_iff.1 ho').1
        have hblk : ∀ q, blk κ1 i (.box e m q) = some b' := fun q => by simp [blk, q1, ptrBlock]
        refine ⟨a1.si.objSet ho' (hblk _) (hblk _) rfl (fun _ _ => rfl) ⟨b', vs', vv, q1, q2, by rw [q3, hvv], q4, q5, a2⟩, by simp, fun _ _ => rfl, fun c hc => ?_, fun j o hj hn => ?_⟩
        · obtain ⟨j, o, hj, ho2⟩ := hc
          rcases set_get hl hj with ⟨rfl, rfl⟩ | ⟨hne, h2⟩
          · exact ⟨j, _, ho', by rw [hblk] at ho2 ⊢; exact ho2⟩
          · exact ⟨j, o, h2, ho2⟩
        · by_cases e0 : j = i
          · subst e0; exact ⟨_, List.getElem?_set_self hl, fun _ _ _ h => by cases h⟩
          · exact ⟨o, by rw [List.getElem?_set_ne (fun h => e0 h.symm)]; exact hj, hn⟩
      obtain ⟨κ2, c1⟩ := promBoxes_sound n (i + 1) κ1 _ hbox.si
      exact ⟨κ2, a1.trans (hbox.trans c1)⟩
    · exact promBoxes_sound n (i + 1) κ H s

/-! ### names told in another order -/
theorem idx_get : ∀ {xs : List Nat} {l : Nat}, l ∈ xs → xs[idx xs l]? = some l
  | x :: xs, l, h => by
    simp only [idx]
    cases hx : x == l with
    | true => simp at hx; simp [hx]
    | false =>
      have hne : x ≠ l := by simpa using hx
      have := idx_get ((List.mem_cons.1 h).resolve_left fun e => hne e.symm)
      simpa using this
theorem rens_get (f : Nat → Nat) : ∀ (qs : List PV) (i : Nat), (PV.rens f qs)[i]? = (qs[i]?).map (PV.ren f)
  | [], i => by simp [PV.rens]
  | q :: r, 0 => by simp [PV.rens]
  | q :: r, i + 1 => by simpa [PV.rens] using rens_get f r i
theorem rens_length (f : Nat → Nat) : ∀ (qs : List PV), (PV.rens f qs).length = qs.length
  | [] => rfl
  | q :: r => by simp [PV.rens, rens_length f r]

theorem RP.ren {order : List Nat} {N : Nat} {p : PV} {v : Value} (h : RP F κ N w p v) : (∀ l ∈ p.locs, l ∈ order) → RP F (fun i => κ (order.getD i 0)) order.length w (p.ren (idx order)) v := by
  have hk : ∀ l, l ∈ order → κ (order.getD (idx order l) 0) = κ l ∧ idx order l < order.length := fun l hl => by
    have := idx_get hl
    exact ⟨by rw [List.getD_eq_getElem?_getD, this]; rfl, (List.getElem?_eq_some_iff.1 this).1⟩
  induction h with
  | t h => exact fun _ => .t h
  | nil => exact fun _ => .nil
  | @agg cs vs hl h1 _ ih =>
    intro ho
    simp only [PV.ren]
    refine .agg (by rw [rens_length]; exact hl) h1 fun i p v a b => ?_
    rw [rens_get, Option.map_eq_some_iff] at a
    obtain ⟨q, a, rfl⟩ := a
    exact ih i q v a b fun l hl => ho l (by simp only [PV.locs]; exact mem_locss (List.mem_of_getElem? a) hl)
  | @tup cs vs hl _ ih =>
    intro ho
    simp only [PV.ren]
    refine .tup (by rw [rens_length]; exact hl) fun i p v a b => ?_
    rw [rens_get, Option.map_eq_some_iff] at a
    obtain ⟨q, a, rfl⟩ := a
    exact ih i q v a b fun l hl => ho l (by simp only [PV.locs]; exact mem_locss (List.mem_of_getElem? a) hl)
  | @fn f fs cs vf vc h1 h2 r1 r2 i1 i2 =>
    intro ho
    simp only [PV.ren]
    refine .fn (by rw [rens_length]; exact h1) (by rw [rens_length]; exact h2) (fun i p v a b => ?_) (fun i p v a b => ?_)
    · rw [rens_get, Option.map_eq_some_iff] at a
      obtain ⟨q, a, rfl⟩ := a
      exact i1 i q v a b fun l hl => ho l (by simp only [PV.locs, List.mem_append]; exact .inl (mem_locss (List.mem_of_getElem? a) hl))
    · rw [rens_get, Option.map_eq_some_iff] at a
      obtain ⟨q, a, rfl⟩ := a
      exact i2 i q v a b fun l hl => ho l (by simp only [PV.locs, List.mem_append]; exact .inr (mem_locss (List.mem_of_getElem? a) hl))
  | @ptr l o b _ h => intro ho; obtain ⟨a, c⟩ := hk l (ho l (by simp [PV.locs])); exact .ptr c (a.trans h)
  | @own l A n c _ h => intro ho; obtain ⟨a, c⟩ := hk l (ho l (by simp [PV.locs])); exact .own c (a.trans h)
  | @eptr l k i o b n c _ h hi => intro ho; obtain ⟨a, c⟩ := hk l (ho l (by simp [PV.locs])); exact .eptr c (a.trans h) hi
  | @view l k lo hi A n c _ h => intro ho; obtain ⟨a, c⟩ := hk l (ho l (by simp [PV.locs])); exact .view c (by rw [a]; exact h)
  | @mp l b _ h => intro ho; obtain ⟨a, c⟩ := hk l (ho l (by simp [PV.locs])); exact .mp c (a.trans h)
  | full h => exact fun _ => .full h
  | rp val a b c d e f => exact fun _ => .rp val a b c d e f
  | junk => exact fun _ => .junk

theorem RO.ren {order : List Nat} {N l m : Nat} {o : AObj} (h : RO F κ N w l o) (hl : order[m]? = some l) (ho : ∀ l ∈ o.locs, l ∈ order) : RO F (fun i => κ (order.getD i 0)) order.length w m (o.ren (idx order)) := by
  have hk : κ (order.getD m 0) = κ l := by rw [List.getD_eq_getElem?_getD, hl]; rfl
  cases o with
  | box e n v =>
    obtain ⟨b, vs, vv, h1, h2, h3, h4, h5, h6⟩ := h
    exact ⟨b, vs, vv, hk.trans h1, h2, h3, h4, h5, h6.ren ho⟩
  | fbox e n v =>
    obtain ⟨b, h1, h2, h3⟩ := h
    exact ⟨b, hk.trans h1, by simp only []; rw [hk]; exact h2, h3⟩
  | row e k xs =>
    obtain ⟨cs, h1, h2⟩ := h
    exact ⟨cs, by simp only []; rw [hk]; exact h1, h2⟩
  | frow e k xs =>
    obtain ⟨h1, h2⟩ := h
    exact ⟨by simp only []; rw [hk]; exact h1, by simp only []; rw [hk]; exact h2⟩
  | vec e xs =>
    obtain ⟨b, vs, c, h1, h2, h3, h4, h5⟩ := h
    refine ⟨b, vs, c, by rw [rens_length]; exact hk.trans h1, h2, by rw [rens_length]; exact h3, h4, fun i p v a d => ?_⟩
    rw [rens_get, Option.map_eq_some_iff] at a
    obtain ⟨q, a, rfl⟩ := a
    exact (h5 i q v a d).ren fun l' hl' => ho l' (by simp only [AObj.locs]; exact mem_locss (List.mem_of_getElem? a) hl')
  | map es c =>
    obtain ⟨b, ms, h1, h2⟩ := h
    exact ⟨b, ms, hk.trans h1, h2⟩
  | iter a since seen last =>
    obtain ⟨b, bm, h1, h2, h3, h4⟩ := h
    have hm := ho a (by simp [AObj.locs])
    have h5 := idx_get hm
    refine ⟨b, bm, hk.trans h1, ?_, (List.getElem?_eq_some_iff.1 h5).1, h4⟩
    simp only []
    rw [List.getD_eq_getElem?_getD, h5]; exact h2
  | dead => trivial

theorem nodupB_inj : ∀ {xs : List Nat}, nodupB xs = true → ∀ (i j : Nat) (l : Nat), xs[i]? = some l → xs[j]? = some l → i = j
  | [], _, i, j, l, h, _ => by simp at h
  | x :: xs, hn, i, j, l, hi, hj => by
    simp only [nodupB, Bool.and_eq_true, Bool.not_eq_true'] at hn
    have hx : x ∉ xs := fun h => by have := hn.1; rw [List.contains_iff_mem.2 h] at this; cases this
    cases i with
    | zero =>
      simp at hi
      subst hi
      cases j with
      | zero => rfl
      | succ j => exact absurd (List.mem_of_getElem? (show xs[j]? = some x by simpa using hj)) hx
    | succ i =>
      cases j with
      | zero =>
        simp at hj
        subst hj
        exact absurd (List.mem_of_getElem? (show xs[i]? = some x by simpa using hi)) hx
      | succ j => rw [nodupB_inj hn.2 i j l (by simpa using hi) (by simpa using hj)]

theorem blk_ren (f : Nat → Nat) {κ κ' : Nat → Value} {l m : Nat} {o : AObj} (h : κ' m = κ l) : blk κ' m (o.ren f) = blk κ l o := by
  cases o <;> simp [blk, AObj.ren, h]
theorem notRow_ren (f : Nat → Nat) {o : AObj} (h : o.notRow) : (o.ren f).notRow := by
  cases o with
  | row e k xs => exact absurd rfl (h e k xs)
  | _ => intro e k xs h; cases h

theorem tellIn_sound {base : Nat} {order : List Nat} {tm : List PV} {a : Act} (rel : Rel F κ ⟨tm, H⟩ a w) (hb : base ≤ H.length) :
    ∃ κ', Rel F κ' (tellIn base order tm H) a w ∧ Ev base F κ w H F κ' w (tellIn base order tm H).heap := by
  unfold tellIn
  cases hok : orderOk base order tm H with
  | false => exact ⟨κ, rel, Ev.refl hb⟩
  | true =>
    simp only [cond_true]
    unfold orderOk at hok
    simp only [Bool.and_eq_true, List.all_eq_true, decide_eq_true_eq, beq_iff_eq] at hok
    obtain ⟨⟨⟨⟨h1, h2⟩, h3⟩, h4⟩, h5⟩ := hok
    have hget : ∀ (m : Nat) (o : AObj), (order.map fun l => (H.getD l .dead).ren (idx order))[m]? = some o → ∃ l o0, order[m]? = some l ∧ H[l]? = some o0 ∧ o = o0.ren (idx order) ∧ (∀ l' ∈ o0.locs, l' ∈ order) := by
      intro m o h
      rw [List.getElem?_map, Option.map_eq_some_iff] at h
      obtain ⟨l, g1, g2⟩ := h
      have hl := h2 l (List.mem_of_getElem? g1)
      have hg : H[l]? = some (H.getD l .dead) := by rw [List.getD_eq_getElem?_getD, List.getElem?_eq_getElem hl.1]; rfl
      exact ⟨l, _, g1, hg, g2.symm, fun l' hl' => List.contains_iff_mem.1 (hl.2 l' hl')⟩
    have hkey : ∀ m l, order[m]? = some l → κ (order.getD m 0) = κ l := fun m l h => by rw [List.getD_eq_getElem?_getD, h]; rfl
    have hbase : ∀ l, l < base → order[l]? = some l := fun l hl => by
      have := congrArg (fun x => x[l]?) h4
      simp only [List.getElem?_take, if_pos hl, List.getElem?_range hl] at this
      exact this
    refine ⟨fun i => κ (order.getD i 0), ⟨by simp only []; rw [rens_length]; exact rel.tl, fun i p v g1 g2 => ?_, rel.dn, ⟨fun m o h => ?_, fun m o b h hb => ?_, fun m m' o o' b g1 g2 g3 g4 => ?_, rel.si.fl⟩⟩, ⟨rfl, rfl, rfl, Nat.le_refl _, fun _ _ _ => rfl, fun _ h => h, fun _ h => .inl h, fun b hb => ?_, by simpa using h5, fun l o hl g1 g2 => ?_⟩⟩
    · simp only [] at g1
      rw [rens_get, Option.map_eq_some_iff] at g1
      obtain ⟨q, g1, rfl⟩ := g1
      simp only [List.length_map]
      exact (rel.tr i q v g1 g2).ren fun l hl => List.contains_iff_mem.1 (h3 l (mem_locss (List.mem_of_getElem? g1) hl))
    · obtain ⟨l, o0, g1, g2, rfl, g4⟩ := hget m o h
      simp only [List.length_map]
      exact (rel.si.ro l o0 g2).ren g1 g4
    · obtain ⟨l, o0, g1, g2, rfl, g4⟩ := hget m o h
      rw [blk_ren (κ' := fun i => κ (order.getD i 0)) (κ := κ) (l := l) _ (hkey m l g1)] at hb
      exact rel.si.lt l o0 b g2 hb
    · obtain ⟨l, o0, a1, a2, rfl, a4⟩ := hget m o g1
      obtain ⟨l', o0', b1, b2, rfl, b4⟩ := hget m' o' g2
      rw [blk_ren (κ' := fun i => κ (order.getD i 0)) (κ := κ) (l := l) _ (hkey m l a1)] at g3
      rw [blk_ren (κ' := fun i => κ (order.getD i 0)) (κ := κ) (l := l') _ (hkey m' l' b1)] at g4
      have := rel.si.ne l l' o0 o0' b a2 b2 g3 g4
      subst this
      exact nodupB_inj h1 m m' l a1 b1
    · obtain ⟨m, o, g1, g2⟩ := hb
      obtain ⟨l, o0, a1, a2, rfl, a4⟩ := hget m o g1
      rw [blk_ren (κ' := fun i => κ (order.getD i 0)) (κ := κ) (l := l) _ (hkey m l a1)] at g2
      exact .inl ⟨l, o0, a2, g2⟩
    · have hl' := hbase l hl
      refine ⟨hkey l l hl', o.ren (idx order), ?_, notRow_ren _ g2⟩
      simp only [List.getElem?_map, hl', Option.map_some, List.getD_eq_getElem?_getD, g1, Option.getD_some]

theorem keepOnly_get (live : List Nat) (tm : List PV) (i : Nat) : (keepOnly live tm)[i]? = (tm[i]?).map fun p => bif live.contains i then p else .junk := by
  unfold keepOnly
  rw [List.getElem?_map, List.getElem?_zipIdx]
  cases tm[i]? <;> simp
theorem keepOnly_len (live : List Nat) (tm : List PV) : (keepOnly live tm).length = tm.length := by simp [keepOnly]

theorem canon_sound {base : Nat} {live : List Nat} {st : St} {a : Act} (rel : Rel F κ st a w) (hb : base ≤ st.heap.length) :
    ∃ κ', Rel F κ' (canon base live st) a w ∧ Ev base F κ w st.heap F κ' w (canon base live st).heap := by
  unfold canon
  simp only []
  have hk : ∀ (i : Nat) (p : PV) (v : Value), (keepOnly live st.tmps)[i]? = some p → a.tmps.toList[i]? = some v → RP F κ st.heap.length w p v := by
    intro i p v g1 g2
    rw [keepOnly_get, Option.map_eq_some_iff] at g1
    obtain ⟨q, g1, rfl⟩ := g1
    cases live.contains i with
    | true => exact rel.tr i q v g1 (by simpa using g2)
    | false => exact .junk
  obtain ⟨κ1, a1, a2, a3⟩ := (prom_sound (F := F) (w := w) (SizeOf.sizeOf (keepOnly live st.tmps) + 1)).2 _ (Nat.lt_succ_self _) κ st.heap a.tmps.toList rel.si (by rw [keepOnly_len]; simpa using rel.tl) hk
  obtain ⟨κ2, b1⟩ := promBoxes_sound st.heap.length 0 κ1 _ a1.si
  have ab := a1.trans b1
  have rel2 : Rel F κ2 ⟨(PV.proms st.heap (keepOnly live st.tmps)).1, promBoxes 0 st.heap.length (PV.proms st.heap (keepOnly live st.tmps)).2⟩ a w :=
    ⟨by simp only []; rw [a2, keepOnly_len]; exact rel.tl, fun i p v g1 g2 => b1.rp (a3 i p v g1 (by simpa using g2)), rel.dn, b1.si⟩
  obtain ⟨κ3, c1, c2⟩ := tellIn_sound (base := base) (order := reach (promBoxes 0 st.heap.length (PV.proms st.heap (keepOnly live st.tmps)).2) ((promBoxes 0 st.heap.length (PV.proms st.heap (keepOnly live st.tmps)).2).length + 1) (PV.locss (PV.proms st.heap (keepOnly live st.tmps)).1) (List.range base)) rel2 (Nat.le_trans hb ab.len)
  refine ⟨κ3, c1, Ev.trans ?_ c2⟩
  exact ⟨rfl, rfl, rfl, Nat.le_refl _, fun _ _ _ => rfl, fun _ h => h, fun _ h => .inl h, fun b h => .inl (ab.on b h), Nat.le_trans hb ab.len, fun l o hl g1 g2 => ⟨ab.kp l (by omega), ab.nr l o g1 g2⟩⟩
end
end Go.Sim

/- Code, functions, calls. -/
namespace Go.Sim
open Go.RowKit
set_option linter.unusedVariables false
set_option linter.unusedSimpArgs false
set_option linter.unusedSectionVars false

section
variable {E : Env} {rc : Caller} {f : FuncId} {fn : Func} {n base : Nat}

theorem nat_k {β γ : Type} {g : Res β → Res γ} (e : Ex) (a : Res β) (b : Nat → Res β) (c : Res β) : g (e.k a b c) = e.k (g a) (fun i => g (b i)) (g c) := by cases e <;> rfl

theorem nat_codeK (hrc : rc.Nat) : ∀ (c : Code) {β γ : Type} {g : Res β → Res γ}, Strict g → ∀ (st : St) (K : Ex → St → Res β), g (codeK E rc f fn n base c st K) = codeK E rc f fn n base c st fun e s => g (K e s)
  | .skip, β, γ, g, hg, st, K => rfl
  | .region id ops dr, β, γ, g, hg, st, K => by
    simp only [codeK]
    cases dr with
    | true => simp only [cond_true, nat_cond hg, nat_opsK hg hrc, hg.stuck]
    | false => simp only [cond_false, nat_opsK hg hrc]
  | .seq a b, β, γ, g, hg, st, K => by
    simp only [codeK]
    rw [nat_codeK hrc a hg]
    congr 1; funext e s
    rw [nat_k (g := g), nat_codeK hrc b hg]
  | .cond c a b, β, γ, g, hg, st, K => by
    simp only [codeK, nat_someK hg]
    congr 1; funext p
    cases p <;> first | exact hg.stuck | skip
    simp only [nat_bT hg, nat_cond hg, nat_codeK hrc a hg, nat_codeK hrc b hg]
  | .block id c, β, γ, g, hg, st, K => by
    simp only [codeK]
    rw [nat_codeK hrc c hg]
    congr 1; funext e s
    rw [nat_k (g := g)]
    cases e <;> first | rfl | skip
    simp only [Ex.k]
    split <;> rfl
  | .loop c, β, γ, g, hg, st, K => by
    simp only [codeK]
    rw [nat_bind hg]
  | .exit id, β, γ, g, hg, st, K => rfl
  | .scope c, β, γ, g, hg, st, K => by simp only [codeK]; exact nat_codeK hrc c hg st K
  | .label l, β, γ, g, hg, st, K => rfl
  | .ret, β, γ, g, hg, st, K => rfl
  | .rangeFunc .., β, γ, g, hg, st, K => hg.stuck
  | .goto .., β, γ, g, hg, st, K => hg.stuck
  | .refuse .., β, γ, g, hg, st, K => hg.stuck

theorem nat_resultsK {β γ : Type} {g : Res β → Res γ} (hg : Strict g) {st : St} : ∀ (l : List ResultVar) (K : List PV → Res β), g (resultsK E st l K) = resultsK E st l fun ps => g (K ps)
  | [], K => rfl
  | .tmp t :: r, K => by simp only [resultsK]; rw [nat_resultsK hg]
  | .cell a t :: r, K => by
    simp only [resultsK, nat_loadK hg]
    congr 1; funext p
    exact nat_resultsK hg r _

theorem nat_funK (hrc : rc.Nat) {β γ : Type} {g : Res β → Res γ} (hg : Strict g) (args : List PV) (H : List AObj) (K : PV → List AObj → Res β) : g (funK E rc n f args H K) = funK E rc n f args H fun r H' => g (K r H') := by
  unfold funK
  split
  · exact hg.stuck
  · split
    · exact hg.stuck
    · rw [nat_codeK hrc _ hg]
      congr 1; funext e s
      rw [nat_k (g := g), nat_resultsK hg, hg.stuck]

def Ex.out : Ex → Exit
  | .norm => .normal
  | .exit i => .exit i
  | .ret => .ret

/-- The rule of a code's soundness. -/
def CodeOk (E : Env) (rc : Caller) (f : FuncId) (fn : Func) (n base : Nat) (c : Code) : Prop := ∀ (β : Type) (st : St) (K : Ex → St → Res β) (F : Nat → Prop) (κ : Nat → Value) (a : Act) (w : World) (Q : Exit → Act → World → Prop),
  codeK E rc f fn n base c st K ≠ .stuck → base ≤ st.heap.length → Rel F κ st a w →
  (∀ e st' F' κ' a' w', codeK E rc f fn n base c st K = K e st' → Rel F' κ' st' a' w' → Ev base F κ w st.heap F' κ' w' st'.heap → Q e.out a' w') → c.wp E.P Q a w

theorem iter_sound {B : St → Res (Ex × St)} {c : Code} {Q : Exit → Act → World → Prop} {P : Program}
    (hB : ∀ (st : St) (F : Nat → Prop) (κ : Nat → Value) (a : Act) (w : World) (Q : Exit → Act → World → Prop), B st ≠ .stuck → base ≤ st.heap.length → Rel F κ st a w → (∀ e st' F' κ' a' w', B st = .ok (e, st') → Rel F' κ' st' a' w' → Ev base F κ w st.heap F' κ' w' st'.heap → Q e.out a' w') → c.wp P Q a w) :
    ∀ (m : Nat) (st : St) (F : Nat → Prop) (κ : Nat → Value) (a : Act) (w : World), iterR B m st ≠ .stuck → base ≤ st.heap.length → Rel F κ st a w →
      (∀ e st' F' κ' a' w', iterR B m st = .ok (e, st') → Rel F' κ' st' a' w' → Ev base F κ w st.heap F' κ' w' st'.heap → Q e.out a' w') → Code.rounds P c Q m a w
  | 0, st, F, κ, a, w, h, hb, rel, hq => absurd rfl h
  | m + 1, st, F, κ, a, w, h, hb, rel, hq => by
    rw [rounds_succ]
    simp only [iterR] at h hq
    refine hB st F κ a w _ (bind_inv h) hb rel fun e st' F' κ' a' w' e1 r1 ev1 => ?_
    rw [e1] at h hq
    simp only [Res.bind_ok] at h hq
    cases e with
    | norm => exact iter_sound hB m st' F' κ' a' w' h ev1.hl r1 fun e2 st2 F2 κ2 a2 w2 e3 r2 ev2 => hq e2 st2 F2 κ2 a2 w2 e3 r2 (ev1.trans ev2)
    | exit i => exact hq (.exit i) st' F' κ' a' w' rfl r1 ev1
    | ret => exact hq .ret st' F' κ' a' w' rfl r1 ev1

theorem codeK_sound (hm : E.P.follows .mixedOrders = true) (hc : CallerOk E rc) : ∀ c : Code, CodeOk E rc f fn n base c
  | .skip => fun β st K F κ a w Q h hb rel hq => Go.wp_skip (hq .norm st F κ a w rfl rel (Ev.refl hb))
  | .region id ops dr => fun β st K F κ a w Q h hb rel hq => by
    simp only [codeK] at h hq
    cases dr with
    | true =>
      simp only [cond_true] at h hq
      obtain ⟨g1, e1⟩ := cond_inv' h
      rw [e1] at h hq
      exact draw_sound (N0 := base) hm hc g1 h hb rel fun st' F' κ' a' w' e r ev => hq .norm st' F' κ' a' w' e r ev
    | false =>
      simp only [cond_false] at h hq
      exact region_sound (N0 := base) hc (by rw [List.map_map]; exact List.map_id' _) h hb rel fun st' F' κ' a' w' e r ev => hq .norm st' F' κ' a' w' e r ev
  | .seq x y => fun β st K F κ a w Q h hb rel hq => by
    simp only [codeK] at h hq
    refine wp_seq (codeK_sound hm hc x _ st _ F κ a w _ h hb rel fun e st' F' κ' a' w' e1 r1 ev1 => ?_)
    rw [e1] at h hq
    cases e with
    | norm => exact codeK_sound hm hc y _ st' K F' κ' a' w' Q h ev1.hl r1 fun e2 st2 F2 κ2 a2 w2 e3 r2 ev2 => hq e2 st2 F2 κ2 a2 w2 e3 r2 (ev1.trans ev2)
    | exit i => exact hq (.exit i) st' F' κ' a' w' rfl r1 ev1
    | ret => exact hq .ret st' F' κ' a' w' rfl r1 ev1
  | .cond c x y => fun β st K F κ a w Q h hb rel hq => by
    simp only [codeK] at h hq
    obtain ⟨p, e1, e2⟩ := someK_inv h
    rw [e2] at h hq
    have hv := evalO_sound rel.tl rel.tr e1
    cases p with
    | t z =>
      simp only [] at h hq
      obtain ⟨b, rfl, e3⟩ := bT_inv h
      rw [e3] at h hq
      generalize hv' : a.eval c = v at hv
      cases hv with
      | t hv =>
      cases hv with
      | bool =>
      refine wp_cond hv' ?_
      cases b with
      | true => exact codeK_sound hm hc x _ st K F κ a w Q h hb rel hq
      | false => exact codeK_sound hm hc y _ st K F κ a w Q h hb rel hq
    | _ => exact absurd rfl h
  | .block id c => fun β st K F κ a w Q h hb rel hq => by
    simp only [codeK] at h hq
    refine wp_block (codeK_sound hm hc c _ st _ F κ a w _ h hb rel fun e st' F' κ' a' w' e1 r1 ev1 => ?_)
    cases e with
    | norm => exact hq .norm st' F' κ' a' w' e1 r1 ev1
    | exit i =>
      simp only [Ex.out, Exit.inBlock]
      simp only [Ex.k] at e1
      by_cases hi : i = id
      · rw [if_pos hi] at e1 ⊢; exact hq .norm st' F' κ' a' w' e1 r1 ev1
      · rw [if_neg hi] at e1 ⊢; exact hq (.exit i) st' F' κ' a' w' e1 r1 ev1
    | ret => exact hq .ret st' F' κ' a' w' e1 r1 ev1
  | .loop c => fun β st K F κ a w Q h hb rel hq => by
    simp only [codeK] at h hq
    obtain ⟨κ1, rel1, ev1⟩ := canon_sound (live := (E.hint f (firstRegion c)).1) rel hb
    refine wp_loop_rounds n (iter_sound (base := base) (fun st F κ a w Q h hb rel hq => ?_) n _ F κ1 a w (bind_inv h) ev1.hl rel1 fun e st' F' κ' a' w' e1 r1 ev2 => ?_)
    · refine codeK_sound hm hc c _ st _ F κ a w Q h hb rel fun e st' F' κ' a' w' e1 r1 ev1 => ?_
      cases e with
      | norm =>
        obtain ⟨κ2, rel2, ev2⟩ := canon_sound (base := base) (live := (E.hint f (firstRegion c)).1) r1 ev1.hl
        exact hq .norm _ F' κ2 a' w' e1 rel2 (ev1.trans ev2)
      | exit i =>
        obtain ⟨κ2, rel2, ev2⟩ := canon_sound (base := base) (live := (E.hint f (firstRegion c)).2) r1 ev1.hl
        exact hq (.exit i) _ F' κ2 a' w' e1 rel2 (ev1.trans ev2)
      | ret =>
        obtain ⟨κ2, rel2, ev2⟩ := canon_sound (base := base) (live := resTmps fn) r1 ev1.hl
        exact hq .ret _ F' κ2 a' w' e1 rel2 (ev1.trans ev2)
    · rw [e1] at hq
      exact hq e st' F' κ' a' w' rfl r1 (ev1.trans ev2)
  | .exit id => fun β st K F κ a w Q h hb rel hq => wp_exit (hq (.exit id) st F κ a w rfl rel (Ev.refl hb))
  | .scope c => fun β st K F κ a w Q h hb rel hq => by
    simp only [codeK] at h hq
    refine wp_scope_straight (codeK_sound hm hc c _ st K F κ a w _ h hb rel fun e st' F' κ' a' w' e1 r1 ev1 => ?_)
    have := hq e st' F' κ' a' w' e1 r1 ev1
    cases e <;> exact this
  | .label l => fun β st K F κ a w Q h hb rel hq => wp_label (hq .norm st F κ a w rfl rel (Ev.refl hb))
  | .ret => fun β st K F κ a w Q h hb rel hq => wp_ret (hq .ret st F κ a w rfl rel (Ev.refl hb))
  | .rangeFunc .. => fun β st K F κ a w Q h hb rel hq => absurd rfl h
  | .goto .. => fun β st K F κ a w Q h hb rel hq => absurd rfl h
  | .refuse .. => fun β st K F κ a w Q h hb rel hq => absurd rfl h
end
end Go.Sim

/- THE LAW: what the interpreter says of a call, the machine does. -/
namespace Go.Sim
open Go.RowKit
set_option linter.unusedVariables false
set_option linter.unusedSimpArgs false
set_option linter.unusedSectionVars false

theorem loadAt_asAddr {P : Program} {t : TypeId} {v u : Value} {w : World} (h : (Instr.loadAt t v).run P w = .ok u w) : (do loadVar t (← asAddr v) : Sem Value).run P w = .ok u w := by
  unfold Instr.loadAt at h
  cases v with
  | pointer p =>
    cases p with
    | none => simp [Instr.sureAddr, stuck] at h
    | some a => simpa [Instr.sureAddr, asAddr] using h
  | _ => simp [Instr.sureAddr, stuck] at h

section
variable {E : Env} {rc : Caller} {F : Nat → Prop} {κ : Nat → Value} {w : World} {st : St} {a : Act}

def resOne (tm : Array Value) : ResultVar → Sem Value
  | .tmp t => pure (tm.getD t undef)
  | .cell x t => do loadVar t (← asAddr (tm.getD x undef))
theorem pvRes_sound {N : Nat} : ∀ {ps : List PV} {vs : List Value}, vs.length = ps.length → (∀ (i : Nat) (p : PV) (v : Value), ps[i]? = some p → vs[i]? = some v → RP F κ N w p v) → RP F κ N w (pvRes ps) (if h : vs.length = 1 then vs[0] else .tuple vs.toArray)
  | [p], [v], _, h => h 0 p v rfl rfl
  | [], [], _, _ => .tup (vs := []) rfl (by simp)
  | p :: q :: ps, v :: u :: vs, hl, h => by
    rw [dif_neg (by simp)]
    exact .tup hl h
  | [], _ :: _, hl, _ => by simp at hl
  | [_], [], hl, _ => by simp at hl
  | [_], _ :: _ :: _, hl, _ => by simp at hl
  | _ :: _ :: _, [], hl, _ => by simp at hl
  | _ :: _ :: _, [_], hl, _ => by simp at hl

theorem resultsK_sound {β : Type} (rel : Rel F κ st a w) : ∀ {l : List ResultVar} {K : List PV → Res β}, resultsK E st l K ≠ .stuck →
    ∃ ps vs, resultsK E st l K = K ps ∧ (l.mapM (resOne a.tmps)).run E.P w = .ok vs w ∧ vs.length = ps.length ∧
      ∀ (i : Nat) (p : PV) (v : Value), ps[i]? = some p → vs[i]? = some v → RP F κ st.heap.length w p v
  | [], K, h => ⟨[], [], rfl, by simp [List.mapM_nil], rfl, by simp⟩
  | .tmp t :: r, K, h => by
    simp only [resultsK] at h ⊢
    obtain ⟨ps, vs, e1, e2, e3, e4⟩ := resultsK_sound rel h
    have hv := evalO_sound (P := E.P) rel.tl rel.tr (t := 0) (o := .tmp t) (p := st.tmps.getD t undefV) rfl
    refine ⟨_, a.tmps.getD t undef :: vs, e1, by simp only [List.mapM_cons, resOne, Sem.run_bind, Sem.run_pure, e2, Result.andThen_ok], by simp [e3], fun i p v g1 g2 => ?_⟩
    cases i with
    | zero => simp only [List.getElem?_cons_zero, Option.some.injEq] at g1 g2; subst g1; subst g2; exact hv
    | succ i => exact e4 i p v (by simpa using g1) (by simpa using g2)
  | .cell x t :: r, K, h => by
    simp only [resultsK] at h ⊢
    have hv := evalO_sound (P := E.P) rel.tl rel.tr (t := 0) (o := .tmp x) (p := st.tmps.getD x undefV) rfl
    obtain ⟨q, u, e5, e6, e7⟩ := loadK_sound h rel.si hv
    rw [e5] at h ⊢
    obtain ⟨ps, vs, e1, e2, e3, e4⟩ := resultsK_sound rel h
    have e8 := loadAt_asAddr e6
    refine ⟨_, u :: vs, e1, ?_, by simp [e3], fun i p v g1 g2 => ?_⟩
    · have e8' : (resOne a.tmps (.cell x t)).run E.P w = .ok u w := e8
      simp only [List.mapM_cons, Sem.run_bind, e8', Sem.run_pure, e2, Result.andThen_ok]
    · cases i with
      | zero => simp at g1 g2; subst g1; subst g2; exact e7
      | succ i => exact e4 i p v (by simpa using g1) (by simpa using g2)

/-- What is known of the program and its foreign parts. -/
structure EnvOk (E : Env) : Prop where
  inpl : ∀ (f : FuncId) (g : List AObj → List T → List PV → Res (List T)), E.inpl f = some g → InplOk E f g
  mixed : E.P.follows .mixedOrders = true
  named : ∀ (f : FuncId) (fn : Func), E.P.funcs[f]? = some fn → (fn.name == "runtime.NumGoroutine") = false
  ext : ∀ (f : FuncId) (e : List T → Res T), E.ext f = some e → ∀ ts, e ts ≠ .stuck → ∀ (F : Nat → Prop) (w : World) (vals : List Value), vals.length = ts.length → (∀ (i : Nat) (x : T) (v : Value), ts[i]? = some x → vals[i]? = some v → Rd F w x v) →
    (∀ b, F b → b < w.heap.size) → Invokes E.P f vals.toArray w fun v w' => ∃ x F', e ts = .ok x ∧ Out E f F' w.heap.size w' x v ∧ Grown F w F' w'

theorem funK_sound (he : EnvOk E) (hc : CallerOk E rc) {β : Type} {n : Nat} {f : FuncId} {args : List PV} {H : List AObj} {K : PV → List AObj → Res β} (h : funK E rc n f args H K ≠ .stuck) {vals : List Value} (hl : vals.length = args.length)
    (ha : ∀ (i : Nat) (p : PV) (v : Value), args[i]? = some p → vals[i]? = some v → RP F κ H.length w p v) (s : SI F κ w H) :
    Calls E.P f vals.toArray w fun e w' => ∃ v, e = .returned v ∧ ∃ r H' F' κ', funK E rc n f args H K = K r H' ∧ RP F' κ' H'.length w' r v ∧ SI F' κ' w' H' ∧ Ev H.length F κ w H F' κ' w' H' := by
  unfold funK at h ⊢
  cases hf : E.P.funcs[f]? with
  | none => simp [hf] at h
  | some fn =>
    simp only [hf] at h ⊢
    cases hb : fn.body with
    | none => simp [hb] at h
    | some c =>
      simp only [hb] at h ⊢
      refine calls_of_wp hf hb ?_
      have rel : Rel F κ ⟨args ++ List.replicate (fn.ntmps - args.length) undefV, H⟩ { tmps := vals.toArray ++ Array.replicate (fn.ntmps - vals.toArray.size) undef, defers := [] } w := by
        refine ⟨by simp [hl], fun i p v g1 g2 => ?_, rfl, s⟩
        simp only [] at g1 g2 ⊢
        rcases Nat.lt_or_ge i args.length with h1 | h1
        · rw [List.getElem?_append_left h1] at g1
          rw [Array.getElem?_append_left (by simpa [hl] using h1)] at g2
          exact ha i p v g1 (by simpa using g2)
        · rw [List.getElem?_append_right h1] at g1
          rw [Array.getElem?_append_right (by simpa [hl] using h1)] at g2
          have g3 := List.mem_of_getElem? g1
          have g4 := Array.mem_of_getElem? g2
          rw [List.mem_replicate] at g3
          rw [Array.mem_replicate] at g4
          rw [g3.2, g4.2]
          exact undef_rp
      have fin : ∀ (st' : St) (F' : Nat → Prop) (κ' : Nat → Value) (a' : Act) (w' : World), (resultsK E st' fn.results.toList fun ps => K (pvRes ps) st'.heap) ≠ .stuck → Rel F' κ' st' a' w' → Ev H.length F κ w H F' κ' w' st'.heap →
          a'.defers = [] ∧ ∃ v, (results fn a'.tmps).run E.P w' = .ok v w' ∧ ∃ v', Ending.returned v = .returned v' ∧ ∃ r H' F' κ', (resultsK E st' fn.results.toList fun ps => K (pvRes ps) st'.heap) = K r H' ∧ RP F' κ' H'.length w' r v' ∧ SI F' κ' w' H' ∧ Ev H.length F κ w H F' κ' w' H' := by
        intro st' F' κ' a' w' hne r1 ev1
        obtain ⟨ps, vs, e1, e2, e3, e4⟩ := resultsK_sound r1 hne
        have hres : (results fn a'.tmps).run E.P w' = .ok (if h : vs.length = 1 then vs[0] else .tuple vs.toArray) w' := by
          show (do let vs ← fn.results.mapM (resOne a'.tmps); pure (if h : vs.size = 1 then vs[0] else .tuple vs) : Sem Value).run E.P w' = _
          rw [Array.mapM_eq_mapM_toList]
          simp only [Sem.run_bind, map_eq_pure_bind, e2, Result.andThen_ok, Sem.run_pure, List.size_toArray]
          split <;> rfl
        exact ⟨r1.dn, _, hres, _, rfl, pvRes ps, st'.heap, F', κ', e1, pvRes_sound e3 e4, r1.si, ev1⟩
      refine codeK_sound he.mixed hc c _ _ _ F κ _ w _ h (Nat.le_refl _) rel fun e st' F' κ' a' w' e1 r1 ev1 => ?_
      rw [e1] at h ⊢
      cases e with
      | norm => exact fin st' F' κ' a' w' h r1 ev1
      | exit i => exact absurd rfl h
      | ret => exact fin st' F' κ' a' w' h r1 ev1

/-- From a call at trees, at a heap of its own, to what its caller leans on. -/
theorem outK_sound {f : FuncId} {p : PV} {v : Value} {H : List AObj} {w0 : World} {F0 : Nat → Prop} {κ0 : Nat → Value} (hfl : ∀ b, F0 b → b < w0.heap.size) (h : outK E f p H ≠ .stuck) (hp : RP F κ H.length w p v) (s : SI F κ w H) (ev : Ev 0 F0 κ0 w0 [] F κ w H) :
    ∃ x F', outK E f p H = .ok x ∧ Out E f F' w0.heap.size w x v ∧ Grown F0 w0 F' w := by
  have hno : ∀ b, ¬ Own κ0 [] b := fun b ⟨l, o, h, _⟩ => by simp at h
  have hown : ∀ b, Own κ H b → w0.heap.size ≤ b := fun b hb => (ev.on b hb).resolve_left (hno b)
  have hFn : ∀ b, F b → F0 b ∨ w0.heap.size ≤ b := fun b hb => (ev.fn b hb).elim .inl fun h => h.elim (fun h => absurd h (hno b)) .inr
  have grown : ∀ {F' : Nat → Prop} {H' : List AObj}, SI F' κ w H' → (∀ b, F b → F' b) → (∀ b, F' b → F b ∨ Own κ H b) → Grown F0 w0 F' w := fun s' a1 a2 =>
    ⟨ev.os, ev.tape, ev.output, ev.size, fun b hb => ev.frame b hb (hno b), fun b hb => a1 b (ev.fm b hb), fun b hb => (a2 b hb).elim (hFn b) (fun h => .inr (hown b h)), s'.fl⟩
  have rowOf : ∀ {F' : Nat → Prop} {H' : List AObj} {l e k : Nat} {xs : List T}, SI F' κ w H' → (∀ b, Own κ H' b → Own κ H b) → H'[l]? = some (.row e k xs) → Row F' w e k xs (κ l) ∧ ∀ b, (κ l).ownBlock = some b → w0.heap.size ≤ b ∧ b < w.heap.size ∧ ¬ F' b := by
    intro F' H' l e k xs s' a3 ho
    obtain ⟨cs, h1, h2⟩ := s'.ro l _ ho
    refine ⟨⟨cs, h1, h2⟩, fun b hb => ?_⟩
    obtain ⟨c1, c2⟩ := s'.lt l _ b ho (by simpa [blk] using hb)
    exact ⟨hown b (a3 b ⟨l, _, ho, by simpa [blk] using hb⟩), c1, c2⟩
  have rowNil : ∀ (F' : Nat → Prop) (e k : Nat), Row F' w e k [] (.slice none 0 0) ∧ ∀ b, (Value.slice none 0 0).ownBlock = some b → w0.heap.size ≤ b ∧ b < w.heap.size ∧ ¬ F' b :=
    fun F' e k => ⟨⟨[], World.ownsRow_nil w 0 e k, by simp, by simp, by simp, by simp⟩, fun b hb => by simp [Value.ownBlock] at hb⟩
  unfold outK at h ⊢
  match hm : E.mode f with
  | 0 =>
    simp only [hm] at h ⊢
    obtain ⟨x, e1, e2⟩ := someK_inv h
    obtain ⟨F', s', a1, a2, a3, a4, a5, a6⟩ := freeze_sound p.rows s
    exact ⟨x, F', e2, .frozen hm (frz_sound s hp a1 e1 a4), grown s' a1 a2⟩
  | 1 =>
    simp only [hm] at h ⊢
    cases hp with
    | @own l A n c hN hk =>
      simp only [] at h ⊢
      cases ho : H[l]? with
      | none => simp [ho] at h
      | some q =>
        cases q with
        | row e k xs =>
          simp only [ho] at h ⊢
          obtain ⟨g1, e1⟩ := cond_inv' h
          obtain ⟨b1, b2⟩ := rowOf s (fun _ h => h) ho
          rw [hk] at b1 b2
          exact ⟨_, F, e1, .row hm (by simpa using g1) b1 b2, grown s (fun _ h => h) (fun _ h => .inl h)⟩
        | _ => simp [ho] at h
    | @view l k lo hi A n c hN hv =>
      simp only [] at h ⊢
      cases ho : H[l]? with
      | none => simp [ho] at h
      | some q =>
        cases q with
        | row e k' xs =>
          simp only [ho] at h ⊢
          obtain ⟨g1, e1⟩ := cond_inv' h
          simp only [Bool.and_eq_true, beq_iff_eq, decide_eq_true_eq] at g1
          obtain ⟨⟨⟨g1, rfl⟩, rfl⟩, g2⟩ := g1
          obtain ⟨b1, b2⟩ := rowOf s (fun _ h => h) ho
          obtain ⟨b3, b4⟩ := Row.cut b1 hv g2
          exact ⟨_, F, e1, .row hm g1 b3 (fun b hb => b2 b (by rw [← b4]; exact hb)), grown s (fun _ h => h) (fun _ h => .inl h)⟩
        | _ => simp [ho] at h
    | @nil e k =>
      simp only [] at h ⊢
      obtain ⟨g1, e1⟩ := cond_inv' h
      exact ⟨_, F, e1, .row hm (by simpa using g1) (rowNil _ _ _).1 (rowNil F e k).2, grown s (fun _ h => h) (fun _ h => .inl h)⟩
    | _ => exact absurd rfl h
  | m + 2 =>
    simp only [hm] at h ⊢
    cases hp with
    | @tup ps vs hl hr =>
      match ps, vs, hl with
      | [], _, _ => exact absurd rfl h
      | p :: ps, v :: vs, hl =>
        have hp0 := hr 0 p v rfl rfl
        have hps : ∀ (i : Nat) (q : PV) (u : Value), ps[i]? = some q → vs[i]? = some u → RP F κ H.length w q u := fun i q u g1 g2 => hr (i + 1) q u (by simpa using g1) (by simpa using g2)
        obtain ⟨F', s', a1, a2, a3, a4, a5, a6⟩ := freeze_sound (PV.rowss ps) s
        cases hp0 with
        | @own l A n c hN hk =>
          simp only [] at h ⊢
          cases ho : H[l]? with
          | none => simp [ho] at h
          | some q =>
            cases q with
            | row e k xs =>
              simp only [ho] at h ⊢
              obtain ⟨g0, e0⟩ := cond_inv h
              rw [e0] at h ⊢
              obtain ⟨ys, e1, e2⟩ := someK_inv h
              rw [e2] at h ⊢
              obtain ⟨g1, e3⟩ := cond_inv' h
              simp only [Bool.and_eq_true, beq_iff_eq] at g1
              obtain ⟨c1, c2⟩ := frzs_sound s hps e1 a1 a4
              have ho' : (freezeRows (PV.rowss ps) H)[l]? = some (.row e k xs) := by
                rw [freezeRows_other _ _ (fun hmm => by rw [List.contains_iff_mem.2 hmm] at g0; cases g0)]; exact ho
              obtain ⟨b1, b2⟩ := rowOf s' a3 ho'
              rw [hk] at b1 b2
              exact ⟨_, F', e3, .tup (by omega) g1.1 b1 b2 g1.2 (by simp at hl; omega) c2, grown s' a1 a2⟩
            | _ => simp [ho] at h
        | @nil e k =>
          simp only [] at h ⊢
          obtain ⟨ys, e1, e2⟩ := someK_inv h
          rw [e2] at h ⊢
          obtain ⟨g1, e3⟩ := cond_inv' h
          simp only [Bool.and_eq_true, beq_iff_eq] at g1
          obtain ⟨c1, c2⟩ := frzs_sound s hps e1 a1 a4
          exact ⟨_, F', e3, .tup (by omega) g1.1 (rowNil _ _ _).1 (rowNil F' e k).2 g1.2 (by simp at hl; omega) c2, grown s' a1 a2⟩
        | _ => exact absurd rfl h
    | _ => exact absurd rfl h

theorem invokes_of_calls (he : EnvOk E) {f : FuncId} {args : Array Value} {R : Value → World → Prop} (hfn : ∃ fn c, E.P.funcs[f]? = some fn ∧ fn.body = some c) (h : Calls E.P f args w fun e w' => ∃ v, e = .returned v ∧ R v w') : Invokes E.P f args w R := by
  obtain ⟨fn, c, hf, hb⟩ := hfn
  have h1 : fn.name ≠ "runtime.NumGoroutine" := by have := he.named f fn hf; simpa using this
  unfold Invokes
  have : (callFunc f args).run E.P w = .ok (.enter f args) w := by simp [callFunc, hf, h1, hb]
  rw [this]
  exact h

theorem funK_body {β : Type} {n : Nat} {f : FuncId} {args : List PV} {H : List AObj} {K : PV → List AObj → Res β} (h : funK E rc n f args H K ≠ .stuck) : ∃ fn c, E.P.funcs[f]? = some fn ∧ fn.body = some c := by
  unfold funK at h
  cases hf : E.P.funcs[f]? with
  | none => simp [hf] at h
  | some fn =>
    cases hb : fn.body with
    | none => simp [hf, hb] at h
    | some c => exact ⟨fn, c, rfl, hb⟩

def GoOk (E : Env) (run : (β : Type) → FuncId → List PV → List AObj → (PV → List AObj → Res β) → Res β) : Prop := ∀ (β : Type) (f : FuncId) (args : List PV) (H : List AObj) (K : PV → List AObj → Res β), run β f args H K ≠ .stuck → ∀ (F : Nat → Prop) (κ : Nat → Value) (w : World) (vals : List Value), vals.length = args.length →
    (∀ (i : Nat) (p : PV) (v : Value), args[i]? = some p → vals[i]? = some v → RP F κ H.length w p v) → SI F κ w H →
    (∃ fn c, E.P.funcs[f]? = some fn ∧ fn.body = some c) ∧ Calls E.P f vals.toArray w fun e w' => ∃ v, e = .returned v ∧ ∃ r H' F' κ', run β f args H K = K r H' ∧ RP F' κ' H'.length w' r v ∧ SI F' κ' w' H' ∧ Ev H.length F κ w H F' κ' w' H'

theorem pure_calls (he : EnvOk E) {run : (β : Type) → FuncId → List PV → List AObj → (PV → List AObj → Res β) → Res β} (hr : GoOk E run) {f : FuncId} {ts : List T} (hx : E.ext f = none) (h : callPof E run f ts ≠ .stuck) {vals : List Value} (hl : vals.length = ts.length)
    (ha : ∀ (i : Nat) (x : T) (v : Value), ts[i]? = some x → vals[i]? = some v → Rd F w x v) (hfl : ∀ b, F b → b < w.heap.size) :
    (∃ fn c, E.P.funcs[f]? = some fn ∧ fn.body = some c) ∧ Calls E.P f vals.toArray w fun e w' => ∃ v, e = .returned v ∧ ∃ x F', callPof E run f ts = .ok x ∧ Out E f F' w.heap.size w' x v ∧ Grown F w F' w' := by
  have hwf : T.wfs ts = true := T.wfs_iff.2 fun x hx => by
    obtain ⟨i, hi, rfl⟩ := List.getElem_of_mem hx
    exact (ha i _ _ (List.getElem?_eq_getElem hi) (List.getElem?_eq_getElem (by omega))).wf
  unfold callPof at h ⊢
  rw [hwf] at h ⊢
  simp only [cond_true, hx] at h ⊢
  obtain ⟨g1, g2⟩ := hr T f (ts.map .t) [] (outK E f) h F (fun _ => undef) w vals (by simpa using hl) (fun i p v a b => by
    rw [List.getElem?_map, Option.map_eq_some_iff] at a
    obtain ⟨x, a, rfl⟩ := a
    exact .t (ha i x v a b)) ⟨by simp, by simp, by simp, hfl⟩
  refine ⟨g1, Calls.mono g2 fun e w' => ?_⟩
  rintro ⟨v, rfl, r, H', F', κ', e1, e2, e3, e4⟩
  rw [e1] at h ⊢
  exact ⟨v, rfl, outK_sound hfl h e2 e3 e4⟩

theorem callerOk_of (he : EnvOk E) {run : (β : Type) → FuncId → List PV → List AObj → (PV → List AObj → Res β) → Res β} (hn : (⟨callPof E run, run⟩ : Caller).Nat) (hr : GoOk E run) : CallerOk E ⟨callPof E run, run⟩ where
  nat := hn
  inpl := he.inpl
  pure := fun f ts h F w vals hl ha hfl => by
    cases hx : E.ext f with
    | some e =>
      have hwf : T.wfs ts = true := T.wfs_iff.2 fun x hx => by
        obtain ⟨i, hi, rfl⟩ := List.getElem_of_mem hx
        exact (ha i _ _ (List.getElem?_eq_getElem hi) (List.getElem?_eq_getElem (by omega))).wf
      have e1 : callPof E run f ts = e ts := by unfold callPof; rw [hwf, hx]; rfl
      simp only [] at h ⊢
      rw [e1] at h ⊢
      exact he.ext f e hx ts h F w vals hl ha hfl
    | none =>
      obtain ⟨g1, g2⟩ := pure_calls he hr hx h hl ha hfl
      exact invokes_of_calls he g1 g2
  go := fun β f args H K h F κ w vals hl ha s => by
    obtain ⟨g1, g2⟩ := hr β f args H K h F κ w vals hl ha s
    exact invokes_of_calls he g1 g2

theorem runK_ok (he : EnvOk E) : ∀ n, (recOf E n).Nat ∧ GoOk E (runK E n)
  | 0 => ⟨fun β γ g hg f args H K => hg.stuck, fun β f args H K h => absurd rfl h⟩
  | n + 1 => by
    obtain ⟨h1, h2⟩ := runK_ok he n
    have hc := callerOk_of he h1 h2
    refine ⟨fun β γ g hg f args H K => nat_funK hc.nat hg args H K, fun β f args H K h F κ w vals hl ha s => ⟨funK_body h, ?_⟩⟩
    exact funK_sound he hc h hl ha s

/-- THE LAW. -/
theorem callP_calls (he : EnvOk E) {n : Nat} {f : FuncId} {ts : List T} (hx : E.ext f = none) (h : callP E n f ts ≠ .stuck) {vals : List Value} (hl : vals.length = ts.length)
    (ha : ∀ (i : Nat) (x : T) (v : Value), ts[i]? = some x → vals[i]? = some v → Rd F w x v) (hfl : ∀ b, F b → b < w.heap.size) :
    Calls E.P f vals.toArray w fun e w' => ∃ v, e = .returned v ∧ ∃ x F', callP E n f ts = .ok x ∧ Out E f F' w.heap.size w' x v ∧ Grown F w F' w' :=
  (pure_calls he (runK_ok he n).2 hx h hl ha hfl).2

#print axioms callP_calls
end
end Go.Sim

/- How a loop is met: the code of a loop within a function, what stands behind it, states written out. -/
namespace Go.Sim
open Go.RowKit
set_option linter.unusedVariables false

inductive Frm where
  | seq (b : Code)
  | block (id : Nat)

/-- The loop whose body begins with region r, and what stands behind it. -/
def findL (r : Nat) : Code → Option (Code × List Frm)
  | .seq a b => match findL r a with
    | some (c, fs) => some (c, fs ++ [.seq b])
    | none => findL r b
  | .block id c => match findL r c with
    | some (c', fs) => some (c', fs ++ [.block id])
    | none => none
  | .scope c => findL r c
  | .cond _ a b => match findL r a with
    | some x => some x
    | none => findL r b
  | .loop c => bif Nat.beq (firstRegion c) r then some (c, []) else none
  | _ => none

section
variable {β : Type} (E : Env) (rc : Caller) (f : FuncId) (fn : Func) (n base : Nat)
def tailK : List Frm → (Ex → St → Res β) → Ex → St → Res β
  | [], K => K
  | .seq b :: r, K => fun e st => e.k (codeK E rc f fn n base b st (tailK r K)) (fun i => tailK r K (.exit i) st) (tailK r K .ret st)
  | .block id :: r, K => fun e st => e.k (tailK r K .norm st) (fun i => if i = id then tailK r K .norm st else tailK r K (.exit i) st) (tailK r K .ret st)
def loopB (c : Code) : St → Res (Ex × St) := fun st => codeK E rc f fn n base c st fun e st => e.k (.ok (.norm, canon base (E.hint f (firstRegion c)).1 st))
      (fun i => .ok (.exit i, canon base (E.hint f (firstRegion c)).2 st)) (.ok (.ret, canon base (resTmps fn) st))
def rootK (K : PV → List AObj → Res β) : Ex → St → Res β := fun e st => e.k (resultsK E st fn.results.toList fun ps => K (pvRes ps) st.heap) (fun _ => .stuck) (resultsK E st fn.results.toList fun ps => K (pvRes ps) st.heap)
end

/-- A loop of a function. -/
def bodyL (E : Env) (n : Nat) (f : FuncId) (base r : Nat) : St → Res (Ex × St) := match E.P.funcs[f]? with
  | some fn => (match fn.body with
    | some c => (match findL r c with
      | some (c', _) => loopB E (recOf E n) f fn n base c'
      | none => fun _ => .stuck)
    | none => fun _ => .stuck)
  | none => fun _ => .stuck
/-- What stands behind it. -/
def tailL {β : Type} (E : Env) (n : Nat) (f : FuncId) (base r : Nat) (K : PV → List AObj → Res β) : Ex → St → Res β := match E.P.funcs[f]? with
  | some fn => (match fn.body with
    | some c => (match findL r c with
      | some (_, fs) => tailK E (recOf E n) f fn n base fs (rootK E fn K)
      | none => fun _ _ => .stuck)
    | none => fun _ _ => .stuck)
  | none => fun _ _ => .stuck
/-- A loop within a loop. -/
def bodyI (E : Env) (n : Nat) (f : FuncId) (base r q : Nat) : St → Res (Ex × St) := match E.P.funcs[f]? with
  | some fn => (match fn.body with
    | some c => (match findL r c with
      | some (c1, _) => (match findL q c1 with
        | some (c2, _) => loopB E (recOf E n) f fn n base c2
        | none => fun _ => .stuck)
      | none => fun _ => .stuck)
    | none => fun _ => .stuck)
  | none => fun _ => .stuck
def tailI (E : Env) (n : Nat) (f : FuncId) (base r q : Nat) : Ex → St → Res (Ex × St) := match E.P.funcs[f]? with
  | some fn => (match fn.body with
    | some c => (match findL r c with
      | some (c1, _) => (match findL q c1 with
        | some (_, fs) => tailK E (recOf E n) f fn n base fs fun e st => e.k (.ok (.norm, canon base (E.hint f (firstRegion c1)).1 st))
            (fun i => .ok (.exit i, canon base (E.hint f (firstRegion c1)).2 st)) (.ok (.ret, canon base (resTmps fn) st))
        | none => fun _ _ => .stuck)
      | none => fun _ _ => .stuck)
    | none => fun _ _ => .stuck)
  | none => fun _ _ => .stuck

/-- A loop, and what stands behind it. -/
def loopL (E : Env) (n : Nat) (f : FuncId) (r : Nat) (st : St) : Res T := (iterR (bodyL E n f 0 r) n st).bind fun p => tailL E n f 0 r (outK E f) p.1 p.2
def loopI (E : Env) (n : Nat) (f : FuncId) (r q : Nat) (st : St) : Res (Ex × St) := (iterR (bodyI E n f 0 r q) n st).bind fun p => tailI E n f 0 r q p.1 p.2

/-- Slots, written out: those that are not named are junk. -/
def slotAt : List (Nat × PV) → Nat → PV
  | [], _ => .junk
  | (j, p) :: r, i => bif Nat.beq j i then p else slotAt r i
def slots (n : Nat) (l : List (Nat × PV)) : List PV := (List.range n).map (slotAt l)

/-- Loops over a list: state by what is done and what is left. -/
theorem iterR_step {B : St → Res (Ex × St)} {n : Nat} {s s' : St} (h : B s = .ok (.norm, s')) : iterR B (n + 1) s = iterR B n s' := by simp [iterR, h, Ex.k]
theorem iterR_exit {B : St → Res (Ex × St)} {n : Nat} {s s' : St} {i : Nat} (h : B s = .ok (.exit i, s')) : iterR B (n + 1) s = .ok (.exit i, s') := by simp [iterR, h, Ex.k]
theorem iterR_ret {B : St → Res (Ex × St)} {n : Nat} {s s' : St} (h : B s = .ok (.ret, s')) : iterR B (n + 1) s = .ok (.ret, s') := by simp [iterR, h, Ex.k]

abbrev i64 (n : Int) : T := .int .i64 n
abbrev ok64 (n : Int) : Bool := kindOk .i64 n
theorem ok64_iff {n : Int} : ok64 n = true ↔ -9223372036854775808 ≤ n ∧ n ≤ 9223372036854775807 := by
  have h1 : IntKind.i64.min = -9223372036854775808 := by decide
  have h2 : IntKind.i64.max = 9223372036854775807 := by decide
  simp [ok64, kindOk, h1, h2]
theorem wrap64 {n : Int} (h : -9223372036854775808 ≤ n ∧ n ≤ 9223372036854775807) : IntKind.i64.wrap n = n := by
  rw [IntKind.wrap_i64]; omega
theorem wf_big {xs : List T} {k : Nat} (h : (T.sl k xs).wf = true) : xs.length ≤ big ∧ T.wfs xs = true := by simpa [T.wf] using h
theorem ok64_nat {n : Nat} (h : n ≤ big) : ok64 n = true := kindOk_nat h
theorem big_val : big = 140737488355328 := rfl

end Go.Sim

/- Calls whose text stands in their caller's: what stands behind them. -/
namespace Go.Sim
open Go.RowKit
set_option linter.unusedVariables false

/-- A region, and what stands behind it. -/
def findR (r : Nat) : Code → Option ((Array Oper × Bool) × List Frm)
  | .region id ops dr => bif Nat.beq id r then some ((ops, dr), []) else none
  | .seq a b => match findR r a with
    | some (o, fs) => some (o, fs ++ [.seq b])
    | none => findR r b
  | .block id c => match findR r c with
    | some (o, fs) => some (o, fs ++ [.block id])
    | none => none
  | .scope c => findR r c
  | .cond _ a b => match findR r a with
    | some x => some x
    | none => findR r b
  | _ => none
section
variable {β : Type} (E : Env) (n : Nat) (f : FuncId) (base : Nat)
/-- Back from a call: operation j of region r of a code. -/
def restK (fn : Func) (c : Code) (r j : Nat) (st0 : St) (args : List PV) (KE : Ex → St → Res β) : PV → List AObj → Res β := match findR r c with
  | some ((ops, dr), fs) => fun p H' => trimK p ⟨PV.kills ((exposed args st0.heap).contains ·) st0.tmps, showRows (exposed args st0.heap) st0.heap H'⟩ fun p st =>
      opsK E (recOf E n) ops ((bif dr then drawFlags ops else ops.toList.map fun o => (o, false)).drop (j + 1)) ⟨setT st.tmps ((ops[j]?).bind (·.dst)) p, st.heap⟩ fun st => tailK E (recOf E n) f fn n base fs KE .norm st
  | none => fun _ _ => .stuck
def backP (r j : Nat) (K : PV → List AObj → Res β) (st0 : St) (args : List PV) : PV → List AObj → Res β := match E.P.funcs[f]? with
  | some fn => (match fn.body with
    | some c => restK E n f base fn c r j st0 args (rootK E fn K)
    | none => fun _ _ => .stuck)
  | none => fun _ _ => .stuck
def loopE (fn : Func) (c : Code) : Ex → St → Res (Ex × St) := fun e st => e.k (.ok (.norm, canon base (E.hint f (firstRegion c)).1 st))
      (fun i => .ok (.exit i, canon base (E.hint f (firstRegion c)).2 st)) (.ok (.ret, canon base (resTmps fn) st))
/-- The same within a loop. -/
def backB (r0 r j : Nat) (st0 : St) (args : List PV) : PV → List AObj → Res (Ex × St) := match E.P.funcs[f]? with
  | some fn => (match fn.body with
    | some c => (match findL r0 c with
      | some (c1, _) => restK E n f base fn c1 r j st0 args (loopE E f base fn c1)
      | none => fun _ _ => .stuck)
    | none => fun _ _ => .stuck)
  | none => fun _ _ => .stuck
end
end Go.Sim

/- Calls whose text stands in their caller's, told by what they come to: callers of one's own choosing. -/
namespace Go.Sim
open Go.RowKit
set_option linter.unusedVariables false
set_option linter.unusedSimpArgs false
set_option linter.unusedSectionVars false

def Le {β : Type} (a b : Res β) : Prop := a ≠ .stuck → b = a
theorem Le.refl {β : Type} (a : Res β) : Le a a := fun _ => rfl
theorem Le.trans {β : Type} {a b c : Res β} (h : Le a b) (h' : Le b c) : Le a c := fun ha => by
  have e := h ha
  rw [← e]; exact h' (by rw [e]; exact ha)
theorem Le.bind {α β : Type} {r : Res α} {K K' : α → Res β} (h : ∀ x, Le (K x) (K' x)) : Le (r.bind K) (r.bind K') := by
  cases r with
  | ok a => exact h a
  | _ => exact Le.refl _
theorem Le.bind2 {α β : Type} {r r' : Res α} {K K' : α → Res β} (h0 : Le r r') (h : ∀ x, Le (K x) (K' x)) : Le (r.bind K) (r'.bind K') := by
  cases r with
  | stuck => intro hh; exact absurd rfl hh
  | ok a => rw [h0 (by simp)]; exact h a
  | absurd => rw [h0 (by simp)]; exact Le.refl _

section
variable {E : Env} {p : FuncId → List T → Res T} {g g' : (β : Type) → FuncId → List PV → List AObj → (PV → List AObj → Res β) → Res β}
variable (hg : ∀ β f args H K, Le (g β f args H K) (g' β f args H K)) (hn : (⟨p, g'⟩ : Caller).Nat)
include hg hn

theorem callK_le {β : Type} (dr : Bool) (f : FuncId) (args : List PV) (st : St) (K : PV → St → Res β) : Le (callK E ⟨p, g⟩ dr f args st K) (callK E ⟨p, g'⟩ dr f args st K) := by
  unfold callK
  split
  · exact Le.refl _
  · split
    · exact Le.refl _
    · cases (dr || (E.ext f).isSome) with
      | true => exact Le.refl _
      | false => exact hg _ _ _ _ _
theorem opK_le {β : Type} (dr : Bool) (o : Oper) (st : St) {K K' : PV → St → Res β} (hK : ∀ q s, Le (K q s) (K' q s)) : Le (opK E ⟨p, g⟩ dr o st K) (opK E ⟨p, g'⟩ dr o st K') := by
  have h2 : Le (opK E ⟨p, g'⟩ dr o st K) (opK E ⟨p, g'⟩ dr o st K') := by
    have e : ∀ K : PV → St → Res β, opK E ⟨p, g'⟩ dr o st K = (opK E ⟨p, g'⟩ dr o st fun q s => (.ok (q, s) : Res (PV × St))).bind fun x => K x.1 x.2 := fun K => by
      rw [nat_opK (E := E) (Strict.bind (β := PV × St) fun x => K x.1 x.2) hn dr o fun q s => .ok (q, s)]
      rfl
    rw [e K, e K']
    exact Le.bind fun x => hK _ _
  refine Le.trans ?_ h2
  obtain ⟨dst, op, type, pos, after, guard⟩ := o
  cases op <;> try exact Le.refl _
  case call c =>
    simp only [opK]
    split
    · exact Le.refl _
    · rename_i f _
      cases evalOs E.P st.tmps (fun i => c.argTypes.getD i 0) 0 c.args.toList with
      | none => exact Le.refl _
      | some args => exact callK_le hg hn _ _ _ _ _
    · rename_i fo _ _
      cases evalO E.P st.tmps 0 fo with
      | none => exact Le.refl _
      | some q =>
        cases evalOs E.P st.tmps (fun i => c.argTypes.getD i 0) 0 c.args.toList with
        | none => exact Le.refl _
        | some args =>
          simp only [someK]
          cases q <;> first | exact Le.refl _ | exact callK_le hg hn _ _ _ _ _
    · exact Le.refl _
theorem opsK_le {β : Type} (ops : Array Oper) : ∀ (l : List (Oper × Bool)) (st : St) {K K' : St → Res β}, (∀ s, Le (K s) (K' s)) → Le (opsK E ⟨p, g⟩ ops l st K) (opsK E ⟨p, g'⟩ ops l st K')
  | [], st, K, K', hK => hK st
  | (o, dr) :: r, st, K, K', hK => by
    rw [opsK_one, opsK_one]
    cases guardOf ops st.tmps o with
    | none => exact Le.refl _
    | some b =>
      cases b with
      | true => exact opK_le hg hn dr o st fun q s => opsK_le ops r _ hK
      | false => exact opsK_le ops r _ hK
omit hg hn in
theorem iterR_le {B B' : St → Res (Ex × St)} (h : ∀ s, Le (B s) (B' s)) : ∀ (n : Nat) (s : St), Le (iterR B n s) (iterR B' n s)
  | 0, s => Le.refl _
  | n + 1, s => by
    simp only [iterR]
    refine Le.bind2 (h s) fun x => ?_
    obtain ⟨e, s'⟩ := x
    cases e with
    | norm => exact iterR_le h n s'
    | _ => exact Le.refl _
variable (f : FuncId) (fn : Func) (n base : Nat)
theorem codeK_le : ∀ (c : Code) {β : Type} (st : St) {K K' : Ex → St → Res β}, (∀ e s, Le (K e s) (K' e s)) → Le (codeK E ⟨p, g⟩ f fn n base c st K) (codeK E ⟨p, g'⟩ f fn n base c st K')
  | .skip, β, st, K, K', hK => hK _ _
  | .region id ops dr, β, st, K, K', hK => by
    simp only [codeK]
    cases dr with
    | true =>
      cases drawOk ops with
      | true => exact opsK_le hg hn ops _ st fun s => hK _ _
      | false => exact Le.refl _
    | false => exact opsK_le hg hn ops _ st fun s => hK _ _
  | .seq a b, β, st, K, K', hK => by
    simp only [codeK]
    refine codeK_le a st fun e s => ?_
    cases e with
    | norm => exact codeK_le b s hK
    | _ => exact hK _ _
  | .cond c a b, β, st, K, K', hK => by
    simp only [codeK]
    cases evalO E.P st.tmps 0 c with
    | none => exact Le.refl _
    | some q =>
      simp only [someK]
      cases q with
      | t x =>
        cases x with
        | bool v => cases v with
          | true => exact codeK_le a st hK
          | false => exact codeK_le b st hK
        | _ => exact Le.refl _
      | _ => exact Le.refl _
  | .block id c, β, st, K, K', hK => by
    simp only [codeK]
    refine codeK_le c st fun e s => ?_
    cases e with
    | exit i =>
      simp only [Ex.k]
      split
      · exact hK _ _
      · exact hK _ _
    | _ => exact hK _ _
  | .loop c, β, st, K, K', hK => by
    simp only [codeK]
    refine Le.bind2 (iterR_le (fun s => codeK_le c s fun e s => Le.refl _) n _) fun x => hK _ _
  | .exit id, β, st, K, K', hK => hK _ _
  | .scope c, β, st, K, K', hK => codeK_le c st hK
  | .label _, β, st, K, K', hK => hK _ _
  | .ret, β, st, K, K', hK => hK _ _
  | .rangeFunc .., β, st, K, K', hK => Le.refl _
  | .goto .., β, st, K, K', hK => Le.refl _
  | .refuse .., β, st, K, K', hK => Le.refl _
theorem funK_le {β : Type} (args : List PV) (H : List AObj) (K : PV → List AObj → Res β) : Le (funK E ⟨p, g⟩ n f args H K) (funK E ⟨p, g'⟩ n f args H K) := by
  unfold funK
  split
  · exact Le.refl _
  · split
    · exact Le.refl _
    · exact codeK_le hg hn f _ n _ _ _ fun e s => Le.refl _
end

/-- What one call whose text stands in its caller's comes to. -/
structure Pin where
  f : FuncId
  args : List PV
  H : List AObj
  r : PV
  H' : List AObj
open Classical in
noncomputable def chkP {β : Type} (p : Prop) (r : Res β) : Res β := if p then r else .stuck
theorem chkP_ok {β : Type} {p : Prop} {r : Res β} (h : p) : chkP p r = r := if_pos h
theorem chkP_same {β : Type} {a : List PV} {b : List AObj} {r : Res β} : chkP (a = a ∧ b = b) r = r := if_pos ⟨rfl, rfl⟩
noncomputable def goP : List Pin → (β : Type) → FuncId → List PV → List AObj → (PV → List AObj → Res β) → Res β
  | [], _, _, _, _, _ => .stuck
  | p :: ps, β, f, args, H, K => bif Nat.beq p.f f then chkP (args = p.args ∧ H = p.H) (K p.r p.H') else goP ps β f args H K
def PinOk (E : Env) (N : Nat) (p : Pin) : Prop := ∀ (β : Type) (K : PV → List AObj → Res β), runK E N β p.f p.args p.H K = K p.r p.H'
def PinsOk (E : Env) (N : Nat) : List Pin → Prop
  | [] => True
  | p :: ps => PinOk E N p ∧ PinsOk E N ps
theorem goP_le {E : Env} {N : Nat} : ∀ {ps : List Pin}, PinsOk E N ps → ∀ (β : Type) (f : FuncId) (args : List PV) (H : List AObj) (K : PV → List AObj → Res β), Le (goP ps β f args H K) (runK E N β f args H K)
  | [], _, β, f, args, H, K => fun h => absurd rfl h
  | p :: ps, h, β, f, args, H, K => by
    unfold goP
    cases hf : Nat.beq p.f f with
    | false => exact goP_le h.2 β f args H K
    | true =>
      obtain rfl := Nat.eq_of_beq_eq_true hf
      simp only [cond_true]
      intro hne
      unfold chkP at hne ⊢
      split
      · rename_i hp
        rw [hp.1, hp.2]; exact h.1 β K
      · rename_i hp; rw [if_neg hp] at hne; exact absurd rfl hne
/-- A caller by such pins. -/
noncomputable def recP (E : Env) (N : Nat) (ps : List Pin) : Caller := ⟨callP E N, goP ps⟩

theorem runK_nat (E : Env) : ∀ n, (recOf E n).Nat
  | 0 => fun β γ g hg f args H K => hg.stuck
  | n + 1 => fun β γ g hg f args H K => nat_funK (runK_nat E n) hg args H K
def tailR' {β : Type} (E : Env) (rc : Caller) (n : Nat) (f : FuncId) (base r : Nat) (K : PV → List AObj → Res β) : Ex → St → Res β := match E.P.funcs[f]? with
  | some fn => (match fn.body with
    | some c => (match findL r c with
      | some (_, fs) => tailK E rc f fn n base fs (rootK E fn K)
      | none => fun _ _ => .stuck)
    | none => fun _ _ => .stuck)
  | none => fun _ _ => .stuck
def bodyR' (E : Env) (rc : Caller) (n : Nat) (f : FuncId) (base r : Nat) : St → Res (Ex × St) := match E.P.funcs[f]? with
  | some fn => (match fn.body with
    | some c => (match findL r c with
      | some (c', _) => loopB E rc f fn n base c'
      | none => fun _ => .stuck)
    | none => fun _ => .stuck)
  | none => fun _ => .stuck
section
variable {E : Env} {N : Nat} {ps : List Pin} (hs : PinsOk E N ps)
include hs
theorem callP_pin {f : FuncId} {ts : List T} {x : T} (hw : T.wfs ts = true) (hx : E.ext f = none) (h : funK E (recP E N ps) N f (ts.map .t) [] (outK E f) = .ok x) : callP E (N + 1) f ts = .ok x := by
  have := funK_le (E := E) (p := callP E N) (goP_le hs) (runK_nat E N) f N (ts.map .t) [] (outK E f) (by
    show funK E (recP E N ps) N f (ts.map .t) [] (outK E f) ≠ .stuck
    rw [h]; simp)
  unfold callP callPof
  rw [hw, hx]
  simp only [cond_true]
  exact this.trans h
theorem runK_pin {f : FuncId} {args : List PV} {H : List AObj} {r : PV} {H' : List AObj} (h : funK E (recP E N ps) N f args H (fun r H' => (.ok (r, H') : Res (PV × List AObj))) = .ok (r, H')) : PinOk E (N + 1) ⟨f, args, H, r, H'⟩ := fun β K => by
  have := funK_le (E := E) (p := callP E N) (goP_le hs) (runK_nat E N) f N args H (fun r H' => (.ok (r, H') : Res (PV × List AObj))) (by
    show funK E (recP E N ps) N f args H (fun r H' => (.ok (r, H') : Res (PV × List AObj))) ≠ .stuck
    rw [h]; simp)
  have h2 : funK E (recOf E N) N f args H (fun r H' => (.ok (r, H') : Res (PV × List AObj))) = .ok (r, H') := this.trans h
  have h3 := nat_funK (E := E) (f := f) (n := N) (runK_nat E N) (Strict.bind (β := PV × List AObj) fun x => K x.1 x.2) args H fun r H' => (.ok (r, H') : Res (PV × List AObj))
  simp only [h2, Res.bind_ok] at h3
  exact h3.symm
omit hs in
theorem tailK_le {p : FuncId → List T → Res T} {g g' : (β : Type) → FuncId → List PV → List AObj → (PV → List AObj → Res β) → Res β}
    (hg : ∀ β f args H K, Le (g β f args H K) (g' β f args H K)) (hn : (⟨p, g'⟩ : Caller).Nat) (f : FuncId) (fn : Func) (n base : Nat) {β : Type} (K : Ex → St → Res β) :
    ∀ (fs : List Frm) (e : Ex) (s : St), Le (tailK E ⟨p, g⟩ f fn n base fs K e s) (tailK E ⟨p, g'⟩ f fn n base fs K e s)
  | [], e, s => Le.refl _
  | .seq b :: r, e, s => by
    simp only [tailK]
    cases e with
    | norm => exact codeK_le hg hn f fn n base b s fun e s => tailK_le hg hn f fn n base K r e s
    | exit i => exact tailK_le hg hn f fn n base K r _ s
    | ret => exact tailK_le hg hn f fn n base K r _ s
  | .block id :: r, e, s => by
    simp only [tailK]
    cases e with
    | exit i =>
      simp only [Ex.k]
      split
      · exact tailK_le hg hn f fn n base K r _ s
      · exact tailK_le hg hn f fn n base K r _ s
    | _ => exact tailK_le hg hn f fn n base K r _ s
/-- What stands behind a loop, by pins. -/
theorem tailL_pin {f : FuncId} {r : Nat} {e : Ex} {s : St} {x : T} (h : tailR' E (recP E N ps) N f 0 r (outK E f) e s = .ok x) : tailL E N f 0 r (outK E f) e s = .ok x := by
  cases hf : E.P.funcs[f]? with
  | none => simp [tailR', hf] at h
  | some fn =>
    cases hb : fn.body with
    | none => simp [tailR', hf, hb] at h
    | some c =>
      cases hl : findL r c with
      | none => simp [tailR', hf, hb, hl] at h
      | some y =>
        simp only [tailR', hf, hb, hl] at h
        simp only [tailL, hf, hb, hl]
        exact (tailK_le (E := E) (p := callP E N) (goP_le hs) (runK_nat E N) f _ N 0 _ _ e s (by
          show tailK E (recP E N ps) f _ N 0 _ _ e s ≠ .stuck
          rw [h]; simp)).trans h
/-- A round of a loop, by pins. -/
theorem bodyL_pin {f : FuncId} {r : Nat} {s : St} {x : Ex × St} (h : bodyR' E (recP E N ps) N f 0 r s = .ok x) : bodyL E N f 0 r s = .ok x := by
  cases hf : E.P.funcs[f]? with
  | none => simp [bodyR', hf] at h
  | some fn =>
    cases hb : fn.body with
    | none => simp [bodyR', hf, hb] at h
    | some c =>
      cases hl : findL r c with
      | none => simp [bodyR', hf, hb, hl] at h
      | some y =>
        simp only [bodyR', hf, hb, hl] at h
        simp only [bodyL, hf, hb, hl]
        exact (codeK_le (E := E) (p := callP E N) (goP_le hs) (runK_nat E N) f _ N 0 _ s (fun e s => Le.refl _) (by
          show loopB E (recP E N ps) f _ N 0 _ s ≠ .stuck
          rw [h]; simp)).trans h
end

/-! ### loops, of whichever caller -/
section
variable {β : Type} (E : Env) (rc : Caller) (n : Nat) (f : FuncId) (base : Nat)
def bodyR (r : Nat) : St → Res (Ex × St) := match E.P.funcs[f]? with
  | some fn => (match fn.body with
    | some c => (match findL r c with
      | some (c', _) => loopB E rc f fn n base c'
      | none => fun _ => .stuck)
    | none => fun _ => .stuck)
  | none => fun _ => .stuck
def tailR (r : Nat) (K : PV → List AObj → Res β) : Ex → St → Res β := match E.P.funcs[f]? with
  | some fn => (match fn.body with
    | some c => (match findL r c with
      | some (_, fs) => tailK E rc f fn n base fs (rootK E fn K)
      | none => fun _ _ => .stuck)
    | none => fun _ _ => .stuck)
  | none => fun _ _ => .stuck
def bodyRI (r q : Nat) : St → Res (Ex × St) := match E.P.funcs[f]? with
  | some fn => (match fn.body with
    | some c => (match findL r c with
      | some (c1, _) => (match findL q c1 with
        | some (c2, _) => loopB E rc f fn n base c2
        | none => fun _ => .stuck)
      | none => fun _ => .stuck)
    | none => fun _ => .stuck)
  | none => fun _ => .stuck
def tailRI (r q : Nat) : Ex → St → Res (Ex × St) := match E.P.funcs[f]? with
  | some fn => (match fn.body with
    | some c => (match findL r c with
      | some (c1, _) => (match findL q c1 with
        | some (_, fs) => tailK E rc f fn n base fs fun e st => e.k (.ok (.norm, canon base (E.hint f (firstRegion c1)).1 st))
            (fun i => .ok (.exit i, canon base (E.hint f (firstRegion c1)).2 st)) (.ok (.ret, canon base (resTmps fn) st))
        | none => fun _ _ => .stuck)
      | none => fun _ _ => .stuck)
    | none => fun _ _ => .stuck)
  | none => fun _ _ => .stuck
def loopR (r : Nat) (K : PV → List AObj → Res β) (st : St) : Res β := (iterR (bodyR E rc n f base r) n st).bind fun p => tailR E rc n f base r K p.1 p.2
def loopRI (r q : Nat) (st : St) : Res (Ex × St) := (iterR (bodyRI E rc n f base r q) n st).bind fun p => tailRI E rc n f base r q p.1 p.2
end
theorem loopR_end {β : Type} {E : Env} {rc : Caller} {n : Nat} {f : FuncId} {base r : Nat} {K : PV → List AObj → Res β} {s s' : St} {e : Ex} (h : iterR (bodyR E rc n f base r) n s = .ok (e, s')) : loopR E rc n f base r K s = tailR E rc n f base r K e s' := by
  unfold loopR; rw [h]; rfl
theorem loopL_end {E : Env} {n : Nat} {f : FuncId} {r : Nat} {s s' : St} {e : Ex} (h : iterR (bodyL E n f 0 r) n s = .ok (e, s')) : loopL E n f r s = tailL E n f 0 r (outK E f) e s' := by
  unfold loopL; rw [h]; rfl
end Go.Sim

/- Loops over lists: the first that is hit; a sum; a sum that may end early. -/
namespace Go.Sim
open Go.RowKit
set_option linter.unusedVariables false

/-- The first that is hit. -/
theorem iter_any {α : Type} {B : St → Res (Ex × St)} {S : Nat → St} {R X : St} {id : Nat} (q : α → Bool) (l : List α) {n : Nat} (hn : l.length < n)
    (h : ∀ j x, l[j]? = some x → B (S j) = bif q x then .ok (.ret, R) else .ok (.norm, S (j + 1))) (hx : B (S l.length) = .ok (.exit id, X)) :
    iterR B n (S 0) = bif l.any q then .ok (.ret, R) else .ok (.exit id, X) := by
  have main : ∀ (r p : List α) (n : Nat), l = p ++ r → r.length < n → iterR B n (S p.length) = bif r.any q then .ok (.ret, R) else .ok (.exit id, X) := by
    intro r
    induction r with
    | nil =>
      intro p n hp hn
      obtain ⟨n, rfl⟩ : ∃ m, n = m + 1 := ⟨n - 1, by omega⟩
      have : p.length = l.length := by rw [hp]; simp
      rw [this, iterR_exit hx]; rfl
    | cons x r ih =>
      intro p n hp hn
      obtain ⟨n, rfl⟩ : ∃ m, n = m + 1 := ⟨n - 1, by omega⟩
      have hs := h p.length x (by rw [hp]; simp)
      rw [List.any_cons]
      cases hq : q x with
      | true => rw [hq, cond_true] at hs; rw [iterR_ret hs]; rfl
      | false =>
        rw [hq, cond_false] at hs
        have := ih (p ++ [x]) n (by rw [hp]; simp) (by simp at hn; omega)
        rw [List.length_append] at this
        rw [iterR_step hs]; exact this
  exact main l [] n rfl hn

/-- A sum. -/
theorem iter_fold {α β : Type} {B : St → Res (Ex × St)} {S : β → Nat → St} {X : β → St} {id : Nat} (I : β → Nat → Prop) (f : β → α → β) (l : List α) {n : Nat} (b : β) (hn : l.length < n)
    (h : ∀ b j x, l[j]? = some x → I b j → B (S b j) = .ok (.norm, S (f b x) (j + 1)) ∧ I (f b x) (j + 1)) (hx : ∀ b, I b l.length → B (S b l.length) = .ok (.exit id, X b)) (hb : I b 0) :
    iterR B n (S b 0) = .ok (.exit id, X (l.foldl f b)) ∧ I (l.foldl f b) l.length := by
  have main : ∀ (r p : List α) (n : Nat) (b : β), l = p ++ r → r.length < n → I b p.length → iterR B n (S b p.length) = .ok (.exit id, X (r.foldl f b)) ∧ I (r.foldl f b) l.length := by
    intro r
    induction r with
    | nil =>
      intro p n b hp hn hI
      obtain ⟨n, rfl⟩ : ∃ m, n = m + 1 := ⟨n - 1, by omega⟩
      have : p.length = l.length := by rw [hp]; simp
      rw [this] at hI ⊢
      exact ⟨iterR_exit (hx b hI), hI⟩
    | cons x r ih =>
      intro p n b hp hn hI
      obtain ⟨n, rfl⟩ : ∃ m, n = m + 1 := ⟨n - 1, by omega⟩
      obtain ⟨hs, hI'⟩ := h b p.length x (by rw [hp]; simp) hI
      have hlen : (p ++ [x]).length = p.length + 1 := by simp
      have := ih (p ++ [x]) n (f b x) (by rw [hp]; simp) (by simp at hn; omega) (by rw [hlen]; exact hI')
      rw [hlen] at this
      rw [iterR_step hs]; exact this
  exact main l [] n b rfl hn hb

/-- A sum that may end early. -/
def scanE {α β γ : Type} (f : β → α → β ⊕ γ) : List α → β → β ⊕ γ
  | [], b => .inl b
  | x :: r, b => match f b x with
    | .inl b => scanE f r b
    | .inr c => .inr c
theorem iter_scan {α β γ : Type} {B : St → Res (Ex × St)} {S : β → Nat → St} {X : β → St} {R : γ → St} {id : Nat} (I : β → Nat → Prop) (f : β → α → β ⊕ γ) (l : List α) {n : Nat} (b : β) (hn : l.length < n)
    (h : ∀ b j x, l[j]? = some x → I b j → (match f b x with | .inl b' => B (S b j) = .ok (.norm, S b' (j + 1)) ∧ I b' (j + 1) | .inr c => B (S b j) = .ok (.ret, R c))) (hx : ∀ b, I b l.length → B (S b l.length) = .ok (.exit id, X b)) (hb : I b 0) :
    match scanE f l b with | .inl b' => iterR B n (S b 0) = .ok (.exit id, X b') ∧ I b' l.length | .inr c => iterR B n (S b 0) = .ok (.ret, R c) := by
  have main : ∀ (r p : List α) (n : Nat) (b : β), l = p ++ r → r.length < n → I b p.length → match scanE f r b with | .inl b' => iterR B n (S b p.length) = .ok (.exit id, X b') ∧ I b' l.length | .inr c => iterR B n (S b p.length) = .ok (.ret, R c) := by
    intro r
    induction r with
    | nil =>
      intro p n b hp hn hI
      obtain ⟨n, rfl⟩ : ∃ m, n = m + 1 := ⟨n - 1, by omega⟩
      have : p.length = l.length := by rw [hp]; simp
      rw [this] at hI ⊢
      exact ⟨iterR_exit (hx b hI), hI⟩
    | cons x r ih =>
      intro p n b hp hn hI
      obtain ⟨n, rfl⟩ : ∃ m, n = m + 1 := ⟨n - 1, by omega⟩
      have hs := h b p.length x (by rw [hp]; simp) hI
      have hlen : (p ++ [x]).length = p.length + 1 := by simp
      unfold scanE
      cases hf : f b x with
      | inr c => rw [hf] at hs; exact iterR_ret hs
      | inl b' =>
        rw [hf] at hs
        have := ih (p ++ [x]) n b' (by rw [hp]; simp) (by simp at hn; omega) (by rw [hlen]; exact hs.2)
        rw [hlen] at this
        simp only
        rw [iterR_step hs.1]; exact this
  exact main l [] n b rfl hn hb
end Go.Sim

/- A function's text in parts: what stands from one of its parts on. -/
namespace Go.Sim
open Go.RowKit
set_option linter.unusedVariables false
set_option linter.unusedSimpArgs false

/-- The parts of a code, one behind the other. -/
def spine : Code → List Code
  | .seq a b => spine a ++ spine b
  | .scope c => spine c
  | c => [c]
section
variable {β : Type} (E : Env) (rc : Caller) (f : FuncId) (fn : Func) (n base : Nat)
def seqK : List Code → St → (Ex → St → Res β) → Res β
  | [], st, K => K .norm st
  | c :: l, st, K => codeK E rc f fn n base c st fun e st => e.k (seqK l st K) (fun i => K (.exit i) st) (K .ret st)
theorem seqK_append : ∀ (l m : List Code) (st : St) (K : Ex → St → Res β), seqK E rc f fn n base (l ++ m) st K = seqK E rc f fn n base l st fun e st => e.k (seqK E rc f fn n base m st K) (fun i => K (.exit i) st) (K .ret st)
  | [], m, st, K => rfl
  | c :: l, m, st, K => by
    simp only [List.cons_append, seqK]
    congr 1
    funext e s
    cases e with
    | norm => exact seqK_append l m s K
    | _ => rfl
theorem ex_eta (K : Ex → St → Res β) : (fun e st => Ex.k e (K .norm st) (fun i => K (.exit i) st) (K .ret st)) = K := by
  funext e st
  cases e <;> rfl
theorem codeK_one (c : Code) (st : St) (K : Ex → St → Res β) : seqK E rc f fn n base [c] st K = codeK E rc f fn n base c st K := by
  show codeK E rc f fn n base c st (fun e st => e.k (K .norm st) (fun i => K (.exit i) st) (K .ret st)) = _
  rw [ex_eta]
theorem codeK_spine : ∀ (c : Code) (st : St) (K : Ex → St → Res β), codeK E rc f fn n base c st K = seqK E rc f fn n base (spine c) st K
  | .seq a b, st, K => by
    show codeK E rc f fn n base a st (fun e st => e.k (codeK E rc f fn n base b st K) (fun i => K (.exit i) st) (K .ret st)) = _
    rw [spine, seqK_append, codeK_spine a]
    congr 1
    funext e s
    cases e with
    | norm => exact codeK_spine b s K
    | _ => rfl
  | .scope c, st, K => codeK_spine c st K
  | .skip, st, K => (codeK_one _ _ _ _ _ _ _ _ _).symm
  | .region _ _ _, st, K => (codeK_one _ _ _ _ _ _ _ _ _).symm
  | .cond _ _ _, st, K => (codeK_one _ _ _ _ _ _ _ _ _).symm
  | .block _ _, st, K => (codeK_one _ _ _ _ _ _ _ _ _).symm
  | .loop _, st, K => (codeK_one _ _ _ _ _ _ _ _ _).symm
  | .exit _, st, K => (codeK_one _ _ _ _ _ _ _ _ _).symm
  | .label _, st, K => (codeK_one _ _ _ _ _ _ _ _ _).symm
  | .ret, st, K => (codeK_one _ _ _ _ _ _ _ _ _).symm
  | .rangeFunc .., st, K => (codeK_one _ _ _ _ _ _ _ _ _).symm
  | .goto .., st, K => (codeK_one _ _ _ _ _ _ _ _ _).symm
  | .refuse .., st, K => (codeK_one _ _ _ _ _ _ _ _ _).symm
end
def startS (E : Env) (f : FuncId) (args : List PV) : St := match E.P.funcs[f]? with
  | some fn => ⟨args ++ List.replicate (fn.ntmps - args.length) undefV, []⟩
  | none => ⟨[], []⟩
/-- From part i on. -/
def backL (E : Env) (n : Nat) (f : FuncId) (i : Nat) (st : St) : Res T := match E.P.funcs[f]? with
  | some fn => (match fn.body with
    | some c => seqK E (recOf E n) f fn n 0 ((spine c).drop i) st (rootK E fn (outK E f))
    | none => .stuck)
  | none => .stuck
/-- k parts, from part i on; what stands behind them is told by Kc. -/
def segL (E : Env) (n : Nat) (f : FuncId) (i k : Nat) (st : St) (Kc : St → Res T) : Res T := match E.P.funcs[f]? with
  | some fn => (match fn.body with
    | some c => seqK E (recOf E n) f fn n 0 (((spine c).drop i).take k) st fun e st => e.k (Kc st) (fun i => rootK E fn (outK E f) (.exit i) st) (rootK E fn (outK E f) .ret st)
    | none => .stuck)
  | none => .stuck
theorem backL_seg {E : Env} {n : Nat} {f : FuncId} {i : Nat} {st : St} (k : Nat) : backL E n f i st = segL E n f i k st (backL E n f (i + k)) := by
  unfold backL segL
  cases h : E.P.funcs[f]? with
  | none => rfl
  | some fn =>
    simp only []
    cases hb : fn.body with
    | none => rfl
    | some c =>
      simp only [h, hb]
      have e : (spine c).drop i = ((spine c).drop i).take k ++ (spine c).drop (i + k) := by rw [← List.drop_drop, List.take_append_drop]
      conv => lhs; rw [e]
      rw [seqK_append]
theorem callP_back {E : Env} {n : Nat} {f : FuncId} {ts : List T} (hx : E.ext f = none) (hw : T.wfs ts = true) : callP E (n + 1) f ts = backL E n f 0 (startS E f (ts.map .t)) := by
  have e : callP E (n + 1) f ts = funK E (recOf E n) n f (ts.map .t) [] (outK E f) := by
    unfold callP callPof
    rw [hw, hx]
    rfl
  rw [e]
  unfold backL startS funK
  simp only [List.drop_zero]
  cases h : E.P.funcs[f]? with
  | none => rfl
  | some fn =>
    simp only []
    cases hb : fn.body with
    | none => rfl
    | some c => simp only [hb]; exact codeK_spine _ _ _ _ _ _ _ _ _
end Go.Sim
