/- Regions that draw their order: any order does. -/
import Derived.Test.YtmidmdabmalhgaaD21
namespace Go.Sim
open Go.RowKit
set_option linter.unusedVariables false
set_option linter.unusedSimpArgs false
set_option linter.unusedSectionVars false

theorem edges_bits (acc : Array Nat) (j : Nat) : ∀ (es : List Edge) (s : Nat), (es.foldl (fun s e => if Region.binds .any e then s ||| 2 ^ e.on ||| acc.getD e.on 0 else s) s).testBit j = true →
    s.testBit j = true ∨ ∃ e ∈ es, Region.binds .any e = true ∧ (e.on = j ∨ (acc.getD e.on 0).testBit j = true)
  | [], s, h => .inl h
  | e :: es, s, h => by
    simp only [List.foldl_cons] at h
    rcases edges_bits acc j es _ h with h1 | ⟨e', h1, h2⟩
    · by_cases hb : Region.binds .any e = true
      · rw [if_pos hb] at h1
        simp only [Nat.testBit_or, Nat.testBit_two_pow, Bool.or_eq_true, decide_eq_true_eq] at h1
        rcases h1 with (h1 | h1) | h1
        · exact .inl h1
        · exact .inr ⟨e, List.mem_cons_self, hb, .inl h1⟩
        · exact .inr ⟨e, List.mem_cons_self, hb, .inr h1⟩
      · rw [if_neg hb] at h1; exact .inl h1
    · exact .inr ⟨e', List.mem_cons_of_mem _ h1, h2⟩

/-- What 'before' tells of number i. -/
def BefInv (ops : Array Oper) (acc : Array Nat) (k : Nat) : Prop := acc.size = k ∧ ∀ i, i < k → ∀ j, (acc.getD i 0).testBit j = true → ∃ o, ops[i]? = some o ∧ ∃ e ∈ o.after.toList, Region.binds .any e = true ∧ (e.on = j ∨ (e.on < i ∧ (acc.getD e.on 0).testBit j = true))

theorem before_aux (ops : Array Oper) : ∀ (rest : List Oper) (acc : Array Nat) (k : Nat), (∀ m, rest[m]? = ops[k + m]?) → BefInv ops acc k →
    BefInv ops (rest.foldl (fun acc o => acc.push (o.after.foldl (fun s e => if Region.binds .any e then s ||| 2 ^ e.on ||| acc.getD e.on 0 else s) 0)) acc) (k + rest.length)
  | [], acc, k, _, h => h
  | o :: rest, acc, k, hr, h => by
    simp only [List.foldl_cons, List.length_cons]
    rw [show k + (rest.length + 1) = (k + 1) + rest.length by omega]
    refine before_aux ops rest _ (k + 1) (fun m => by have := hr (m + 1); simpa [Nat.add_assoc, Nat.add_comm 1 m] using this) ⟨by simp [h.1], fun i hi j hj => ?_⟩
    have hget : ∀ x i, i < k → (acc.push x).getD i 0 = acc.getD i 0 := fun x i hi => by
      have : i < acc.size := by rw [h.1]; exact hi
      simp [Array.getD_eq_getD_getElem?, Array.getElem?_push, Nat.ne_of_lt this]
    by_cases e0 : i < k
    · rw [hget _ i e0] at hj
      obtain ⟨o', g1, e, g2, g3, g4⟩ := h.2 i e0 j hj
      refine ⟨o', g1, e, g2, g3, g4.imp id fun ⟨a, b⟩ => ⟨a, by rw [hget _ _ (by omega)]; exact b⟩⟩
    · have hik : i = k := by omega
      subst hik
      have ho : ops[i]? = some o := by simpa using (hr 0).symm
      have hlast : ∀ x, (acc.push x).getD i 0 = x := fun x => by simp [Array.getD_eq_getD_getElem?, ← h.1]
      rw [hlast, ← Array.foldl_toList] at hj
      rcases edges_bits acc j _ 0 hj with h1 | ⟨e, g2, g3, g4⟩
      · simp at h1
      · refine ⟨o, ho, e, g2, g3, g4.imp id fun g => ?_⟩
        have hlt : e.on < i := by
          rcases Nat.lt_or_ge e.on i with h1 | h1
          · exact h1
          · rw [Array.getD_eq_getD_getElem?, Array.getElem?_eq_none (by rw [h.1]; exact h1)] at g; simp at g
        exact ⟨hlt, by rw [hget _ _ hlt]; exact g⟩
theorem before_inv (ops : Array Oper) : BefInv ops (Region.before ops) ops.size := by
  have := before_aux ops ops.toList #[] 0 (by simp) ⟨rfl, fun i hi => by omega⟩
  simpa [Region.before] using this

def Closed (ops : Array Oper) (listed : Array Bool) : Prop := ∀ i o, ops[i]? = some o → listed.getD i false = true → ∀ e ∈ o.after.toList, Region.binds .any e = true → listed.getD e.on false = true

theorem before_listed {ops : Array Oper} {listed : Array Bool} (hcl : Closed ops listed) : ∀ n i, i < n → i < ops.size → ∀ j, (∀ o, ops[i]? = some o → ∀ e ∈ o.after.toList, Region.binds .any e = true → listed.getD e.on false = true) →
    ((Region.before ops).getD i 0).testBit j = true → listed.getD j false = true
  | 0, i, hi, _, _, _, _ => by omega
  | n + 1, i, hi, hs, j, he, hb => by
    obtain ⟨o, h1, e, h2, h3, h4⟩ := (before_inv ops).2 i hs j hb
    have hl := he o h1 e h2 h3
    rcases h4 with rfl | ⟨h4, h5⟩
    · exact hl
    · exact before_listed hcl n e.on (by omega) (by omega) j (fun o' ho' => hcl e.on o' ho' hl) h5

section
variable {β : Type} {E : Env} {rc : Caller} {st : St} {F : Nat → Prop} {κ : Nat → Value} {w : World} {N0 : Nat} {a : Act} {ops : Array Oper}

theorem Rel.drew (rel : Rel F κ st a w) : Rel F κ st a { w with drawn := w.drawn + 1 } := by
  have mono : ∀ {p : PV} {v : Value}, RP F κ st.heap.length w p v → RP F κ st.heap.length { w with drawn := w.drawn + 1 } p v := fun {p v} h => RP.mono (w := w) (w' := { w with drawn := w.drawn + 1 }) (fun _ h => h) (fun _ _ => rfl) h fun l hl => ⟨rfl, h.bound l hl⟩
  exact ⟨rel.tl, fun i p v h1 h2 => mono (rel.tr i p v h1 h2), rel.dn, rel.si.fresh (Nat.le_refl _) (fun _ _ => rfl) (fun _ h => h) (fun _ h => .inl h) rel.si.fl⟩

def flagged (ops : Array Oper) (i : Nat) : Oper × Bool := (ops.getD i default, beside (Region.before ops) ops.size i)
theorem drawFlags_eq : drawFlags ops = (List.range ops.size).map (flagged ops) := by
  unfold drawFlags flagged
  apply List.ext_getElem
  · simp
  · intro i h1 h2
    have hi : i < ops.size := by simpa using h2
    simp [Array.getD_eq_getD_getElem?, hi]

theorem drawOk_pair (hd : drawOk ops = true) {i j : Nat} (hi : i < ops.size) (hj : j < ops.size) (hij : i < j) (hb : ((Region.before ops).getD j 0).testBit i = false) :
    (flagged ops i).2 = true ∧ (flagged ops j).2 = true ∧ quietOp (flagged ops i).1.op = true ∧ quietOp (flagged ops j).1.op = true ∧ (flagged ops i).1.apart ops (flagged ops j).1 = true := by
  unfold drawOk at hd
  simp only [Bool.and_eq_true, List.all_eq_true] at hd
  have hm : ∀ i, i < ops.size → (ops.getD i default, i) ∈ ops.toList.zipIdx := fun i hi => by
    rw [List.mem_zipIdx_iff_getElem?]
    simp [Array.getD_eq_getD_getElem?, hi]
  have := hd.2 _ (hm j hj) _ (hm i hi)
  simp only [hij, decide_true, Bool.not_true, Bool.false_or, hb, Bool.and_eq_true, Bool.not_eq_true'] at this
  obtain ⟨⟨⟨h1, h2⟩, h3⟩, h4⟩ := this
  have hbs : ∀ x y, y < ops.size → x ≠ y → ordered (Region.before ops) x y = false → beside (Region.before ops) ops.size x = true := by
    intro x y hy hne ho
    unfold beside
    rw [List.any_eq_true]
    exact ⟨y, List.mem_range.2 hy, by simp [hne, ho]⟩
  exact ⟨hbs i j hj (by omega) (by unfold ordered; rw [h1, hb]; rfl), hbs j i hi (by omega) (by unfold ordered; rw [h1, hb]; rfl), h2, h3, h4⟩

theorem any_sound (hc : CallerOk E rc) (hd : drawOk ops = true) {Q : Exit → Act → World → Prop} {st0 stf : St} {F0 : Nat → Prop} {κ0 : Nat → Value} {w0 : World}
    (hq : ∀ F' κ' a' w', Rel F' κ' stf a' w' → Ev N0 F0 κ0 w0 st0.heap F' κ' w' stf.heap → Q .normal a' w') : ∀ (fuel : Nat) (listed : Array Bool) (u : List Nat) (st : St) (F : Nat → Prop) (κ : Nat → Value) (a : Act) (w : World),
    listed.size = ops.size → u.Pairwise (· < ·) → (∀ i, i ∈ u ↔ i < ops.size ∧ listed.getD i true = false) → u.length ≤ fuel → Closed ops listed → runs E rc ops (u.map (flagged ops)) st stf → Rel F κ st a w → Ev N0 F0 κ0 w0 st0.heap F κ w st.heap →
    wpAny E.P .any ops Q fuel listed a w := by
  have done : ∀ (st : St) (F : Nat → Prop) (κ : Nat → Value) (a : Act) (w : World), runs E rc ops [] st stf → Rel F κ st a w → Ev N0 F0 κ0 w0 st0.heap F κ w st.heap → Q .normal a w := by
    intro st F κ a w hr rel ev
    simp only [runs, opsK, Res.ok.injEq] at hr
    subst hr
    exact hq F κ a w rel ev
  have hready : ∀ (listed : Array Bool) (i : Nat), i ∈ Region.ready .any ops listed ↔ i < ops.size ∧ listed.getD i true = false ∧ ∀ o, ops[i]? = some o → ∀ e ∈ o.after.toList, Region.binds .any e = true → listed.getD e.on false = true := by
    intro listed i
    simp only [Region.ready, List.mem_filter, List.mem_range, Bool.and_eq_true, Bool.not_eq_true']
    constructor
    · rintro ⟨h1, h2, h3⟩
      refine ⟨h1, h2, fun o ho e he hb => ?_⟩
      rw [ho] at h3
      simp only [Option.map_some, Option.getD_some, Array.all_eq_true_iff_forall_mem] at h3
      have := h3 e (by simpa using he)
      simpa [hb] using this
    · rintro ⟨h1, h2, h3⟩
      refine ⟨h1, h2, ?_⟩
      rw [Array.getElem?_eq_getElem h1]
      simp only [Option.map_some, Option.getD_some, Array.all_eq_true_iff_forall_mem]
      intro e he
      cases hb : Region.binds .any e with
      | false => rfl
      | true => simpa using h3 _ (Array.getElem?_eq_getElem h1) e (by simpa using he) hb
  -- while something is left, something is ready
  have hmin : ∀ (listed : Array Bool) (u : List Nat), listed.size = ops.size → u.Pairwise (· < ·) → (∀ i, i ∈ u ↔ i < ops.size ∧ listed.getD i true = false) → Region.ready .any ops listed = [] → u = [] := by
    intro listed u hsz hp hu hr
    cases u with
    | nil => rfl
    | cons i u =>
      exfalso
      have hi := (hu i).1 List.mem_cons_self
      have : i ∈ Region.ready .any ops listed := by
        rw [hready]
        refine ⟨hi.1, hi.2, fun o ho e he hb => ?_⟩
        have hlt : e.on < i := by
          unfold drawOk at hd
          simp only [Bool.and_eq_true, List.all_eq_true] at hd
          have := hd.1 (o, i) (by rw [List.mem_zipIdx_iff_getElem?]; simpa using ho)
          simp only [Array.all_eq_true_iff_forall_mem] at this
          have := this e (by simpa using he)
          simpa [hb] using this
        have hs : e.on < listed.size := by omega
        cases hl : listed.getD e.on false with
        | true => rfl
        | false =>
          have hmem : e.on ∈ i :: u := (hu e.on).2 ⟨by omega, by
            rw [Array.getD_eq_getD_getElem?, Array.getElem?_eq_getElem hs] at hl ⊢; exact hl⟩
          rcases List.mem_cons.1 hmem with h1 | h1
          · omega
          · have := (List.pairwise_cons.1 hp).1 e.on h1; omega
      rw [hr] at this
      cases this
  intro fuel
  induction fuel with
  | zero =>
    intro listed u st F κ a w hsz hp hu hl hcl hr rel ev
    have : u = [] := List.eq_nil_of_length_eq_zero (by omega)
    subst this
    refine ⟨?_, done st F κ a w hr rel ev⟩
    cases hrd : Region.ready .any ops listed with
    | nil => rfl
    | cons i l =>
      have h1 : i ∈ Region.ready .any ops listed := by rw [hrd]; exact List.mem_cons_self
      rw [hready] at h1
      exact absurd ((hu i).2 ⟨h1.1, h1.2.1⟩) (by simp)
  | succ fuel ih =>
    intro listed u st F κ a w hsz hp hu hl hcl hr rel ev
    refine ⟨fun hrd => ?_, fun i hi => ?_⟩
    · have := hmin listed u hsz hp hu hrd
      subst this
      exact done st F κ a w hr rel ev
    · rw [hready] at hi
      obtain ⟨hi1, hi2, hi3⟩ := hi
      obtain ⟨u1, u2, rfl⟩ := List.append_of_mem ((hu i).2 ⟨hi1, hi2⟩)
      have hp' := List.pairwise_append.1 hp
      have hp2 := List.pairwise_cons.1 hp'.2.1
      have hlt1 : ∀ x ∈ u1, x < i := fun x hx => hp'.2.2 x hx i List.mem_cons_self
      rw [List.map_append, List.map_cons] at hr
      obtain ⟨st1, r1, r2⟩ := runs_first hc.nat (fun x hx => by
        obtain ⟨j, hj, rfl⟩ := List.mem_map.1 hx
        have hju := (hu j).1 (List.mem_append_left _ hj)
        refine drawOk_pair hd hju.1 hi1 (hlt1 j hj) ?_
        cases hb : ((Region.before ops).getD i 0).testBit j with
        | false => rfl
        | true =>
          have := before_listed hcl (i + 1) i (Nat.lt_succ_self _) hi1 j hi3 hb
          have hs : j < listed.size := by omega
          have h2 := hju.2
          rw [Array.getD_eq_getD_getElem?, Array.getElem?_eq_getElem hs] at this h2
          simp only [Option.getD_some] at this h2
          rw [this] at h2
          cases h2) hr
      have hop : ops[i]? = some (ops.getD i default) := by simp [Array.getD_eq_getD_getElem?, hi1]
      have next : ∀ (F' : Nat → Prop) (κ' : Nat → Value) (a' : Act) (w' : World), Rel F' κ' st1 a' w' → Ev N0 F0 κ0 w0 st0.heap F' κ' w' st1.heap → wpAny E.P .any ops Q fuel (listed.setIfInBounds i true) a' w' := by
        intro F' κ' a' w' rel' ev'
        refine ih (listed.setIfInBounds i true) (u1 ++ u2) st1 F' κ' a' w' (by simp [hsz]) ?_ (fun j => ?_) (by simp at hl ⊢; omega) (fun j o ho hj e he hb => ?_) (by rw [List.map_append]; exact r2) rel' ev'
        · exact List.pairwise_append.2 ⟨hp'.1, hp2.2, fun x hx y hy => hp'.2.2 x hx y (List.mem_cons_of_mem _ hy)⟩
        · have := hu j
          simp only [List.mem_append, List.mem_cons] at this ⊢
          by_cases e : j = i
          · subst e
            rw [Array.getD_eq_getD_getElem?, Array.getElem?_setIfInBounds_self_of_lt (by omega)]
            simp only [Option.getD_some]
            constructor
            · rintro (h | h)
              · have := hlt1 j h; omega
              · have := hp2.1 j h; omega
            · rintro ⟨_, h⟩; cases h
          · rw [Array.getD_eq_getD_getElem?, Array.getElem?_setIfInBounds_ne (fun h => e h.symm), ← Array.getD_eq_getD_getElem?, ← this]
            constructor
            · rintro (h | h)
              · exact .inl h
              · exact .inr (.inr h)
            · rintro (h | h | h)
              · exact .inl h
              · exact absurd h e
              · exact .inr h
        · have keep : ∀ m, listed.getD m false = true → (listed.setIfInBounds i true).getD m false = true := fun m hm => by
            by_cases e : m = i
            · subst e; rw [Array.getD_eq_getD_getElem?, Array.getElem?_setIfInBounds_self_of_lt (by omega)]; rfl
            · rw [Array.getD_eq_getD_getElem?, Array.getElem?_setIfInBounds_ne (fun h => e h.symm), ← Array.getD_eq_getD_getElem?]; exact hm
          by_cases e0 : j = i
          · subst e0; exact keep _ (hi3 o ho e he hb)
          · rw [Array.getD_eq_getD_getElem?, Array.getElem?_setIfInBounds_ne (fun h => e0 h.symm), ← Array.getD_eq_getD_getElem?] at hj
            exact keep _ (hcl j o ho hj e he hb)
      unfold wpOp
      rw [hop]
      simp only []
      have r1' : opsK E rc ops [((ops.getD i default), (flagged ops i).2)] st (fun s => (.ok s : Res St)) = .ok st1 := r1
      rw [opsK_one] at r1'
      cases hg : guardOf ops st.tmps (ops.getD i default) with
      | none => rw [hg] at r1'; cases r1'
      | some b =>
        rw [hg] at r1'
        rw [guard_wanted rel hg]
        cases b with
        | true =>
          simp only [if_true] at r1' ⊢
          refine .inl (opK_sound (N0 := N0) (K := fun p st' => opsK E rc ops [] ⟨setT st'.tmps (ops.getD i default).dst p, st'.heap⟩ (fun s => (.ok s : Res St))) hc (by rw [r1']; simp) (by exact ev.hl) rel fun p v st' F' κ' w' e hn => ?_)
          rw [r1'] at e
          simp only [opsK, Res.ok.injEq] at e
          subst e
          exact next F' κ' _ w' (hn.rel rel _) (ev.trans hn.ev)
        | false =>
          simp only [Bool.false_eq_true, if_false, opsK, Res.ok.injEq] at r1' ⊢
          subst r1'
          exact next F κ _ w (rel.skip _) ev

theorem draw_sound (hm : E.P.follows .mixedOrders = true) (hc : CallerOk E rc) (hd : drawOk ops = true) {id : Nat} {Q : Exit → Act → World → Prop} {K : St → Res β} (h : opsK E rc ops (drawFlags ops) st K ≠ .stuck) (h0 : N0 ≤ st.heap.length) (rel : Rel F κ st a w)
    (hq : ∀ st' F' κ' a' w', opsK E rc ops (drawFlags ops) st K = K st' → Rel F' κ' st' a' w' → Ev N0 F κ w st.heap F' κ' w' st'.heap → Q .normal a' w') : (Code.region id ops true).wp E.P Q a w := by
  have hsplit : opsK E rc ops (drawFlags ops) st K = (opsK E rc ops (drawFlags ops) st (fun s => (.ok s : Res St))).bind K := by
    have := nat_opsK (E := E) (Strict.bind (β := St) K) hc.nat ops (drawFlags ops) st fun s => .ok s
    rw [this]
    rfl
  have hne : opsK E rc ops (drawFlags ops) st (fun s => (.ok s : Res St)) ≠ .stuck := by
    intro e; rw [hsplit, e] at h; exact h rfl
  have hfst : (drawFlags ops).map (·.1) = ops.toList := by
    apply List.ext_getElem
    · simp [drawFlags]
    · intro i h1 h2
      simp [drawFlags]
  -- a run in the text's order shows that they all come to an end
  obtain ⟨e, a', w', ⟨stf, hf⟩, _⟩ := region_sound (id := id) (Q := fun _ _ _ => ∃ stf, opsK E rc ops (drawFlags ops) st (fun s => (.ok s : Res St)) = .ok stf) hc hfst hne h0 rel (fun st' F' κ' a' w' e _ _ => ⟨st', e⟩) default [] []
  have hK : opsK E rc ops (drawFlags ops) st K = K stf := by rw [hsplit, hf]; rfl
  refine wp_region_any hm ?_
  have hd0 : Ev N0 F κ w st.heap F κ { w with drawn := w.drawn + 1 } st.heap := ⟨rfl, rfl, rfl, Nat.le_refl _, fun _ _ _ => rfl, fun _ h => h, fun _ h => .inl h, fun _ h => .inl h, h0, fun l o _ h1 h2 => ⟨rfl, o, h1, h2⟩⟩
  refine any_sound (N0 := N0) (st0 := st) (stf := stf) (F0 := F) (κ0 := κ) (w0 := w) hc hd (fun F' κ' a' w' r ev => hq stf F' κ' a' w' hK r ev) ops.size _ (List.range ops.size) st F κ a _ (by simp) (by simpa using List.pairwise_lt_range) (fun i => ?_) (by simp) (fun i o _ hi => ?_) (by rw [← drawFlags_eq]; exact hf) rel.drew hd0
  · simp only [List.mem_range]
    constructor
    · intro hi; exact ⟨hi, by simp [Array.getD_eq_getD_getElem?, hi]⟩
    · exact fun h => h.1
  · exfalso
    rw [Array.getD_eq_getD_getElem?] at hi
    rcases Nat.lt_or_ge i ops.size with h1 | h1
    · simp [h1] at hi
    · rw [Array.getElem?_eq_none (by simpa using h1)] at hi; cases hi
end
end Go.Sim
