/- Regions: operations in a row, in the text's order or any other. -/
import Derived.Test.YtmidmdabmalhgaaD19
namespace Go.Sim
open Go.RowKit
set_option linter.unusedVariables false
set_option linter.unusedSimpArgs false
set_option linter.unusedSectionVars false

section
variable {β : Type} {E : Env} {rc : Caller} {st : St} {F : Nat → Prop} {κ : Nat → Value} {w : World} {N0 : Nat} {a : Act} {ops : Array Oper}

theorem setT_len (tm : List PV) (d : Option Tmp) (p : PV) : (setT tm d p).length = tm.length := by cases d <;> simp [setT]
theorem put_size (a : Act) (d : Option Tmp) (v : Value) : (a.put d v).tmps.size = a.tmps.size := by cases d <;> simp [Act.put]
theorem put_defers (a : Act) (d : Option Tmp) (v : Value) : (a.put d v).defers = a.defers := by cases d <;> rfl

theorem setT_tr {F : Nat → Prop} {κ : Nat → Value} {N : Nat} {w : World} {tm : List PV} {a : Act} (hl : a.tmps.size = tm.length) (ht : ∀ (i : Nat) (q : PV) (v : Value), tm[i]? = some q → a.tmps[i]? = some v → RP F κ N w q v) {p : PV} {u : Value} (hp : RP F κ N w p u) (d : Option Tmp) :
    ∀ (i : Nat) (q : PV) (v : Value), (setT tm d p)[i]? = some q → (a.put d u).tmps[i]? = some v → RP F κ N w q v := by
  cases d with
  | none => exact ht
  | some d =>
    intro i q v h1 h2
    simp only [setT] at h1
    simp only [Act.put] at h2
    by_cases e : i = d
    · subst e
      have hi : i < tm.length := by have := (List.getElem?_eq_some_iff.1 h1).1; simpa using this
      rw [List.getElem?_set_self hi] at h1
      rw [Array.getElem?_setIfInBounds_self_of_lt (by rw [hl]; exact hi)] at h2
      injection h1 with h1
      injection h2 with h2
      subst h1
      subst h2
      exact hp
    · rw [List.getElem?_set_ne (fun h => e h.symm)] at h1
      rw [Array.getElem?_setIfInBounds_ne (fun h => e h.symm)] at h2
      exact ht i q v h1 h2

theorem Next'.rel {F' : Nat → Prop} {κ' : Nat → Value} {w' : World} {st' : St} {p : PV} {u : Value} (rel : Rel F κ st a w) (h : Next' N0 F κ w st a.tmps p u F' κ' w' st') (d : Option Tmp) : Rel F' κ' ⟨setT st'.tmps d p, st'.heap⟩ (a.put d u) w' :=
  ⟨by rw [put_size, setT_len, rel.tl, h.tl], setT_tr (by rw [h.tl]; exact rel.tl) h.tr h.rp d, by rw [put_defers]; exact rel.dn, h.si⟩
theorem Rel.skip (rel : Rel F κ st a w) (d : Option Tmp) : Rel F κ ⟨setT st.tmps d undefV, st.heap⟩ (a.put d undef) w :=
  ⟨by rw [put_size, setT_len, rel.tl], setT_tr rel.tl rel.tr undef_rp d, by rw [put_defers]; exact rel.dn, rel.si⟩

theorem set_same {tm : List PV} {d : Nat} {p : PV} (h : tm.getD d .junk = p) (hp : p ≠ .junk) : tm.set d p = tm ∧ tm[d]? = some p := by
  rw [List.getD_eq_getElem?_getD] at h
  cases hd : tm[d]? with
  | none => rw [hd] at h; exact absurd h.symm hp
  | some q =>
    rw [hd] at h
    simp only [Option.getD_some] at h
    subst h
    refine ⟨?_, rfl⟩
    apply List.ext_getElem?
    intro i
    by_cases e : i = d
    · subst e; rw [List.getElem?_set_self (List.getElem?_eq_some_iff.1 hd).1, hd]
    · rw [List.getElem?_set_ne (fun h => e h.symm)]

/-- What a guard says: 'none': it stands aside. -/
def guardOf (ops : Array Oper) (tm : List PV) (o : Oper) : Option Bool := match o.guard with
  | none => some true
  | some (j, want) => match (ops[j]?).bind (·.dst) with
    | none => some false
    | some d => match tm.getD d .junk with
      | .tup [] => some false
      | .t (.bool b) => some (b == want)
      | _ => none

/-- One operation, as its guard says. -/
theorem opsK_one (o : Oper) (dr : Bool) (r : List (Oper × Bool)) (K : St → Res β) : opsK E rc ops ((o, dr) :: r) st K = match guardOf ops st.tmps o with
    | some true => opK E rc dr o st fun p st' => opsK E rc ops r ⟨setT st'.tmps o.dst p, st'.heap⟩ K
    | some false => opsK E rc ops r ⟨setT st.tmps o.dst undefV, st.heap⟩ K
    | none => .stuck := by
  simp only [opsK, guardOf]
  cases hg : o.guard with
  | none => rfl
  | some jw =>
    obtain ⟨j, want⟩ := jw
    simp only []
    cases hd : (ops[j]?).bind (·.dst) with
    | none => rfl
    | some d =>
      simp only []
      cases hp : st.tmps.getD d .junk with
      | tup l => cases l <;> rfl
      | t x =>
        cases x with
        | bool b =>
          have := (set_same hp (by simp)).1
          cases b <;> cases want <;> simp only [bT, cond_true, cond_false, this] <;> rfl
        | _ => rfl
      | _ => rfl

theorem guard_wanted (rel : Rel F κ st a w) {o : Oper} {b : Bool} (h : guardOf ops st.tmps o = some b) : Region.wanted o (yielded ops a.tmps) = b := by
  unfold guardOf at h
  unfold Region.wanted
  cases hg : o.guard with
  | none => rw [hg] at h; injection h
  | some jw =>
    obtain ⟨j, want⟩ := jw
    rw [hg] at h
    simp only [] at h ⊢
    unfold yielded
    cases hd : (ops[j]?).bind (·.dst) with
    | none => rw [hd] at h; simp only [Option.some.injEq] at h; subst h; rfl
    | some d =>
      rw [hd] at h
      simp only [Option.bind_some] at h ⊢
      have key : ∀ (p : PV), st.tmps.getD d .junk = p → p ≠ .junk → ∃ v, a.tmps[d]? = some v ∧ RP F κ st.heap.length w p v := by
        intro p hp hne
        have h1 := (set_same hp hne).2
        have h2 : d < a.tmps.size := by rw [rel.tl]; exact (List.getElem?_eq_some_iff.1 h1).1
        exact ⟨a.tmps[d], Array.getElem?_eq_getElem h2, rel.tr d p _ h1 (Array.getElem?_eq_getElem h2)⟩
      cases hp : st.tmps.getD d .junk with
      | tup l =>
        cases l with
        | nil =>
          rw [hp] at h
          obtain ⟨v, h1, h2⟩ := key _ hp (by simp)
          simp only [Option.some.injEq] at h
          subst h
          rw [h1]
          cases h2 with
          | tup hl hr => rfl
        | cons => rw [hp] at h; cases h
      | t x =>
        cases x with
        | bool b' =>
          rw [hp] at h
          obtain ⟨v, h1, h2⟩ := key _ hp (by simp)
          simp only [Option.some.injEq] at h
          rw [h1]
          cases h2 with
          | t h2 =>
          cases h2 with
          | bool =>
          subst h
          cases b' <;> cases want <;> rfl
        | _ => rw [hp] at h; cases h
      | _ => rw [hp] at h; cases h

theorem opsK_sound (hc : CallerOk E rc) {Q : Exit → Act → World → Prop} {K : St → Res β} : ∀ {l : List (Oper × Bool)} {st : St} {F : Nat → Prop} {κ : Nat → Value} {a : Act} {w : World}, opsK E rc ops l st K ≠ .stuck → N0 ≤ st.heap.length → Rel F κ st a w →
    (∀ st' F' κ' a' w', opsK E rc ops l st K = K st' → Rel F' κ' st' a' w' → Ev N0 F κ w st.heap F' κ' w' st'.heap → Q .normal a' w') → wpList E.P ops Q (l.map (·.1)) a w
  | [], st, F, κ, a, w, h, h0, rel, hq => hq st F κ a w rfl rel (Ev.refl h0)
  | (o, dr) :: r, st, F, κ, a, w, h, h0, rel, hq => by
    rw [opsK_one] at h hq
    simp only [List.map_cons, wpList]
    cases hg : guardOf ops st.tmps o with
    | none => rw [hg] at h; exact absurd rfl h
    | some b =>
      rw [hg] at h hq
      rw [guard_wanted rel hg]
      cases b with
      | true =>
        simp only [if_true] at h hq ⊢
        refine .inl (opK_sound (N0 := N0) hc h h0 rel fun p u st' F' κ' w' e hn => ?_)
        rw [e] at h hq
        refine opsK_sound hc h hn.ev.hl (hn.rel rel o.dst) fun st2 F2 κ2 a2 w2 e2 r2 ev2 => hq st2 F2 κ2 a2 w2 e2 r2 (hn.ev.trans ev2)
      | false =>
        simp only [Bool.false_eq_true, if_false] at h hq ⊢
        exact opsK_sound hc h h0 (rel.skip o.dst) hq

/-- A region in the text's order. -/
theorem region_sound (hc : CallerOk E rc) {id : Nat} {Q : Exit → Act → World → Prop} {K : St → Res β} {l : List (Oper × Bool)} (hl : l.map (·.1) = ops.toList) (h : opsK E rc ops l st K ≠ .stuck) (h0 : N0 ≤ st.heap.length) (rel : Rel F κ st a w)
    (hq : ∀ st' F' κ' a' w', opsK E rc ops l st K = K st' → Rel F' κ' st' a' w' → Ev N0 F κ w st.heap F' κ' w' st'.heap → Q .normal a' w') : (Code.region id ops false).wp E.P Q a w :=
  wp_region_list (by rw [← hl]; exact opsK_sound hc h h0 rel hq)
end
end Go.Sim
