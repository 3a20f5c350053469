/- Steps that turn memory: freezing, new objects. -/
import Derived.Test.YtmidmdabmalhgaaD7
namespace Go.Sim
open Go.RowKit
set_option linter.unusedVariables false
set_option linter.unusedSimpArgs false

section
variable {F : Nat → Prop} {κ : Nat → Value} {w : World} {H : List AObj}

theorem set_get {α : Type} {H : List α} {l i : Nat} {o o' : α} (hl : l < H.length) (h : (H.set l o)[i]? = some o') : (i = l ∧ o' = o) ∨ (i ≠ l ∧ H[i]? = some o') := by
  by_cases e : i = l
  · subst e
    rw [List.getElem?_set_self hl] at h
    exact .inl ⟨rfl, by simpa using h.symm⟩
  · rw [List.getElem?_set_ne (by omega)] at h
    exact .inr ⟨e, h⟩

/-- A row that nobody writes any more. -/
theorem freeze1 (s : SI F κ w H) {l : Nat} {e k : Nat} {xs : List T} (h : H[l]? = some (.row e k xs)) :
    ∃ F', SI F' κ w (H.set l (.frow e k xs)) ∧ (∀ b, F b → F' b) ∧ (∀ b, F' b → F b ∨ Own κ H b) ∧ (∀ b, Own κ (H.set l (.frow e k xs)) b → Own κ H b) ∧ (∀ b, (κ l).ownBlock = some b → F' b) ∧
      (∀ b, F' b → F b ∨ (κ l).ownBlock = some b) := by
  have hl : l < H.length := (List.getElem?_eq_some_iff.1 h).1
  have hro := s.ro l _ h
  refine ⟨fun b => F b ∨ (κ l).ownBlock = some b, ⟨fun i o hi => ?_, fun i o b hi hb => ?_, fun i j o o' b hi hj hb hb' => ?_, fun b hb => ?_⟩, fun b hb => .inl hb, ?_, ?_, fun b hb => .inr hb, fun b hb => hb⟩
  · rw [List.length_set]
    rcases set_get hl hi with ⟨rfl, rfl⟩ | ⟨hne, ho⟩
    · obtain ⟨cs, h1, h2, h3, h4, h5⟩ := hro
      have hv := SlV.of_row (F := F) (κ := κ) (w := w) (N := H.length) (l := i) (e := e) ⟨cs, h1, h2, h3, h4, h5⟩ h
      obtain ⟨A, n, c, e1, e2, e3, e4, e5, b, o, val, e6, e7, e8, e9⟩ := hv
      subst e2
      refine ⟨?_, ?_⟩
      · rw [e1]
        refine .sl b o val e3 e4 e5 (fun h => ?_) e7 e8 fun i x j y a c => (e9 i x j y a c).mono (fun b hb => .inl hb) (fun _ _ => rfl)
        obtain ⟨a1, a2⟩ := e6 h
        refine ⟨a1, ?_⟩
        rcases a2 with a2 | ⟨l', e', xs', b1, b2, b3⟩
        · exact .inl a2
        · simp [PV.rows] at b1
          subst b1
          rw [e1] at b3
          exact .inr b3
      · intro ad n' c' hk
        rcases h1.2 with ⟨q1, _⟩ | ⟨g, cap, cur, q1, _⟩
        · rw [q1] at hk; cases hk
        · rw [q1] at hk; injection hk with hk; injection hk with hk; exact ⟨g, hk.symm⟩
    · exact (s.ro i o ho).mono (fun b hb => .inl hb) (fun _ _ => rfl) (fun _ _ => rfl) rfl fun l' hl' => ⟨rfl, (s.ro i o ho).bound l' hl'⟩
  · rcases set_get hl hi with ⟨rfl, rfl⟩ | ⟨hne, ho⟩
    · simp [blk] at hb
    · refine ⟨(s.lt i o b ho hb).1, ?_⟩
      rintro (h1 | h1)
      · exact (s.lt i o b ho hb).2 h1
      · exact hne (s.ne i l o _ b ho h hb (by simpa [blk] using h1))
  · rcases set_get hl hi with ⟨rfl, rfl⟩ | ⟨hne, ho⟩
    · simp [blk] at hb
    · rcases set_get hl hj with ⟨rfl, rfl⟩ | ⟨hne', ho'⟩
      · simp [blk] at hb'
      · exact s.ne i j o o' b ho ho' hb hb'
  · rcases hb with hb | hb
    · exact s.fl b hb
    · exact (s.lt l _ b h (by simpa [blk] using hb)).1
  · rintro b (hb | hb)
    · exact .inl hb
    · exact .inr ⟨l, _, h, by simpa [blk] using hb⟩
  · rintro b ⟨i, o, hi, hb⟩
    rcases set_get hl hi with ⟨rfl, rfl⟩ | ⟨hne, ho⟩
    · simp [blk] at hb
    · exact ⟨i, o, ho, hb⟩

theorem freezeRows_length (ls : List Nat) : ∀ (H : List AObj), (freezeRows ls H).length = H.length := by
  unfold freezeRows
  induction ls with
  | nil => intro H; rfl
  | cons l ls ih =>
    intro H
    simp only [List.foldl_cons]
    rw [ih]
    split <;> simp

/-- Rows that nobody writes any more. -/
theorem freeze_sound (ls : List Nat) : ∀ {F : Nat → Prop} {H : List AObj}, SI F κ w H →
    ∃ F', SI F' κ w (freezeRows ls H) ∧ (∀ b, F b → F' b) ∧ (∀ b, F' b → F b ∨ Own κ H b) ∧ (∀ b, Own κ (freezeRows ls H) b → Own κ H b) ∧
      (∀ l ∈ ls, ∀ (e : TypeId) (k : Nat) (xs : List T) (b : Nat), H[l]? = some (.row e k xs) → (κ l).ownBlock = some b → F' b) ∧
      (∀ (l : Nat) (o : AObj), H[l]? = some o → (∀ (e : TypeId) (k : Nat) (xs : List T), o ≠ .row e k xs) → (freezeRows ls H)[l]? = some o) ∧
      (∀ (l : Nat) (e : TypeId) (k : Nat) (xs : List T), H[l]? = some (.row e k xs) → (freezeRows ls H)[l]? = some (.row e k xs) ∨ (freezeRows ls H)[l]? = some (.frow e k xs)) := by
  induction ls with
  | nil => intro F H s; exact ⟨F, s, fun _ h => h, fun _ h => .inl h, fun _ h => h, (fun l hl => absurd hl (by simp)), fun l o h _ => h, fun l e k xs h => .inl h⟩
  | cons l ls ih =>
    intro F H s
    have hdef : freezeRows (l :: ls) H = freezeRows ls (match H[l]? with | some (AObj.row e k xs) => H.set l (AObj.frow e k xs) | _ => H) := rfl
    by_cases hr : ∃ (e : TypeId) (k : Nat) (xs : List T), H[l]? = some (.row e k xs)
    · obtain ⟨e, k, xs, hr⟩ := hr
      rw [hdef]
      simp only [hr]
      have hl : l < H.length := (List.getElem?_eq_some_iff.1 hr).1
      obtain ⟨F1, s1, a1, a2, a3, a4, _⟩ := freeze1 s hr
      obtain ⟨F2, s2, b1, b2, b3, b4, b5, b6⟩ := ih s1
      refine ⟨F2, s2, fun b h => b1 b (a1 b h), fun b h => (b2 b h).elim (a2 b) (fun h => .inr (a3 b h)), fun b h => a3 b (b3 b h), fun l' hl' e' k' xs' b h1 h2 => ?_, fun l' o h1 h2 => ?_, fun l' e' k' xs' h1 => ?_⟩
      · by_cases e0 : l' = l
        · subst e0; exact b1 b (a4 b h2)
        · rcases List.mem_cons.1 hl' with rfl | hl'
          · exact absurd rfl e0
          · exact b4 l' hl' e' k' xs' b (by rw [List.getElem?_set_ne (by omega)]; exact h1) h2
      · refine b5 l' o ?_ h2
        rw [List.getElem?_set_ne (fun e0 => by subst e0; rw [hr] at h1; injection h1 with h1; exact h2 e k xs h1.symm)]
        exact h1
      · by_cases e0 : l' = l
        · subst e0
          rw [hr] at h1
          injection h1 with h1
          cases h1
          exact .inr (b5 l' _ (List.getElem?_set_self hl) (by simp))
        · exact b6 l' e' k' xs' (by rw [List.getElem?_set_ne (by omega)]; exact h1)
    · have hm : (match H[l]? with | some (AObj.row e k xs) => H.set l (AObj.frow e k xs) | _ => H) = H := by
        cases ho : H[l]? with
        | none => rfl
        | some o => cases o <;> first | rfl | exact absurd ⟨_, _, _, ho⟩ hr
      rw [hdef]
      rw [hm]
      obtain ⟨F2, s2, b1, b2, b3, b4, b5, b6⟩ := ih s
      refine ⟨F2, s2, b1, b2, b3, fun l' hl' e' k' xs' b h1 h2 => ?_, b5, b6⟩
      rcases List.mem_cons.1 hl' with rfl | hl'
      · exact absurd ⟨_, _, _, h1⟩ hr
      · exact b4 l' hl' e' k' xs' b h1 h2

theorem Ev.freeze {N0 : Nat} (ls : List Nat) {F' : Nat → Prop} (h0 : N0 ≤ H.length) (a : ∀ b, F b → F' b) (b : ∀ b, F' b → F b ∨ Own κ H b) (c : ∀ b, Own κ (freezeRows ls H) b → Own κ H b)
    (d : ∀ (l : Nat) (o : AObj), H[l]? = some o → (∀ (e : TypeId) (k : Nat) (xs : List T), o ≠ .row e k xs) → (freezeRows ls H)[l]? = some o) : Ev N0 F κ w H F' κ w (freezeRows ls H) :=
  ⟨rfl, rfl, rfl, Nat.le_refl _, fun _ _ _ => rfl, a, fun x hx => (b x hx).imp id .inl, fun x hx => .inl (c x hx), by rw [freezeRows_length]; exact h0, fun l o _ h1 h2 => ⟨rfl, o, d l o h1 h2, h2⟩⟩

/-- Slots live on beside what has been frozen. -/
theorem RP.freeze {F' : Nat → Prop} {N : Nat} {p : PV} {v : Value} (a : ∀ b, F b → F' b) (h : RP F κ N w p v) : RP F' κ N w p v := h.mono a (fun _ _ => rfl) fun l hl => ⟨rfl, h.bound l hl⟩

/-- What was read is a tree where its rows are frozen. -/
theorem SlV.frozen {F' : Nat → Prop} {k : Nat} {xs : List T} {p : PV} {v : Value} (h : SlV F κ w H k xs p v) (a : ∀ b, F b → F' b)
    (hr : ∀ l ∈ p.rows, ∀ (e : TypeId) (k : Nat) (xs : List T) (b : Nat), H[l]? = some (.row e k xs) → (κ l).ownBlock = some b → F' b) : Rd F' w (.sl k xs) v := by
  obtain ⟨A, n, c, rfl, rfl, h3, h4, h5, b, o, val, h6, h7, h8, h9⟩ := h
  refine .sl b o val h3 h4 h5 (fun h => ?_) h7 h8 fun i x j y g1 g2 => (h9 i x j y g1 g2).mono a (fun _ _ => rfl)
  obtain ⟨a1, a2⟩ := h6 h
  refine ⟨a1, ?_⟩
  rcases a2 with a2 | ⟨l', e', xs', b1, b2, b3⟩
  · exact a b a2
  · exact hr l' b1 e' k xs' b b2 b3

/-- A frozen slice, cut. -/
theorem Rd.cut {k : Nat} {xs : List T} {A : Option Addr} {n c l h m : Nat} (hr : Rd F w (.sl k xs) (.slice A n c)) (hl : l ≤ h) (hh : h ≤ xs.length) (hm : h ≤ m) (hmc : m ≤ c) :
    Rd F w (.sl k ((xs.take h).drop l)) (.slice (if m = l then A else A.map (·.add (l * k))) (h - l) (m - l)) := by
  cases hr with
  | sl b o val hn hb hk hA h1 hc hr =>
    have hlen : ((xs.take h).drop l).length = h - l := by simp; omega
    have hget : ∀ (i : Nat) (x : T), ((xs.take h).drop l)[i]? = some x → xs[l + i]? = some x := by
      intro i x hx
      rw [List.getElem?_drop, List.getElem?_take] at hx
      split at hx
      · exact hx
      · cases hx
    rw [← hlen]
    refine .sl b (o + l * k) (fun i j => val (l + i) j) (by omega) (by omega) (fun x hx => hk x ?_) (fun h0 => ?_) (fun i j hi hj => h1 _ _ (by omega) hj) (fun i j hi hj => ?_) (fun i x j y hx hy => hr _ x j y (hget i x hx) hy)
    · exact List.mem_of_mem_take (List.mem_of_mem_drop hx)
    · obtain ⟨a1, a2⟩ := hA (by omega)
      subst a1
      rw [if_neg (by omega)]
      exact ⟨by simp [add_mid], a2⟩
    · have := hc (l + i) j (by omega) hj
      rw [Nat.add_mul] at this
      rw [show o + l * k + i * k + j = o + (l * k + i * k) + j by omega]
      exact this
end

section
variable {β : Type} {E : Env} {st : St} {F : Nat → Prop} {κ : Nat → Value} {w : World}

def OptR (F : Nat → Prop) (κ : Nat → Value) (N : Nat) (w : World) : Option PV → Option Value → Prop
  | none, none => True
  | some p, some v => RP F κ N w p v
  | _, _ => False
/-- A bound of a cut: its value, and what it comes to. -/
theorem boundK_sound {n d : Nat} {p : Option PV} {K : Nat → Res β} {v : Option Value} {N : Nat} (h : boundK n d p K ≠ .stuck) (hp : OptR F κ N w p v) :
    ∃ i, boundK n d p K = K i ∧ ((v = none ∧ i = d) ∨ (i ≤ n ∧ ∃ ki, v = some (.int ki i))) := by
  cases p with
  | none =>
    cases v with
    | none => exact ⟨d, rfl, .inl ⟨rfl, rfl⟩⟩
    | some v => exact hp.elim
  | some p =>
    cases v with
    | none => exact hp.elim
    | some v =>
    replace hp : RP F κ N w p v := hp
    cases hp with
    | @t x _ r =>
      simp only [boundK] at h ⊢
      obtain ⟨k, i, rfl, e⟩ := anyT_inv h
      rw [e] at h ⊢
      obtain ⟨h1, h2⟩ := chk_inv h
      rw [h2]
      simp only [Bool.and_eq_true, decide_eq_true_eq] at h1
      cases r
      exact ⟨_, rfl, .inr ⟨by omega, k, by rw [Int.toNat_of_nonneg h1.1]⟩⟩
    | _ => exact absurd rfl h
end
end Go.Sim
