/- Objects, states, and what a step may turn. -/
import Derived.Test.YtmidmdabmalhgaaD1
namespace Go.Sim
open Go.RowKit
set_option linter.unusedVariables false
set_option linter.unusedSimpArgs false

/-- What an object says of a world: the value by which it is named is 'κ l'. -/
def RO (F : Nat → Prop) (κ : Nat → Value) (N : Nat) (w : World) (l : Nat) : AObj → Prop
  | .box e n v => ∃ b vs vv, κ l = .pointer (some ⟨b, 0, none⟩) ∧ w.heap[b]? = some (.cells vs e (0, 0)) ∧ vs = vv.cells ∧ vs.size = n ∧ (∀ c ∈ vs, c.oneCell' = true) ∧ RP F κ N w v vv
  | .fbox e n v => ∃ b, κ l = .pointer (some ⟨b, 0, none⟩) ∧ Rd F w (.ref v) (κ l) ∧ v.cells.length = n
  | .row e k xs => ∃ cs, w.ownsRow 0 e k (κ l) xs.length cs ∧ xs.length ≤ big ∧ (∀ x ∈ xs, x.cells.length = k ∧ (k = 1 → x.isAgg = false)) ∧ (∀ c ∈ cs, c.oneCell' = true) ∧
      (∀ (i : Nat) (x : T) (j : Nat) (y : T) (v : Value), xs[i]? = some x → x.cells[j]? = some y → cs[i * k + j]? = some v → Rd F w y v)
  | .frow e k xs => Rd F w (.sl k xs) (κ l) ∧ (∀ ad n c, κ l = .slice (some ad) n c → ∃ b, ad = ⟨b, 0, none⟩)
  | .vec e xs => ∃ b vs c, κ l = .slice (some ⟨b, 0, none⟩) xs.length c ∧ w.heap[b]? = some (.cells vs e (0, 0)) ∧ vs.size = xs.length ∧ (∀ c ∈ vs, c.oneCell' = true) ∧
      (∀ (i : Nat) (p : PV) (v : Value), xs[i]? = some p → vs[i]? = some v → RP F κ N w p v)
  | .dead => True

def ptrBlock : Value → Option Nat
  | .pointer (some a) => some a.block
  | _ => none
/-- The block that an object owns. -/
def blk (κ : Nat → Value) (l : Nat) : AObj → Option Nat
  | .box _ _ _ => ptrBlock (κ l)
  | .row _ _ _ => (κ l).ownBlock
  | .vec _ _ => (κ l).ownBlock
  | _ => none
def Own (κ : Nat → Value) (H : List AObj) (b : Nat) : Prop := ∃ l o, H[l]? = some o ∧ blk κ l o = some b

structure SI (F : Nat → Prop) (κ : Nat → Value) (w : World) (H : List AObj) : Prop where
  ro : ∀ l o, H[l]? = some o → RO F κ H.length w l o
  lt : ∀ l o b, H[l]? = some o → blk κ l o = some b → b < w.heap.size ∧ ¬ F b
  ne : ∀ l l' o o' b, H[l]? = some o → H[l']? = some o' → blk κ l o = some b → blk κ l' o' = some b → l = l'
  fl : ∀ b, F b → b < w.heap.size

theorem RO.mono {F F' : Nat → Prop} {κ κ' : Nat → Value} {N N' : Nat} {w w' : World} (hF : ∀ b, F b → F' b) (hw : ∀ b, F b → w'.heap[b]? = w.heap[b]?) {l : Nat} {o : AObj}
    (h : RO F κ N w l o) (hb : ∀ b, blk κ l o = some b → w'.heap[b]? = w.heap[b]?) (hk : κ' l = κ l) (hl : ∀ l' ∈ o.locs, κ' l' = κ l' ∧ l' < N') : RO F' κ' N' w' l o := by
  cases o with
  | box e n v =>
    obtain ⟨b, vs, vv, h1, h2, h3, h4, h5, h6⟩ := h
    exact ⟨b, vs, vv, hk.trans h1, (hb b (by simp [blk, h1, ptrBlock])).trans h2, h3, h4, h5, h6.mono hF hw hl⟩
  | fbox e n v =>
    obtain ⟨b, h1, h2, h3⟩ := h
    exact ⟨b, hk.trans h1, by rw [hk]; exact h2.mono hF hw, h3⟩
  | row e k xs =>
    obtain ⟨cs, h1, h2, h3, h4, h5⟩ := h
    refine ⟨cs, ?_, h2, h3, h4, fun i x j y v a b c => (h5 i x j y v a b c).mono hF hw⟩
    rw [hk]
    refine ⟨h1.1, h1.2.imp id ?_⟩
    rintro ⟨g, cap, cur, e1, e2, e3, e4⟩
    exact ⟨g, cap, cur, e1, e2, (hb g (by simp [blk, e1, Value.ownBlock])).trans e3, e4⟩
  | frow e k xs =>
    obtain ⟨h1, h2⟩ := h
    exact ⟨by rw [hk]; exact h1.mono hF hw, by rw [hk]; exact h2⟩
  | vec e xs =>
    obtain ⟨b, vs, c, h1, h2, h3, h4, h5⟩ := h
    refine ⟨b, vs, c, hk.trans h1, (hb b (by simp [blk, h1, Value.ownBlock])).trans h2, h3, h4, fun i p v a b => (h5 i p v a b).mono hF hw fun l' hl' => hl l' ?_⟩
    simp only [AObj.locs]
    exact mem_locss (List.mem_of_getElem? a) hl'
  | dead => trivial

theorem RO.bound {F : Nat → Prop} {κ : Nat → Value} {N : Nat} {w : World} {l : Nat} {o : AObj} (h : RO F κ N w l o) : ∀ l' ∈ o.locs, l' < N := by
  cases o with
  | box e n v => obtain ⟨b, vs, vv, h1, h2, h3, h4, h5, h6⟩ := h; exact h6.bound
  | vec e xs =>
    obtain ⟨b, vs, c, h1, h2, h3, h4, h5⟩ := h
    have aux : RP F κ N w (.tup xs) (.tuple vs.toList.toArray) := .tup (by simpa using h3) (by simpa using h5)
    simpa [AObj.locs, PV.locs] using aux.bound
  | _ => intro l' hl; simp [AObj.locs] at hl

/-- What a step, or a call, from (w, H) to (w', H') may turn; N0: objects below it are the caller's. -/
structure Ev (N0 : Nat) (F : Nat → Prop) (κ : Nat → Value) (w : World) (H : List AObj) (F' : Nat → Prop) (κ' : Nat → Value) (w' : World) (H' : List AObj) : Prop where
  os : w'.os = w.os
  tape : w'.tape = w.tape
  output : w'.output = w.output
  size : w.heap.size ≤ w'.heap.size
  frame : ∀ b, b < w.heap.size → ¬ Own κ H b → w'.heap[b]? = w.heap[b]?
  fm : ∀ b, F b → F' b
  fn : ∀ b, F' b → F b ∨ Own κ H b ∨ w.heap.size ≤ b
  on : ∀ b, Own κ' H' b → Own κ H b ∨ w.heap.size ≤ b
  hl : N0 ≤ H'.length
  kp : ∀ l o, l < N0 → H[l]? = some o → (∀ e k xs, o ≠ .row e k xs) → κ' l = κ l ∧ ∃ o', H'[l]? = some o' ∧ ∀ e k xs, o' ≠ .row e k xs

theorem Ev.refl {N0 : Nat} {F : Nat → Prop} {κ : Nat → Value} {w : World} {H : List AObj} (h : N0 ≤ H.length) : Ev N0 F κ w H F κ w H :=
  ⟨rfl, rfl, rfl, Nat.le_refl _, fun _ _ _ => rfl, fun _ h => h, fun _ h => .inl h, fun _ h => .inl h, h, fun l o _ h1 h2 => ⟨rfl, o, h1, h2⟩⟩

theorem Ev.trans {N0 : Nat} {F F1 F2 : Nat → Prop} {κ κ1 κ2 : Nat → Value} {w w1 w2 : World} {H H1 H2 : List AObj} (a : Ev N0 F κ w H F1 κ1 w1 H1) (b : Ev N0 F1 κ1 w1 H1 F2 κ2 w2 H2) : Ev N0 F κ w H F2 κ2 w2 H2 where
  os := b.os.trans a.os
  tape := b.tape.trans a.tape
  output := b.output.trans a.output
  size := Nat.le_trans a.size b.size
  frame := fun c hc ho => by
    refine (b.frame c (by have := a.size; omega) fun h => ?_).trans (a.frame c hc ho)
    rcases a.on c h with h | h
    · exact ho h
    · omega
  fm := fun c h => b.fm c (a.fm c h)
  fn := fun c h => by
    rcases b.fn c h with h | h | h
    · exact a.fn c h
    · exact (a.on c h).imp id id |>.elim (fun x => .inr (.inl x)) (fun x => .inr (.inr x))
    · exact .inr (.inr (by have := a.size; omega))
  on := fun c h => by
    rcases b.on c h with h | h
    · exact a.on c h
    · exact .inr (by have := a.size; omega)
  hl := b.hl
  kp := fun l o hl h1 h2 => by
    obtain ⟨e1, o1, g1, g2⟩ := a.kp l o hl h1 h2
    obtain ⟨e2, o2, g3, g4⟩ := b.kp l o1 hl g1 g2
    exact ⟨e2.trans e1, o2, g3, g4⟩

/-- A frozen block lives on. -/
theorem Ev.frozen {N0 : Nat} {F F' : Nat → Prop} {κ κ' : Nat → Value} {w w' : World} {H H' : List AObj} (h : Ev N0 F κ w H F' κ' w' H') (s : SI F κ w H) : ∀ b, F b → w'.heap[b]? = w.heap[b]? :=
  fun b hb => h.frame b (s.fl b hb) fun ⟨l, o, h1, h2⟩ => (s.lt l o b h1 h2).2 hb

structure Rel (F : Nat → Prop) (κ : Nat → Value) (st : St) (a : Act) (w : World) : Prop where
  tl : a.tmps.size = st.tmps.length
  tr : ∀ (i : Nat) (p : PV) (v : Value), st.tmps[i]? = some p → a.tmps[i]? = some v → RP F κ st.heap.length w p v
  dn : a.defers = []
  si : SI F κ w st.heap

def upd (κ : Nat → Value) (l : Nat) (v : Value) : Nat → Value := fun i => if i = l then v else κ i
theorem upd_same (κ : Nat → Value) (l : Nat) (v : Value) : upd κ l v l = v := by simp [upd]
theorem upd_other (κ : Nat → Value) {l i : Nat} (v : Value) (h : i ≠ l) : upd κ l v i = κ i := by simp [upd, h]

theorem heap_alloc_old' (w : World) (o : Obj) (b : Nat) (h : b < w.heap.size) : (w.alloc o).heap[b]? = w.heap[b]? := Below.heap_alloc w o b h
theorem heap_alloc_new' (w : World) (o : Obj) : (w.alloc o).heap[w.heap.size]? = some o := by
  show (w.heap.push o)[w.heap.size]? = some o
  simp

theorem blk_upd {κ : Nat → Value} {l i : Nat} {v : Value} {o : AObj} (h : i ≠ l) : blk (upd κ l v) i o = blk κ i o := by
  cases o <;> simp [blk, upd_other κ v h]

/-- A NEW OBJECT at the end: 'w1' has grown by blocks that nobody owned; the object's own block, if it has one, is new. -/
theorem SI.push {F F1 : Nat → Prop} {κ : Nat → Value} {w w1 : World} {H : List AObj} (s : SI F κ w H) (o : AObj) (v : Value)
    (hsz : w.heap.size ≤ w1.heap.size) (hold : ∀ b, b < w.heap.size → w1.heap[b]? = w.heap[b]?) (hF : ∀ b, F b → F1 b) (hF1 : ∀ b, F1 b → F b ∨ w.heap.size ≤ b) (hfl : ∀ b, F1 b → b < w1.heap.size)
    (ho : RO F1 (upd κ H.length v) (H.length + 1) w1 H.length o)
    (hb : ∀ b, blk (upd κ H.length v) H.length o = some b → w.heap.size ≤ b ∧ b < w1.heap.size ∧ ¬ F1 b) : SI F1 (upd κ H.length v) w1 (H ++ [o]) := by
  have hget : ∀ l o', (H ++ [o])[l]? = some o' → (l < H.length ∧ H[l]? = some o') ∨ (l = H.length ∧ o' = o) := by
    intro l o' h
    rcases Nat.lt_or_ge l H.length with h1 | h1
    · rw [List.getElem?_append_left h1] at h; exact .inl ⟨h1, h⟩
    · rw [List.getElem?_append_right h1] at h
      have : l - H.length = 0 := by have := (List.getElem?_eq_some_iff.1 h).1; simp at this; omega
      rw [this] at h
      simp at h
      exact .inr ⟨by omega, h.symm⟩
  have hblk : ∀ l o' b, l < H.length → H[l]? = some o' → blk (upd κ H.length v) l o' = some b → b < w.heap.size ∧ ¬ F1 b := by
    intro l o' b h1 h2 h3
    rw [blk_upd (by omega)] at h3
    obtain ⟨a, c⟩ := s.lt l o' b h2 h3
    exact ⟨a, fun hf => (hF1 b hf).elim c (fun h => by omega)⟩
  refine ⟨fun l o' h => ?_, fun l o' b h1 h2 => ?_, fun l l' o1 o2 b h1 h2 h3 h4 => ?_, hfl⟩
  · rw [List.length_append, List.length_singleton]
    rcases hget l o' h with ⟨h1, h2⟩ | ⟨rfl, rfl⟩
    · refine (s.ro l o' h2).mono hF (fun b hb' => hold b (s.fl b hb')) (fun b hb' => hold b (s.lt l o' b h2 hb').1) (upd_other κ v (by omega)) (fun l' hl' => ?_)
      have := (s.ro l o' h2).bound l' hl'
      exact ⟨upd_other κ v (by omega), by omega⟩
    · exact ho
  · rcases hget l o' h1 with ⟨h3, h4⟩ | ⟨rfl, rfl⟩
    · obtain ⟨a, c⟩ := hblk l o' b h3 h4 h2
      exact ⟨by omega, c⟩
    · exact (hb b h2).2
  · rcases hget l o1 h1 with ⟨a1, a2⟩ | ⟨rfl, rfl⟩ <;> rcases hget l' o2 h2 with ⟨b1, b2⟩ | ⟨rfl, rfl⟩
    · rw [blk_upd (by omega)] at h3 h4
      exact s.ne l l' o1 o2 b a2 b2 h3 h4
    · have := (hblk l o1 b a1 a2 h3).1; have := (hb b h4).1; omega
    · have := (hblk l' o2 b b1 b2 h4).1; have := (hb b h3).1; omega
    · rfl

theorem Own.push {κ : Nat → Value} {H : List AObj} {o : AObj} {v : Value} {b : Nat} (h : Own (upd κ H.length v) (H ++ [o]) b) : Own κ H b ∨ blk (upd κ H.length v) H.length o = some b := by
  obtain ⟨l, o', h1, h2⟩ := h
  rcases Nat.lt_or_ge l H.length with h3 | h3
  · rw [List.getElem?_append_left h3] at h1
    rw [blk_upd (by omega)] at h2
    exact .inl ⟨l, o', h1, h2⟩
  · rw [List.getElem?_append_right h3] at h1
    have : l - H.length = 0 := by have := (List.getElem?_eq_some_iff.1 h1).1; simp at this; omega
    rw [this] at h1
    simp at h1
    obtain rfl : l = H.length := by omega
    subst h1
    exact .inr h2

/-- Slots live on beside a new object. -/
theorem RP.push {F F1 : Nat → Prop} {κ : Nat → Value} {w w1 : World} {H : List AObj} (s : SI F κ w H) (v0 : Value) (hold : ∀ b, b < w.heap.size → w1.heap[b]? = w.heap[b]?) (hF : ∀ b, F b → F1 b)
    {p : PV} {v : Value} (h : RP F κ H.length w p v) : RP F1 (upd κ H.length v0) (H.length + 1) w1 p v :=
  h.mono hF (fun b hb => hold b (s.fl b hb)) fun l hl => by
    have := h.bound l hl
    exact ⟨upd_other κ v0 (by omega), by omega⟩

end Go.Sim
