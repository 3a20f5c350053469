/- What trees, slot values and objects say of a world; what lets them live on. -/
import Derived.Test.YtmidmdabmalhgaaC4
namespace Go.Sim
open Go.RowKit
set_option linter.unusedVariables false

inductive Rd (F : Nat → Prop) (w : World) : T → Value → Prop
  | int {k : IntKind} {n : Int} (h : kindOk k n = true) : Rd F w (.int k n) (.int k n)
  | bool {b : Bool} : Rd F w (.bool b) (.bool b)
  | str {s : ByteArray} (h : s.size ≤ big) : Rd F w (.str s) (.string s)
  | nilp : Rd F w .nilp (.pointer none)
  | nilfn : Rd F w .nilfn .nilFunc
  | nilif : Rd F w .nilif .nilIface
  | ref {x : T} {b o : Nat} (val : Nat → Value) (hF : F b) (hs : x.cells.length = 1 → x.isAgg = false) (h1 : ∀ j, j < x.cells.length → (val j).oneCell' = true)
      (hc : ∀ j, j < x.cells.length → w.cell? ⟨b, o + j, none⟩ = some (val j)) (hr : ∀ j y, x.cells[j]? = some y → Rd F w y (val j)) : Rd F w (.ref x) (.pointer (some ⟨b, o, none⟩))
  | sl {k : Nat} {xs : List T} {A : Option Addr} {c : Nat} (b o : Nat) (val : Nat → Nat → Value) (hn : xs.length ≤ c) (hb : xs.length ≤ big)
      (hk : ∀ x ∈ xs, x.cells.length = k ∧ (k = 1 → x.isAgg = false)) (hA : 0 < xs.length → A = some ⟨b, o, none⟩ ∧ F b)
      (h1 : ∀ i j, i < xs.length → j < k → (val i j).oneCell' = true)
      (hc : ∀ i j, i < xs.length → j < k → w.cell? ⟨b, o + i * k + j, none⟩ = some (val i j))
      (hr : ∀ i x j y, xs[i]? = some x → x.cells[j]? = some y → Rd F w y (val i j)) : Rd F w (.sl k xs) (.slice A xs.length c)
  | agg {cs : List T} {vs : List Value} (hl : vs.length = cs.length) (h1 : ∀ v ∈ vs, v.oneCell' = true) (hr : ∀ (i : Nat) (x : T) (v : Value), cs[i]? = some x → vs[i]? = some v → Rd F w x v) : Rd F w (.agg cs) (.agg vs.toArray)
  | tup {cs : List T} {vs : List Value} (hl : vs.length = cs.length) (hr : ∀ (i : Nat) (x : T) (v : Value), cs[i]? = some x → vs[i]? = some v → Rd F w x v) : Rd F w (.tup cs) (.tuple vs.toArray)
  | fn {f : FuncId} {fs cs : List T} {vf vc : List Value} (hlf : vf.length = fs.length) (hlc : vc.length = cs.length)
      (hrf : ∀ (i : Nat) (x : T) (v : Value), fs[i]? = some x → vf[i]? = some v → Rd F w x v) (hrc : ∀ (i : Nat) (x : T) (v : Value), cs[i]? = some x → vc[i]? = some v → Rd F w x v) :
      Rd F w (.fn f fs cs) (.func (.func f) vf.toArray vc.toArray)
  | iface {t : TypeId} {x : T} {v : Value} (h : Rd F w x v) : Rd F w (.iface t x) (.iface t v)

theorem cell_same {w w' : World} {b o : Nat} (h : w'.heap[b]? = w.heap[b]?) : w'.cell? ⟨b, o, none⟩ = w.cell? ⟨b, o, none⟩ := World.cell?_of_block (a := ⟨b, o, none⟩) h

theorem Rd.mono {F F' : Nat → Prop} {w w' : World} (hF : ∀ b, F b → F' b) (hw : ∀ b, F b → w'.heap[b]? = w.heap[b]?) {x : T} {v : Value} (h : Rd F w x v) : Rd F' w' x v := by
  induction h with
  | int h => exact .int h
  | bool => exact .bool
  | str h => exact .str h
  | nilp => exact .nilp
  | nilfn => exact .nilfn
  | nilif => exact .nilif
  | ref val hFb hs h1 hc _ ih => exact .ref val (hF _ hFb) hs h1 (fun j hj => (cell_same (hw _ hFb)).trans (hc j hj)) ih
  | @sl k xs A c b o val hn hb hk hA h1 hc _ ih =>
    refine .sl b o val hn hb hk (fun h => ⟨(hA h).1, hF _ (hA h).2⟩) h1 (fun i j hi hj => ?_) ih
    exact (cell_same (hw _ (hA (by omega)).2)).trans (hc i j hi hj)
  | agg hl h1 _ ih => exact .agg hl h1 ih
  | tup hl _ ih => exact .tup hl ih
  | fn h1 h2 _ _ i1 i2 => exact .fn h1 h2 i1 i2
  | iface _ ih => exact .iface ih

/-- A tree that leads to no memory is the same in every world. -/
theorem Rd.scalar {F F' : Nat → Prop} {w w' : World} {x : T} {v : Value} (hx : x.scalar = true) (h : Rd F w x v) : Rd F' w' x v := by
  cases h <;> simp [T.scalar] at hx <;> constructor <;> assumption
theorem Rd.plain {F F' : Nat → Prop} {w w' : World} {x : T} {v : Value} (hx : x.plain = true) (h : Rd F w x v) : Rd F' w' x v := by
  cases h with
  | agg hl h1 hr =>
    simp only [T.plain, List.all_eq_true] at hx
    exact .agg hl h1 fun i x v h1 h2 => (hr i x v h1 h2).scalar (hx x (List.mem_of_getElem? h1))
  | tup hl hr =>
    simp only [T.plain, List.all_eq_true] at hx
    exact .tup hl fun i x v h1 h2 => (hr i x v h1 h2).scalar (hx x (List.mem_of_getElem? h1))
  | int h => exact .int h
  | bool => exact .bool
  | str h => exact .str h
  | nilp => exact .nilp
  | nilfn => exact .nilfn
  | nilif => exact .nilif
  | ref => simp [T.plain, T.scalar] at hx
  | sl => simp [T.plain, T.scalar] at hx
  | fn => simp [T.plain, T.scalar] at hx
  | iface => simp [T.plain, T.scalar] at hx

theorem Rd.wf {F : Nat → Prop} {w : World} {x : T} {v : Value} (h : Rd F w x v) : x.wf = true := by
  induction h with
  | int h => simpa [T.wf] using h
  | bool | nilp | nilfn | nilif => simp [T.wf]
  | str h => simpa [T.wf] using h
  | @ref x b o val hFb hs h1 hc hr ih =>
    simp only [T.wf]
    cases x with
    | agg cs =>
      simp only [T.wf, T.wfs_iff]
      intro y hy
      obtain ⟨j, hj⟩ := List.getElem?_of_mem hy
      exact ih j y hj
    | _ => exact ih 0 _ rfl
  | @sl k xs A c b o val hn hb hk hA h1 hc hr ih =>
    simp only [T.wf, Bool.and_eq_true, decide_eq_true_eq, T.wfs_iff]
    refine ⟨hb, fun x hx => ?_⟩
    obtain ⟨i, hi⟩ := List.getElem?_of_mem hx
    cases x with
    | agg cs =>
      simp only [T.wf, T.wfs_iff]
      intro y hy
      obtain ⟨j, hj⟩ := List.getElem?_of_mem hy
      exact ih i _ j y hi hj
    | _ => exact ih i _ 0 _ hi rfl
  | @agg cs vs hl h1 hr ih =>
    simp only [T.wf, T.wfs_iff]
    intro y hy
    obtain ⟨j, hj⟩ := List.getElem?_of_mem hy
    have hlt : j < vs.length := by rw [hl]; exact (List.getElem?_eq_some_iff.1 hj).1
    exact ih j y vs[j] hj (List.getElem?_eq_getElem hlt)
  | @tup cs vs hl hr ih =>
    simp only [T.wf, T.wfs_iff]
    intro y hy
    obtain ⟨j, hj⟩ := List.getElem?_of_mem hy
    have hlt : j < vs.length := by rw [hl]; exact (List.getElem?_eq_some_iff.1 hj).1
    exact ih j y vs[j] hj (List.getElem?_eq_getElem hlt)
  | @fn f fs cs vf vc h1 h2 r1 r2 i1 i2 =>
    simp only [T.wf, Bool.and_eq_true, T.wfs_iff]
    constructor
    · intro y hy
      obtain ⟨j, hj⟩ := List.getElem?_of_mem hy
      have hlt : j < vf.length := by rw [h1]; exact (List.getElem?_eq_some_iff.1 hj).1
      exact i1 j y vf[j] hj (List.getElem?_eq_getElem hlt)
    · intro y hy
      obtain ⟨j, hj⟩ := List.getElem?_of_mem hy
      have hlt : j < vc.length := by rw [h2]; exact (List.getElem?_eq_some_iff.1 hj).1
      exact i2 j y vc[j] hj (List.getElem?_eq_getElem hlt)
  | iface _ ih => simpa [T.wf] using ih

/-- The value of a part of a row whose own value is r. -/
def ViewV (r v : Value) (k lo hi : Nat) : Prop := ∃ A n c A', (r = .slice A n c ∧ n ≤ big) ∧ v = .slice A' (hi - lo) (c - lo) ∧ lo ≤ hi ∧ hi ≤ n ∧ ((A = none ∧ A' = none) ∨ ∃ b o, A = some ⟨b, 0, none⟩ ∧ A' = some ⟨b, o, none⟩ ∧ (lo < c ∨ lo = 0 → o = lo * k))

inductive RP (F : Nat → Prop) (κ : Nat → Value) (N : Nat) (w : World) : PV → Value → Prop
  | t {x : T} {v : Value} (h : Rd F w x v) : RP F κ N w (.t x) v
  | nil {e : TypeId} {k : Nat} : RP F κ N w (.nil e k) (.slice none 0 0)
  | agg {cs : List PV} {vs : List Value} (hl : vs.length = cs.length) (h1 : ∀ v ∈ vs, v.oneCell' = true) (hr : ∀ (i : Nat) (p : PV) (v : Value), cs[i]? = some p → vs[i]? = some v → RP F κ N w p v) : RP F κ N w (.agg cs) (.agg vs.toArray)
  | tup {cs : List PV} {vs : List Value} (hl : vs.length = cs.length) (hr : ∀ (i : Nat) (p : PV) (v : Value), cs[i]? = some p → vs[i]? = some v → RP F κ N w p v) : RP F κ N w (.tup cs) (.tuple vs.toArray)
  | fn {f : FuncId} {fs cs : List PV} {vf vc : List Value} (hlf : vf.length = fs.length) (hlc : vc.length = cs.length)
      (hrf : ∀ (i : Nat) (p : PV) (v : Value), fs[i]? = some p → vf[i]? = some v → RP F κ N w p v) (hrc : ∀ (i : Nat) (p : PV) (v : Value), cs[i]? = some p → vc[i]? = some v → RP F κ N w p v) :
      RP F κ N w (.fn f fs cs) (.func (.func f) vf.toArray vc.toArray)
  | ptr {l o b : Nat} (hN : l < N) (h : κ l = .pointer (some ⟨b, 0, none⟩)) : RP F κ N w (.ptr l o) (.pointer (some ⟨b, o, none⟩))
  | own {l : Nat} {A : Option Addr} {n c : Nat} (hN : l < N) (h : κ l = .slice A n c) : RP F κ N w (.own l) (.slice A n c)
  | eptr {l k i o b n c : Nat} (hN : l < N) (h : κ l = .slice (some ⟨b, 0, none⟩) n c) (hi : i < n) : RP F κ N w (.eptr l k i o) (.pointer (some ⟨b, i * k + o, none⟩))
  | view {l k lo hi : Nat} {A : Option Addr} {n c : Nat} (hN : l < N) (h : ViewV (κ l) (.slice A n c) k lo hi) : RP F κ N w (.view l k lo hi) (.slice A n c)
  | full {k : Nat} {xs : List T} {A : Option Addr} (h : Rd F w (.sl k xs) (.slice A xs.length xs.length)) : RP F κ N w (.full k xs) (.slice A xs.length xs.length)
  | rp {k : Nat} {x : T} {o b p : Nat} (val : Nat → Value) (hF : F b) (hk : x.cells.length = k) (hs : k = 1 → x.isAgg = false) (h1 : ∀ j, j < k → (val j).oneCell' = true)
      (hc : ∀ j, j < k → w.cell? ⟨b, p + j, none⟩ = some (val j)) (hr : ∀ j y, x.cells[j]? = some y → Rd F w y (val j)) : RP F κ N w (.rp k x o) (.pointer (some ⟨b, p + o, none⟩))
  | junk {v : Value} : RP F κ N w .junk v

mutual
theorem PV.locs_kill_sub (p : Nat → Bool) : ∀ q : PV, ∀ l ∈ (q.kill p).locs, l ∈ q.locs
  | .own l' => by intro l h; simp only [PV.kill] at h; cases hp : p l' <;> simp [hp, PV.locs] at h ⊢; exact h
  | .eptr l' _ _ _ => by intro l h; simp only [PV.kill] at h; cases hp : p l' <;> simp [hp, PV.locs] at h ⊢; exact h
  | .view l' _ _ _ => by intro l h; simp only [PV.kill] at h; cases hp : p l' <;> simp [hp, PV.locs] at h ⊢; exact h
  | .agg cs => by intro l h; simp only [PV.kill, PV.locs] at h ⊢; exact PV.locss_kills_sub p cs l h
  | .tup cs => by intro l h; simp only [PV.kill, PV.locs] at h ⊢; exact PV.locss_kills_sub p cs l h
  | .fn f fs cs => by
    intro l h
    simp only [PV.kill, PV.locs, List.mem_append] at h ⊢
    exact h.imp (PV.locss_kills_sub p fs l) (PV.locss_kills_sub p cs l)
  | .t _ | .nil _ _ | .ptr _ _ | .full _ _ | .rp _ _ _ | .junk => by intro l h; simpa [PV.kill] using h
theorem PV.locss_kills_sub (p : Nat → Bool) : ∀ qs : List PV, ∀ l ∈ PV.locss (PV.kills p qs), l ∈ PV.locss qs
  | [] => by intro l h; simpa [PV.kills] using h
  | q :: r => by
    intro l h
    simp only [PV.kills, PV.locss, List.mem_append] at h ⊢
    exact h.imp (PV.locs_kill_sub p q l) (PV.locss_kills_sub p r l)
end

theorem mem_locss {q : PV} {qs : List PV} {l : Nat} (hq : q ∈ qs) (hl : l ∈ q.locs) : l ∈ PV.locss qs := by
  induction qs with
  | nil => cases hq
  | cons a r ih =>
    simp only [PV.locss, List.mem_append]
    rcases List.mem_cons.1 hq with rfl | h
    · exact .inl hl
    · exact .inr (ih h)
theorem mem_rowss {q : PV} {qs : List PV} {l : Nat} (hq : q ∈ qs) (hl : l ∈ q.rows) : l ∈ PV.rowss qs := by
  induction qs with
  | nil => cases hq
  | cons a r ih =>
    simp only [PV.rowss, List.mem_append]
    rcases List.mem_cons.1 hq with rfl | h
    · exact .inl hl
    · exact .inr (ih h)

theorem RP.bound {F : Nat → Prop} {κ : Nat → Value} {N : Nat} {w : World} {p : PV} {v : Value} (h : RP F κ N w p v) : ∀ l ∈ p.locs, l < N := by
  have aux : ∀ (cs : List PV) (vs : List Value), vs.length = cs.length → (∀ (i : Nat) (p : PV) (v : Value), cs[i]? = some p → vs[i]? = some v → ∀ l ∈ p.locs, l < N) → ∀ l ∈ PV.locss cs, l < N := by
    intro cs
    induction cs with
    | nil => intro vs _ _ l hl; simp [PV.locss] at hl
    | cons p r ih =>
      intro vs hl hr l hm
      cases vs with
      | nil => simp at hl
      | cons v vs =>
        simp only [PV.locss, List.mem_append] at hm
        rcases hm with hm | hm
        · exact hr 0 p v rfl rfl l hm
        · exact ih vs (by simpa using hl) (fun i p v h1 h2 => hr (i + 1) p v (by simpa using h1) (by simpa using h2)) l hm
  induction h with
  | agg hl _ _ ih => intro l hm; exact aux _ _ hl ih l (by simpa [PV.locs] using hm)
  | tup hl _ ih => intro l hm; exact aux _ _ hl ih l (by simpa [PV.locs] using hm)
  | fn h1 h2 _ _ i1 i2 =>
    intro l hm
    simp only [PV.locs, List.mem_append] at hm
    exact hm.elim (aux _ _ h1 i1 l) (aux _ _ h2 i2 l)
  | ptr hN _ => intro l hm; simp [PV.locs] at hm; omega
  | own hN _ => intro l hm; simp [PV.locs] at hm; omega
  | eptr hN _ _ => intro l hm; simp [PV.locs] at hm; omega
  | view hN _ => intro l hm; simp [PV.locs] at hm; omega
  | _ => intro l hm; simp [PV.locs] at hm

/-- A slot's value lives on where what it names is where it was. -/
theorem RP.mono {F F' : Nat → Prop} {κ κ' : Nat → Value} {N N' : Nat} {w w' : World} (hF : ∀ b, F b → F' b) (hw : ∀ b, F b → w'.heap[b]? = w.heap[b]?) {p : PV} {v : Value} (h : RP F κ N w p v) :
    (∀ l ∈ p.locs, κ' l = κ l ∧ l < N') → RP F' κ' N' w' p v := by
  induction h with
  | t h => exact fun _ => .t (h.mono hF hw)
  | nil => exact fun _ => .nil
  | agg hl h1 _ ih => exact fun hk => .agg hl h1 fun i p v h1 h2 => ih i p v h1 h2 fun l hl => hk l (mem_locss (List.mem_of_getElem? h1) hl)
  | tup hl _ ih => exact fun hk => .tup hl fun i p v h1 h2 => ih i p v h1 h2 fun l hl => hk l (mem_locss (List.mem_of_getElem? h1) hl)
  | fn h1 h2 _ _ i1 i2 =>
    refine fun hk => .fn h1 h2 (fun i p v a b => i1 i p v a b fun l hl => hk l ?_) (fun i p v a b => i2 i p v a b fun l hl => hk l ?_)
    · simp only [PV.locs, List.mem_append]; exact .inl (mem_locss (List.mem_of_getElem? a) hl)
    · simp only [PV.locs, List.mem_append]; exact .inr (mem_locss (List.mem_of_getElem? a) hl)
  | ptr _ h => exact fun hk => .ptr (hk _ (by simp [PV.locs])).2 ((hk _ (by simp [PV.locs])).1.trans h)
  | own _ h => exact fun hk => .own (hk _ (by simp [PV.locs])).2 ((hk _ (by simp [PV.locs])).1.trans h)
  | eptr _ h hi => exact fun hk => .eptr (hk _ (by simp [PV.locs])).2 ((hk _ (by simp [PV.locs])).1.trans h) hi
  | view _ h => exact fun hk => .view (hk _ (by simp [PV.locs])).2 (by rw [(hk _ (by simp [PV.locs])).1]; exact h)
  | full h => exact fun _ => .full (h.mono hF hw)
  | rp val hFb hk hs h1 hc hr => exact fun _ => .rp val (hF _ hFb) hk hs h1 (fun j hj => (cell_same (hw _ hFb)).trans (hc j hj)) fun j y hy => (hr j y hy).mono hF hw
  | junk => exact fun _ => .junk

end Go.Sim
