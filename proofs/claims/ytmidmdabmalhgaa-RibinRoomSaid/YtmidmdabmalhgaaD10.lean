/- append. -/
import Derived.Test.YtmidmdabmalhgaaD9
namespace Go.Sim
open Go.RowKit
set_option linter.unusedVariables false
set_option linter.unusedSimpArgs false

theorem kills_get (f : Nat → Bool) : ∀ (qs : List PV) (i : Nat), (PV.kills f qs)[i]? = (qs[i]?).map (PV.kill f)
  | [], i => by simp [PV.kills]
  | q :: r, 0 => by simp [PV.kills]
  | q :: r, i + 1 => by simpa [PV.kills] using kills_get f r i
theorem kills_length (f : Nat → Bool) : ∀ (qs : List PV), (PV.kills f qs).length = qs.length
  | [] => rfl
  | q :: r => by simp [PV.kills, kills_length f r]

/-- Behind a killing, slots say nothing of what was killed. -/
theorem RP.kill {F F' : Nat → Prop} {κ κ' : Nat → Value} {N N' : Nat} {w w' : World} (f : Nat → Bool) (hF : ∀ b, F b → F' b) (hw : ∀ b, F b → w'.heap[b]? = w.heap[b]?) (hN : N ≤ N')
    (hκ : ∀ l, l < N → κ' l ≠ κ l → f l = true ∧ ∃ A n c, κ l = .slice A n c) {p : PV} {v : Value} (h : RP F κ N w p v) : RP F' κ' N' w' (p.kill f) v := by
  induction h with
  | t h => exact .t (h.mono hF hw)
  | nil => exact .nil
  | @agg cs vs hl h1 hr ih =>
    simp only [PV.kill]
    refine .agg (by rw [kills_length]; exact hl) h1 fun i p v a b => ?_
    rw [kills_get, Option.map_eq_some_iff] at a
    obtain ⟨q, a, rfl⟩ := a
    exact ih i q v a b
  | @tup cs vs hl hr ih =>
    simp only [PV.kill]
    refine .tup (by rw [kills_length]; exact hl) fun i p v a b => ?_
    rw [kills_get, Option.map_eq_some_iff] at a
    obtain ⟨q, a, rfl⟩ := a
    exact ih i q v a b
  | @fn g fs cs vf vc h1 h2 r1 r2 i1 i2 =>
    simp only [PV.kill]
    refine .fn (by rw [kills_length]; exact h1) (by rw [kills_length]; exact h2) (fun i p v a b => ?_) (fun i p v a b => ?_)
    · rw [kills_get, Option.map_eq_some_iff] at a
      obtain ⟨q, a, rfl⟩ := a
      exact i1 i q v a b
    · rw [kills_get, Option.map_eq_some_iff] at a
      obtain ⟨q, a, rfl⟩ := a
      exact i2 i q v a b
  | @ptr l o b hl h =>
    simp only [PV.kill]
    refine .ptr (by omega) ?_
    by_cases e : κ' l = κ l
    · rw [e, h]
    · obtain ⟨_, A, n, c, h2⟩ := hκ l hl e
      rw [h] at h2
      cases h2
  | @own l A n c hl h =>
    simp only [PV.kill]
    cases hf : f l with
    | true => exact .junk
    | false =>
      refine .own (by omega) ?_
      by_cases e : κ' l = κ l
      · rw [e, h]
      · have := (hκ l hl e).1; rw [hf] at this; cases this
  | @eptr l k i o b n c hl h hi =>
    simp only [PV.kill]
    cases hf : f l with
    | true => exact .junk
    | false =>
      refine .eptr (n := n) (c := c) (by omega) ?_ hi
      by_cases e : κ' l = κ l
      · rw [e, h]
      · have := (hκ l hl e).1; rw [hf] at this; cases this
  | @view l k lo hi A n c hl h =>
    simp only [PV.kill]
    cases hf : f l with
    | true => exact .junk
    | false =>
      refine .view (by omega) ?_
      by_cases e : κ' l = κ l
      · rw [e]; exact h
      · have := (hκ l hl e).1; rw [hf] at this; cases this
  | full h => exact .full (h.mono hF hw)
  | rp val hFb hk hs h1 hc hr => exact .rp val (hF _ hFb) hk hs h1 (fun j hj => (cell_same (hw _ hFb)).trans (hc j hj)) fun j y hy => (hr j y hy).mono hF hw
  | junk => exact .junk

/-- The same for an object. -/
theorem RO.kill {F F' : Nat → Prop} {κ κ' : Nat → Value} {N N' : Nat} {w w' : World} (f : Nat → Bool) (hF : ∀ b, F b → F' b) (hw : ∀ b, F b → w'.heap[b]? = w.heap[b]?) (hN : N ≤ N')
    (hκ : ∀ l, l < N → κ' l ≠ κ l → f l = true ∧ ∃ A n c, κ l = .slice A n c) {l : Nat} {o : AObj} (h : RO F κ N w l o) (hb : ∀ b, blk κ l o = some b → w'.heap[b]? = w.heap[b]?) (hk : κ' l = κ l) : RO F' κ' N' w' l (o.kill f) := by
  cases o with
  | box e n v =>
    obtain ⟨b, vs, vv, h1, h2, h3, h4, h5, h6⟩ := h
    exact ⟨b, vs, vv, hk.trans h1, (hb b (by simp [blk, h1, ptrBlock])).trans h2, h3, h4, h5, h6.kill f hF hw hN hκ⟩
  | vec e xs =>
    obtain ⟨b, vs, c, h1, h2, h3, h4, h5⟩ := h
    refine ⟨b, vs, c, by rw [kills_length]; exact hk.trans h1, (hb b (by simp [blk, h1, Value.ownBlock])).trans h2, by rw [kills_length]; exact h3, h4, fun i p v a d => ?_⟩
    rw [kills_get, Option.map_eq_some_iff] at a
    obtain ⟨q, a, rfl⟩ := a
    exact (h5 i q v a d).kill f hF hw hN hκ
  | _ => exact h.mono hF hw hb hk (fun l' hl' => by simp [AObj.locs] at hl')

theorem blk_kill (f : Nat → Bool) (κ : Nat → Value) (l : Nat) (o : AObj) : blk κ l (o.kill f) = blk κ l o := by cases o <;> rfl
theorem kill_row (f : Nat → Bool) {o : AObj} {e k : Nat} {xs : List T} (h : o.kill f = .row e k xs) : o = .row e k xs := by cases o <;> simp_all [AObj.kill]

section
variable {F : Nat → Prop} {κ : Nat → Value} {w w' : World} {H : List AObj}

/-- A row that has been written on: its value is v' now, in the world w'. -/
theorem SI.rowTurn (s : SI F κ w H) {l : Nat} {e k : Nat} {xs xs' : List T} {e' k' : Nat} (h : H[l]? = some (.row e k xs)) (v' : Value) (hg : w.grownBy w' (κ l).ownBlock)
    (hat : v'.ownBlock = (κ l).ownBlock ∨ ∃ b, v'.ownBlock = some b ∧ w.heap.size ≤ b) (hvb : ∀ b, v'.ownBlock = some b → b < w'.heap.size)
    (hro : RO F (upd κ l v') H.length w' l (.row e' k' xs')) (N0 : Nat) (hN0 : N0 ≤ H.length) :
    SI F (upd κ l v') w' ((H.map (AObj.kill (· == l))).set l (.row e' k' xs')) ∧ Ev N0 F κ w H F (upd κ l v') w' ((H.map (AObj.kill (· == l))).set l (.row e' k' xs')) ∧ (∀ b, F b → w'.heap[b]? = w.heap[b]?) ∧
      (∀ i, i < H.length → upd κ l v' i ≠ κ i → (i == l) = true ∧ ∃ A n c, κ i = .slice A n c) := by
  have hl : l < H.length := (List.getElem?_eq_some_iff.1 h).1
  have hFb : ∀ b, F b → w'.heap[b]? = w.heap[b]? := fun b hb => hg.block b (s.fl b hb) fun e => (s.lt l _ b h (by simpa [blk] using e.symm)).2 hb
  have hκ : ∀ i, i < H.length → upd κ l v' i ≠ κ i → (i == l) = true ∧ ∃ A n c, κ i = .slice A n c := by
    intro i hi hne
    by_cases e : i = l
    · subst e
      obtain ⟨A, c, h1, _⟩ := row_len (s.ro i _ h)
      exact ⟨by simp, A, _, c, h1⟩
    · exact absurd (upd_other κ v' e) hne
  have hlen : ((H.map (AObj.kill (· == l))).set l (.row e' k' xs')).length = H.length := by simp
  have hget : ∀ i o, ((H.map (AObj.kill (· == l))).set l (AObj.row e' k' xs'))[i]? = some o → (i = l ∧ o = .row e' k' xs') ∨ (i ≠ l ∧ ∃ o0, H[i]? = some o0 ∧ o = o0.kill (· == l)) := by
    intro i o ho
    rcases set_get (by simpa using hl) ho with h1 | ⟨h1, h2⟩
    · exact .inl h1
    · rw [List.getElem?_map, Option.map_eq_some_iff] at h2
      obtain ⟨o0, h2, rfl⟩ := h2
      exact .inr ⟨h1, o0, h2, rfl⟩
  have hother : ∀ i o0 b, i ≠ l → H[i]? = some o0 → blk κ i o0 = some b → w'.heap[b]? = w.heap[b]? := fun i o0 b h1 h2 h3 =>
    hg.block b (s.lt i o0 b h2 h3).1 fun e => h1 (s.ne i l o0 _ b h2 h h3 (by simpa [blk] using e.symm))
  have hblkl : blk (upd κ l v') l (.row e' k' xs') = v'.ownBlock := by simp [blk, upd_same]
  refine ⟨⟨fun i o hi => ?_, fun i o b hi hb => ?_, fun i j o o' b hi hj hb hb' => ?_, fun b hb => Nat.lt_of_lt_of_le (s.fl b hb) hg.size⟩, ⟨hg.os, hg.tape, hg.output, hg.size, fun b hb hno => hg.block b hb fun e => hno ⟨l, _, h, by simpa [blk] using e.symm⟩,
    fun b hb => hb, fun b hb => .inl hb, ?_, by rw [hlen]; exact hN0, fun i o hi h1 h2 => ?_⟩, hFb, hκ⟩
  · rw [hlen]
    rcases hget i o hi with ⟨rfl, rfl⟩ | ⟨hne, o0, h1, rfl⟩
    · exact hro
    · exact (s.ro i o0 h1).kill _ (fun b hb => hb) hFb (Nat.le_refl _) hκ (fun b hb => hother i o0 b hne h1 hb) (upd_other κ v' hne)
  · rcases hget i o hi with ⟨rfl, rfl⟩ | ⟨hne, o0, h1, rfl⟩
    · rw [hblkl] at hb
      refine ⟨hvb b hb, fun hf => ?_⟩
      rcases hat with hat | ⟨b', h1, h2⟩
      · exact (s.lt i _ b h (by simpa [blk, ← hat] using hb)).2 hf
      · rw [hb] at h1; injection h1 with h1; have := s.fl b hf; omega
    · rw [blk_kill, blk_upd hne] at hb
      exact ⟨Nat.lt_of_lt_of_le (s.lt i o0 b h1 hb).1 hg.size, (s.lt i o0 b h1 hb).2⟩
  · have cross : ∀ i o0, i ≠ l → H[i]? = some o0 → blk (upd κ l v') i (o0.kill (· == l)) = some b → v'.ownBlock = some b → False := by
      intro i o0 hne h1 h2 h3
      rw [blk_kill, blk_upd hne] at h2
      rcases hat with hat | ⟨b', h4, h5⟩
      · exact hne (s.ne i l o0 _ b h1 h h2 (by simpa [blk, ← hat] using h3))
      · rw [h3] at h4; injection h4 with h4; have := (s.lt i o0 b h1 h2).1; omega
    rcases hget i o hi with ⟨rfl, rfl⟩ | ⟨hne, o0, h1, rfl⟩ <;> rcases hget j o' hj with ⟨rfl, rfl⟩ | ⟨hne', o0', h1', rfl⟩
    · rfl
    · rw [hblkl] at hb; exact (cross j o0' hne' h1' hb' hb).elim
    · rw [hblkl] at hb'; exact (cross i o0 hne h1 hb hb').elim
    · rw [blk_kill, blk_upd hne] at hb
      rw [blk_kill, blk_upd hne'] at hb'
      exact s.ne i j o0 o0' b h1 h1' hb hb'
  · rintro b ⟨i, o, hi, hb⟩
    rcases hget i o hi with ⟨rfl, rfl⟩ | ⟨hne, o0, h1, rfl⟩
    · rw [hblkl] at hb
      rcases hat with hat | ⟨b', h1, h2⟩
      · exact .inl ⟨i, _, h, by simpa [blk, ← hat] using hb⟩
      · rw [hb] at h1; injection h1 with h1; exact .inr (by omega)
    · rw [blk_kill, blk_upd hne] at hb
      exact .inl ⟨i, o0, h1, hb⟩
  · have hne : i ≠ l := by rintro rfl; rw [h] at h1; injection h1 with h1; exact h2 e k xs h1.symm
    refine ⟨upd_other κ v' hne, o.kill (· == l), ?_, fun e k xs he => h2 e k xs (kill_row _ he)⟩
    rw [List.getElem?_set_ne (fun e => hne e.symm), List.getElem?_map, h1]; rfl

/-- The cells of a slice that is read, as one list. -/
theorem SlV.news {k : Nat} {ys : List T} {p : PV} {v : Value} (h : SlV F κ w H (k + 1) ys p v) :
    ∃ (A : Option Addr) (c : Nat) (news : List Value), v = .slice A ys.length c ∧ news.length = ys.length * (k + 1) ∧ (∀ u ∈ news, u.oneCell' = true) ∧ (∀ x ∈ ys, x.cells.length = k + 1 ∧ (k + 1 = 1 → x.isAgg = false)) ∧ ys.length ≤ big ∧
      ((A = none ∧ ys = []) ∨ ∃ (ad : Addr), A = some ad ∧ ∀ (j : Nat) (u : Value), news[j]? = some u → w.cell? (ad.add j) = some u) ∧
      (∀ (i : Nat) (x : T) (j : Nat) (y : T) (u : Value), ys[i]? = some x → x.cells[j]? = some y → news[i * (k + 1) + j]? = some u → Rd F w y u) := by
  obtain ⟨A, n, c, rfl, rfl, h3, h4, h5, b, o, val, h6, h7, h8, h9⟩ := h
  have hq : ∀ q, q < ys.length * (k + 1) → q / (k + 1) < ys.length := fun q hq => by rw [Nat.div_lt_iff_lt_mul (by omega)]; exact hq
  refine ⟨A, c, (List.range (ys.length * (k + 1))).map fun q => val (q / (k + 1)) (q % (k + 1)), rfl, by simp, fun u hu => ?_, h5, h4, ?_, fun i x j y u hx hy hu => ?_⟩
  · simp only [List.mem_map, List.mem_range] at hu
    obtain ⟨q, hq', rfl⟩ := hu
    exact h7 _ _ (hq q hq') (Nat.mod_lt _ (by omega))
  · rcases Nat.eq_zero_or_pos ys.length with e | e
    · cases A with
      | none => exact .inl ⟨rfl, List.eq_nil_of_length_eq_zero e⟩
      | some ad => exact .inr ⟨ad, rfl, fun j u hu => by simp [e] at hu⟩
    · obtain ⟨a1, _⟩ := h6 e
      refine .inr ⟨_, a1, fun j u hu => ?_⟩
      have hj : j < ys.length * (k + 1) := by have := (List.getElem?_eq_some_iff.1 hu).1; simpa using this
      rw [List.getElem?_map, List.getElem?_range hj] at hu
      simp only [Option.map_some, Option.some.injEq] at hu
      subst hu
      rw [add_mid]
      have := h8 (j / (k + 1)) (j % (k + 1)) (hq j hj) (Nat.mod_lt _ (by omega))
      rwa [Nat.add_assoc, Nat.div_add_mod'] at this
  · have hi : i < ys.length := (List.getElem?_eq_some_iff.1 hx).1
    have hj : j < k + 1 := by rw [← (h5 x (List.mem_of_getElem? hx)).1]; exact (List.getElem?_eq_some_iff.1 hy).1
    have hlt : i * (k + 1) + j < ys.length * (k + 1) := by
      calc i * (k + 1) + j < i * (k + 1) + (k + 1) := by omega
        _ = (i + 1) * (k + 1) := by rw [Nat.succ_mul]
        _ ≤ ys.length * (k + 1) := Nat.mul_le_mul_right _ hi
    rw [List.getElem?_map, List.getElem?_range hlt] at hu
    simp only [Option.map_some, Option.some.injEq] at hu
    subst hu
    rw [Nat.mul_comm i, Nat.mul_add_div (by omega), Nat.mul_add_mod, Nat.div_eq_of_lt hj, Nat.mod_eq_of_lt hj, Nat.add_zero]
    exact h9 i x j y hx hy
end
end Go.Sim
