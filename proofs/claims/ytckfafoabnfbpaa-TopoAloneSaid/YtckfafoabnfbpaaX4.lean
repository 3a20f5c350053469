/- The texts of a proof, one behind the other: an interpreter and its soundness, what the functions of the program answer, and plain laws on that. -/
import Derived.Test.YtckfafoabnfbpaaX1
import Derived.Test.YtckfafoabnfbpaaX2
import Derived.Test.YtckfafoabnfbpaaK4
import Derived.Test.YtckfafoabnfbpaaX3
set_option linter.unusedVariables false
set_option linter.unusedSimpArgs false
set_option linter.unnecessarySimpa false
set_option linter.unusedSectionVars false
/- What is checked holds: on plain data. -/
namespace Go.Sim
open Go.RowKit Go.Proofs
set_option linter.unusedVariables false
set_option linter.unusedSimpArgs false
set_option linter.unusedSectionVars false
/-- Told each but once, none of those before. -/
theorem fresh_parts {α κ : Type} [DecidableEq κ] {kf : α → κ} {q : α → Bool} : ∀ (l : List α) (s : List κ), freshB kf q s l = true → (∀ x ∈ l, kf x ∉ s) ∧ (l.map kf).Nodup
  | [], s, _ => ⟨by simp, by simp⟩
  | a :: l, s, h => by
    unfold freshB at h
    simp only [Bool.and_eq_true, Bool.not_eq_true'] at h
    obtain ⟨h1, _, h3⟩ := h
    obtain ⟨g1, g2⟩ := fresh_parts l _ h3
    have h1 : kf a ∉ s := by simpa using h1
    refine ⟨fun x hx => ?_, ?_⟩
    · rcases List.mem_cons.1 hx with rfl | hx
      · exact h1
      · exact fun hm => g1 x hx (List.mem_append_left _ hm)
    · rw [List.map_cons, List.nodup_cons]
      refine ⟨fun hm => ?_, g2⟩
      obtain ⟨x, hx, e⟩ := List.mem_map.1 hm
      exact g1 x hx (by rw [e]; simp)
/-- The first one of which something holds, where it holds of no other one. -/
theorem findIdx_only {α : Type} {p : α → Bool} {l : List α} {i : Nat} {a : α} (hi : l[i]? = some a) (ha : p a = true) (hu : ∀ j b, l[j]? = some b → p b = true → j = i) : l.findIdx? p = some i := by
  rw [List.findIdx?_eq_some_iff_getElem]
  obtain ⟨h1, h2⟩ := List.getElem?_eq_some_iff.1 hi
  refine ⟨h1, by rw [h2]; exact ha, fun j hj => ?_⟩
  cases hp : p l[j] with
  | false => simp
  | true => exact absurd (hu j _ (List.getElem?_eq_getElem (by omega)) hp) (by omega)
/-- What holds where nothing is wrong. -/
structure GoodT (t : List Cf) : Prop where
  one : 1 ≤ t.length
  most : t.length ≤ 8
  sane : ∀ c ∈ t, csane c = true
  used : ∀ (i j : Nat) (c d : Cf), t[i]? = some c → t[j]? = some d → j < i → d.a ≠ c.a ∧ d.d ≠ c.d
  side : ∀ (i k : Nat) (c : Cf) (s : Sd), t[i]? = some c → c.s[k]? = some s → ∃ (j m : Nat) (d : Cf) (u : Sd), farR t i k = some (j, m) ∧ t[j]? = some d ∧ d.s[m]? = some u ∧ j ≠ i ∧ u.a = c.a ∧ u.r + s.r = 4 ∧ risesB c d = true ∧ farR t j m = some (i, k)
variable [Lv]
theorem good_of {t : List Cf} (h : (checkR t).2 = 0) : GoodT t := by
  unfold checkR at h
  by_cases h0 : t.length = 0
  · rw [if_pos h0] at h; simp at h
  rw [if_neg h0] at h
  by_cases h8 : 8 < t.length
  · rw [if_pos h8] at h; simp at h
  rw [if_neg h8] at h
  cases e0 : seekI (bad0 t) 0 t.length with
  | some i => rw [e0] at h; simp at h
  | none =>
  cases e1 : seekI (used1 t) 0 t.length with
  | some i => rw [e0, e1] at h; simp at h
  | none =>
  cases e2 : eachR t (miss2 t) with
  | some i => rw [e0, e1, e2] at h; simp at h
  | none =>
  cases e3 : eachR t (role3 t) with
  | some i => rw [e0, e1, e2, e3] at h; simp at h
  | none =>
  cases e4 : eachR t (rise4 t) with
  | some i => rw [e0, e1, e2, e3, e4] at h; simp at h
  | none =>
  have sane : ∀ c ∈ t, csane c = true := fun c hc => by
    obtain ⟨i, hi, rfl⟩ := List.getElem_of_mem hc
    have := seekI_none e0 i (Nat.zero_le _) (by omega)
    unfold bad0 at this
    rw [List.getElem?_eq_getElem hi] at this
    simpa using this
  have used : ∀ (i j : Nat) (c d : Cf), t[i]? = some c → t[j]? = some d → j < i → d.a ≠ c.a ∧ d.d ≠ c.d := fun i j c d hc hd hj => by
    have hi := (List.getElem?_eq_some_iff.1 hc).1
    have := seekI_none e1 i (Nat.zero_le _) (by omega)
    unfold used1 at this
    rw [hc] at this
    have := List.any_eq_false.1 this d (by
      have : (t.take i)[j]? = some d := by rw [List.getElem?_take_of_lt hj]; exact hd
      exact List.mem_of_getElem? this)
    unfold sameB at this
    simpa using this
  refine ⟨by omega, by omega, sane, used, fun i k c s hc hs => ?_⟩
  have g2 := each_none e2 hc hs
  unfold miss2 at g2
  cases hf : farR t i k with
  | none => rw [hf] at g2; cases g2
  | some p =>
    obtain ⟨j, m⟩ := p
    obtain ⟨d, u, hd, hu, h1, h2, h3, h4⟩ := far_inv hc hs hf
    have g3 := each_none e3 hc hs
    have g4 := each_none e4 hc hs
    unfold role3 relOf at g3
    unfold rise4 at g4
    rw [hf] at g3 g4
    simp only [hc, hd, Option.bind_some, hs, hu, Option.map_some, Option.getD_some] at g3 g4
    have hsc := sane c (List.mem_of_getElem? hc)
    unfold csane at hsc
    simp only [Bool.and_eq_true] at hsc
    obtain ⟨f1, f2⟩ := fresh_parts _ _ hsc.2.2.2.2.2.2.2.2
    have hne : j ≠ i := fun e => by
      subst e
      rw [hc] at hd
      simp only [Option.some.injEq] at hd
      exact f1 s (List.mem_of_getElem? hs) (by rw [← h1, ← hd]; simp)
    refine ⟨j, m, d, u, rfl, hd, hu, hne, h2, ?_, by simpa using g4, ?_⟩
    · have : s.r + u.r = 4 := by simpa using g3
      omega
    · rw [farR_nat hd hu, h2]
      have ei : findA t c.a = some i := findIdx_only hc (by simp) fun x b hx hb => by
        have hb : b.a = c.a := by simpa using hb
        rcases Nat.lt_trichotomy x i with hl | hl | hl
        · exact absurd hb (used i x c b hc hx hl).1
        · exact hl
        · exact absurd hb.symm (used x i b c hx hc hl).1
      have ek : idxOf c d.a = some k := findIdx_only hs (by simp [h1]) fun x b hx hb => by
        have hb : b.a = s.a := by rw [← h1]; simpa using hb
        have g : ∀ y z (b1 b2 : Sd), c.s[y]? = some b1 → c.s[z]? = some b2 → y < z → b1.a = b2.a → False := fun y z b1 b2 hy hz hl e => by
          have hw := List.pairwise_iff_getElem.1 f2 y z (by rw [List.length_map]; exact (List.getElem?_eq_some_iff.1 hy).1) (by rw [List.length_map]; exact (List.getElem?_eq_some_iff.1 hz).1) hl
          simp only [List.getElem_map, (List.getElem?_eq_some_iff.1 hy).2, (List.getElem?_eq_some_iff.1 hz).2] at hw
          exact hw e
        rcases Nat.lt_trichotomy x k with hl | hl | hl
        · exact (g x k b s hx hs hl hb).elim
        · exact hl
        · exact (g k x s b hs hx hl hb.symm).elim
      simp only [ei, hc, ek, Option.map_some]
end Go.Sim

/- Nodes that take and tell as topo.Gao's do: on plain data. -/
namespace Go.Sim
open Go.RowKit Go.Proofs
set_option linter.unusedVariables false
set_option linter.unusedSimpArgs false
set_option linter.unusedSectionVars false
theorem reach_in (a r c : Int) : reachR (sideG a r).i c = (sideG a r).i := by
  unfold reachR sideG
  simp [List.findIdx?_cons, totalB, otherB]
/-- All a node's sides are as topo.Gao makes them. -/
def SidesG (l : List Sd) : Prop := ∀ s ∈ l, ∃ a r : Int, 1 ≤ r ∧ r ≤ 3 ∧ s = sideG a r
theorem low_fold (k : Int) : ∀ (l : List Sd) (w : Option Ru), SidesG l → (∀ v, w = some v → v.n = 400 - 100 * k) → ∀ v, l.foldl (fun w s => if s.r = k then seekR true w (reachR s.i k) else w) w = some v → v.n = 400 - 100 * k
  | [], w, _, hw, v, h => hw v h
  | s :: l, w, hs, hw, v, h => by
    rw [List.foldl_cons] at h
    refine low_fold k l _ (fun x hx => hs x (List.mem_cons_of_mem _ hx)) (fun u hu => ?_) v h
    obtain ⟨a, r, h1, h3, rfl⟩ := hs s List.mem_cons_self
    by_cases hr : (sideG a r).r = k
    · rw [if_pos hr, reach_in] at hu
      have hr : r = k := hr
      subst hr
      unfold seekR sideG at hu
      simp only [List.foldl_cons, List.foldl_nil, if_true] at hu
      cases w with
      | none => simp only [Option.some.injEq] at hu; rw [← hu]
      | some x =>
        simp only at hu
        split at hu
        · simp only [Option.some.injEq] at hu; rw [← hu]
        · simp only [Option.some.injEq] at hu; rw [← hu]; exact hw x rfl
    · rw [if_neg hr] at hu
      exact hw u hu
theorem low_g {c : Cf} (h : SidesG c.s) {k : Int} {v : Int} (hv : lowI c k = some v) : v = 400 - 100 * k := by
  unfold lowI at hv
  split at hv
  · rename_i hk; simp at hv; omega
  · unfold lowR at hv
    cases hl : c.s.foldl (fun w s => if s.r = k then seekR true w (reachR s.i k) else w) none with
    | none => rw [hl] at hv; cases hv
    | some x =>
      rw [hl] at hv
      simp only [Option.map_some, Option.some.injEq] at hv
      rw [← hv]
      exact low_fold k c.s none h (fun _ h => by cases h) x hl
theorem high_g {c : Cf} {k : Nat} {a r : Int} (hs : c.s[k]? = some (sideG a r)) : highI c (k : Int) = some (400 - 100 * r) := by
  unfold highI
  rw [if_pos (by omega), Int.toNat_natCast, hs]
  simp only [reach_in]
  unfold seekR sideG
  rfl
theorem tells_g {c : Cf} {k : Nat} {a r : Int} (hr : r ≠ 1) (hs : c.s[k]? = some (sideG a r)) {n : Int} (h : tellsB c (k : Int) n = true) (hn : n = 0 ∨ n = 1 ∨ n = 2 ∨ n = 3) : n = 0 ∨ n = 1 := by
  unfold tellsB at h
  rw [if_pos (by omega), Int.toNat_natCast, hs] at h
  unfold sideG reachR at h
  simp only [if_neg hr] at h
  rcases hn with rfl | rfl | rfl | rfl
  · exact .inl rfl
  · exact .inr rfl
  · revert h; decide
  · revert h; decide
/-- Routes rise on the way between two that are so. -/
theorem rises_g {a b : Cf} {k m : Nat} {r : Int} (ha : csane a = true) (hb : csane b = true) (hsa : SidesG a.s) (h1 : 1 ≤ r) (h3 : r ≤ 3) (hk : idxOf a b.a = some k) (hm : idxOf b a.a = some m) (hka : a.s[k]? = some (sideG b.a r)) (hmb : b.s[m]? = some (sideG a.a (4 - r))) : risesB a b = true := by
  unfold risesB
  rw [ha, hb, hk, hm]
  have ek : sideI a b.a = (k : Int) := by unfold sideI; rw [hk]; rfl
  have em : sideI b a.a = (m : Int) := by unfold sideI; rw [hm]; rfl
  rw [ek, em, high_g hmb]
  simp only [Option.isSome_some, Bool.true_and, Bool.not_eq_true']
  refine List.any_eq_false.2 fun n hn => ?_
  have hn : n = 0 ∨ n = 1 ∨ n = 2 ∨ n = 3 := by simpa using hn
  unfold fallsB
  cases hl : lowI a n with
  | none => simp
  | some v =>
    have hv := low_g hsa hl
    simp only [Option.isSome_some, Option.getD_some, Bool.true_and, Bool.and_eq_true, decide_eq_true_eq, not_and]
    intro hgt ht
    by_cases hr : r = 1
    · omega
    · have := tells_g hr hka ht hn
      omega
end Go.Sim

/- topo.Gao's nodes: what holds of them, whatever the links. -/
namespace Go.Sim
open Go.RowKit Go.Proofs
set_option linter.unusedVariables false
set_option linter.unusedSimpArgs false
set_option linter.unusedSectionVars false
structure GInv (own : List Px) (m : Nat) (t : List Cf) : Prop where
  len : t.length = m
  node : ∀ (i : Nat) (c : Cf), t[i]? = some c → c.a = 65001 + (i : Int) ∧ c.d = 167772161 + (i : Int) ∧ c.h = 90 ∧ c.k = 1000 ∧ c.w = ownG own i ∧ (c.s.map Sd.a).Nodup
  side : ∀ (i : Nat) (c : Cf) (s : Sd), t[i]? = some c → s ∈ c.s → ∃ (j : Nat) (r : Int) (d : Cf), j ≠ i ∧ 1 ≤ r ∧ r ≤ 3 ∧ s = sideG (65001 + (j : Int)) r ∧ t[j]? = some d ∧ sideG (65001 + (i : Int)) (4 - r) ∈ d.s
theorem idx_none {c : Cf} {a : Int} (h : (idxOf c a).isSome = false) : ∀ s ∈ c.s, s.a ≠ a := fun s hs e => by
  unfold idxOf at h
  cases hf : c.s.findIdx? (fun s => s.a == a) with
  | some k => rw [hf] at h; cases h
  | none =>
    have := List.findIdx?_eq_none_iff.1 hf s hs
    simp [e] at this
theorem nodup_push {l : List Int} {a : Int} (h : l.Nodup) (ha : a ∉ l) : (l ++ [a]).Nodup := by
  rw [List.nodup_append]
  exact ⟨h, by simp, fun x hx y hy e => by rw [List.mem_singleton.1 hy] at e; exact ha (e ▸ hx)⟩
theorem GInv.start {own : List Px} {m : Nat} : GInv own m ((List.range m).map (nodeG own)) := by
  have hi : ∀ (i : Nat) (c : Cf), ((List.range m).map (nodeG own))[i]? = some c → c = nodeG own i := fun i c h => by
    rw [List.getElem?_map] at h
    cases hr : (List.range m)[i]? with
    | none => rw [hr] at h; cases h
    | some x =>
      rw [hr] at h
      obtain ⟨h1, h2⟩ := List.getElem?_eq_some_iff.1 hr
      rw [List.getElem_range] at h2
      subst h2
      simpa using h.symm
  refine ⟨by simp, fun i c h => ?_, fun i c s h hs => ?_⟩
  · rw [hi i c h]; exact ⟨rfl, rfl, rfl, rfl, rfl, List.nodup_nil⟩
  · rw [hi i c h] at hs; cases hs
theorem GInv.link {own : List Px} {m : Nat} {t : List Cf} (h : GInv own m t) (x : Lk) : GInv own m (linkG t x) := by
  unfold linkG
  split
  · rename_i hg
    split
    · rename_i c d hc hd
      split
      · exact h
      · rename_i hn
        unfold goodL at hg
        simp only [Bool.and_eq_true, decide_eq_true_eq, Bool.not_eq_true', beq_eq_false_iff_ne] at hg
        obtain ⟨⟨⟨⟨⟨⟨a1, a2⟩, a3⟩, a4⟩, a5⟩, a6⟩, a7⟩ := hg
        generalize hA : x.a.toNat = a at hc hn ⊢
        generalize hB : x.b.toNat = b at hd hn ⊢
        generalize x.r = r at a6 a7 ⊢
        have hab : a ≠ b := by omega
        have la : a < t.length := (List.getElem?_eq_some_iff.1 hc).1
        have lb : b < t.length := (List.getElem?_eq_some_iff.1 hd).1
        have nc := h.node a c hc
        have nd := h.node b d hd
        have fc : ∀ s ∈ c.s, s.a ≠ d.a := idx_none (by simpa using hn)
        have fd : ∀ s ∈ d.s, s.a ≠ c.a := fun s hs e => by
          obtain ⟨j, r', d', k1, k2, k3, k4, k5, k6⟩ := h.side b d s hd hs
          have hj : j = a := by
            rw [k4] at e
            have e : 65001 + (j : Int) = c.a := e
            rw [nc.1] at e; omega
          subst hj
          rw [hc] at k5
          simp only [Option.some.injEq] at k5
          subst k5
          exact fc _ k6 nd.1.symm
        have get : ∀ i, ((t.set a (addS c (sideG d.a r))).set b (addS d (sideG c.a (4 - r))))[i]? = if i = b then some (addS d (sideG c.a (4 - r))) else if i = a then some (addS c (sideG d.a r)) else t[i]? := fun i => by
          rw [List.getElem?_set, List.length_set, List.getElem?_set]
          by_cases e1 : b = i
          · rw [if_pos e1, if_pos e1.symm, if_pos (by omega)]
          · rw [if_neg e1, if_neg (show ¬ i = b from fun e => e1 e.symm)]
            by_cases e2 : a = i
            · rw [if_pos e2, if_pos e2.symm, if_pos (by omega)]
            · rw [if_neg e2, if_neg (show ¬ i = a from fun e => e2 e.symm)]
        have more : ∀ (j : Nat) (d0 : Cf) (s : Sd), t[j]? = some d0 → s ∈ d0.s → ∃ d', ((t.set a (addS c (sideG d.a r))).set b (addS d (sideG c.a (4 - r))))[j]? = some d' ∧ s ∈ d'.s := fun j d0 s hj hs => by
          rw [get]
          by_cases e1 : j = b
          · subst e1
            rw [hd] at hj
            simp only [Option.some.injEq] at hj
            subst hj
            exact ⟨_, if_pos rfl, List.mem_append_left _ hs⟩
          · rw [if_neg e1]
            by_cases e2 : j = a
            · subst e2
              rw [hc] at hj
              simp only [Option.some.injEq] at hj
              subst hj
              exact ⟨_, if_pos rfl, List.mem_append_left _ hs⟩
            · rw [if_neg e2]; exact ⟨d0, hj, hs⟩
        have gb := get b
        rw [if_pos rfl] at gb
        have ga := get a
        rw [if_neg hab, if_pos rfl] at ga
        refine ⟨by rw [List.length_set, List.length_set]; exact h.len, fun i e hi => ?_, fun i e s hi hs => ?_⟩
        · rw [get] at hi
          by_cases e1 : i = b
          · rw [if_pos e1] at hi
            simp only [Option.some.injEq] at hi
            subst hi; subst e1
            refine ⟨nd.1, nd.2.1, nd.2.2.1, nd.2.2.2.1, nd.2.2.2.2.1, ?_⟩
            show ((d.s ++ [sideG c.a (4 - r)]).map Sd.a).Nodup
            rw [List.map_append]
            exact nodup_push nd.2.2.2.2.2 fun hm => by
              obtain ⟨s, hs, e⟩ := List.mem_map.1 hm
              exact fd s hs e
          · rw [if_neg e1] at hi
            by_cases e2 : i = a
            · rw [if_pos e2] at hi
              simp only [Option.some.injEq] at hi
              subst hi; subst e2
              refine ⟨nc.1, nc.2.1, nc.2.2.1, nc.2.2.2.1, nc.2.2.2.2.1, ?_⟩
              show ((c.s ++ [sideG d.a r]).map Sd.a).Nodup
              rw [List.map_append]
              exact nodup_push nc.2.2.2.2.2 fun hm => by
                obtain ⟨s, hs, e⟩ := List.mem_map.1 hm
                exact fc s hs e
            · rw [if_neg e2] at hi
              exact h.node i e hi
        · have old : ∀ (c0 : Cf), t[i]? = some c0 → s ∈ c0.s → ∃ (j : Nat) (r' : Int) (d' : Cf), j ≠ i ∧ 1 ≤ r' ∧ r' ≤ 3 ∧ s = sideG (65001 + (j : Int)) r' ∧ ((t.set a (addS c (sideG d.a r))).set b (addS d (sideG c.a (4 - r))))[j]? = some d' ∧ sideG (65001 + (i : Int)) (4 - r') ∈ d'.s := fun c0 h0 hs0 => by
            obtain ⟨j, r', d', k1, k2, k3, k4, k5, k6⟩ := h.side i c0 s h0 hs0
            obtain ⟨d'', k7, k8⟩ := more j d' _ k5 k6
            exact ⟨j, r', d'', k1, k2, k3, k4, k7, k8⟩
          rw [get] at hi
          by_cases e1 : i = b
          · rw [if_pos e1] at hi
            simp only [Option.some.injEq] at hi
            subst hi; subst e1
            rcases List.mem_append.1 hs with hs | hs
            · exact old d hd hs
            · rw [List.mem_singleton.1 hs]
              refine ⟨a, 4 - r, _, hab, by omega, by omega, by rw [nc.1], ga, ?_⟩
              rw [show 4 - (4 - r) = r by omega, ← nd.1]
              exact List.mem_append_right _ (List.mem_singleton.2 rfl)
          · rw [if_neg e1] at hi
            by_cases e2 : i = a
            · rw [if_pos e2] at hi
              simp only [Option.some.injEq] at hi
              subst hi; subst e2
              rcases List.mem_append.1 hs with hs | hs
              · exact old c hc hs
              · rw [List.mem_singleton.1 hs]
                refine ⟨b, r, _, Ne.symm hab, a6, a7, by rw [nd.1], gb, ?_⟩
                rw [← nc.1]
                exact List.mem_append_right _ (List.mem_singleton.2 rfl)
            · rw [if_neg e2] at hi
              exact old e hi hs
    · exact h
  · exact h
theorem GInv.links {own : List Px} {m : Nat} : ∀ (l : List Lk) {t : List Cf}, GInv own m t → GInv own m (l.foldl linkG t)
  | [], _, h => h
  | x :: l, t, h => by rw [List.foldl_cons]; exact GInv.links l (h.link x)
theorem gao_inv (n : Int) (own : List Px) (l : List Lk) : GInv own (numG n) (gaoR n own l) := GInv.links l GInv.start
end Go.Sim

/- Nothing is wrong with topo.Gao's nodes but a ring: on plain data. -/
namespace Go.Sim
open Go.RowKit Go.Proofs
set_option linter.unusedVariables false
set_option linter.unusedSimpArgs false
set_option linter.unusedSectionVars false
theorem fresh_of {α κ : Type} [DecidableEq κ] {kf : α → κ} {q : α → Bool} : ∀ (l : List α) (s : List κ), (∀ x ∈ l, kf x ∉ s ∧ q x = true) → (l.map kf).Nodup → freshB kf q s l = true
  | [], s, _, _ => rfl
  | a :: l, s, h, hn => by
    unfold freshB
    obtain ⟨h1, h2⟩ := h a List.mem_cons_self
    rw [List.map_cons, List.nodup_cons] at hn
    rw [h2, fresh_of l _ (fun x hx => ⟨fun hm => ?_, (h x (List.mem_cons_of_mem _ hx)).2⟩) hn.2]
    · simpa using h1
    · rcases List.mem_append.1 hm with hm | hm
      · exact (h x (List.mem_cons_of_mem _ hx)).1 hm
      · rw [List.mem_singleton] at hm
        exact hn.1 (List.mem_map.2 ⟨x, hx, hm⟩)
theorem sideB_g {a r : Int} (h1 : 1 ≤ r) (h3 : r ≤ 3) (ha : 0 < a) (hb : a ≤ 4294967295) : sideB (sideG a r) = true := by
  unfold sideB withinB sideG rulesB
  rcases (by omega : r = 1 ∨ r = 2 ∨ r = 3) with rfl | rfl | rfl
  · simp [rsane, matchB, actB, numB]; omega
  · simp [rsane, matchB, actB, numB]; omega
  · simp [rsane, matchB, actB, numB]; omega
section
variable {own : List Px} {m : Nat} {t : List Cf}
theorem GInv.sides (h : GInv own m t) {c : Cf} (hc : c ∈ t) : SidesG c.s := fun s hs => by
  obtain ⟨i, hi, rfl⟩ := List.getElem_of_mem hc
  obtain ⟨j, r, d, _, h1, h3, h4, _, _⟩ := h.side i _ s (List.getElem?_eq_getElem hi) hs
  exact ⟨_, r, h1, h3, h4⟩
theorem GInv.few (h : GInv own m t) {c : Cf} (hc : c ∈ t) : c.s.length ≤ m := by
  obtain ⟨i, hi, rfl⟩ := List.getElem_of_mem hc
  have hg := List.getElem?_eq_getElem hi
  have hn := (h.node i _ hg).2.2.2.2.2
  have hs : ∀ s ∈ t[i].s, ∃ j : Nat, j < m ∧ s.a = 65001 + (j : Int) := fun s hs => by
    obtain ⟨j, r, d, _, h1, h3, h4, h5, _⟩ := h.side i _ s hg hs
    exact ⟨j, by have := (List.getElem?_eq_some_iff.1 h5).1; rw [h.len] at this; exact this, by rw [h4]; rfl⟩
  have hn2 : (t[i].s.map fun s => (s.a - 65001).toNat).Nodup := by
    unfold List.Nodup at hn ⊢
    rw [List.pairwise_map] at hn ⊢
    refine hn.imp_of_mem fun {x y} hx hy hxy e => ?_
    obtain ⟨j1, _, e1⟩ := hs x hx
    obtain ⟨j2, _, e2⟩ := hs y hy
    exact hxy (by omega)
  have := nodupN_lt m _ hn2 fun x hx => by
    obtain ⟨s, hs1, rfl⟩ := List.mem_map.1 hx
    obtain ⟨j, hj, e⟩ := hs s hs1
    omega
  simpa using this
theorem GInv.sane (h : GInv own m t) (hm : m ≤ 8) {c : Cf} (hc : c ∈ t) : csane c = true := by
  have hf := h.few hc
  obtain ⟨i, hi, rfl⟩ := List.getElem_of_mem hc
  have hg := List.getElem?_eq_getElem hi
  obtain ⟨n1, n2, n3, n4, n5, n6⟩ := h.node i _ hg
  have him : i < m := by rw [← h.len]; exact hi
  have f1 : freshB id psane [] t[i].w = true := by
    rw [n5]
    unfold ownG
    split
    · split
      · rename_i p _ hp
        unfold freshB freshB
        simp [hp]
      · rfl
    · rfl
  have f2 : freshB Sd.a sideB [t[i].a] t[i].s = true := fresh_of _ _ (fun s hs => by
    obtain ⟨j, r, d, hj, h1, h3, h4, h5, _⟩ := h.side i _ s hg hs
    have hjl := (List.getElem?_eq_some_iff.1 h5).1
    rw [h.len] at hjl
    subst h4
    refine ⟨?_, sideB_g h1 h3 (by omega) (by omega)⟩
    rw [n1]
    show (65001 + (j : Int)) ∉ [65001 + (i : Int)]
    simp; omega) n6
  have hw : t[i].w.length ≤ 1 := by
    rw [n5]; unfold ownG; split
    · split <;> simp
    · simp
  unfold csane
  rw [f1, f2, n1, n2, n3, n4]
  simp [withinB, holdB]
  omega
variable [Lv]
/-- Where a side leads: to its twin. -/
theorem GInv.far (h : GInv own m t) {i k : Nat} {c : Cf} {s : Sd} (hc : t[i]? = some c) (hs : c.s[k]? = some s) : ∃ (j mm : Nat) (r : Int) (d : Cf), j ≠ i ∧ 1 ≤ r ∧ r ≤ 3 ∧ farR t i k = some (j, mm) ∧ t[j]? = some d ∧ s = sideG d.a r ∧ d.s[mm]? = some (sideG c.a (4 - r)) ∧ idxOf c d.a = some k ∧ idxOf d c.a = some mm := by
  obtain ⟨j, r, d, k1, k2, k3, k4, k5, k6⟩ := h.side i c s hc (List.mem_of_getElem? hs)
  have nc := h.node i c hc
  have nd := h.node j d k5
  have only : ∀ (e : Cf) (y z : Nat) (b1 b2 : Sd), (e.s.map Sd.a).Nodup → e.s[y]? = some b1 → e.s[z]? = some b2 → b1.a = b2.a → y = z := fun e y z b1 b2 hn hy hz hab => by
    have e1 : (e.s.map Sd.a)[y]? = some b1.a := by rw [List.getElem?_map, hy]; rfl
    have e2 : (e.s.map Sd.a)[z]? = some b1.a := by rw [List.getElem?_map, hz, hab]; rfl
    obtain ⟨l1, g1⟩ := List.getElem?_eq_some_iff.1 e1
    obtain ⟨l2, g2⟩ := List.getElem?_eq_some_iff.1 e2
    exact (List.getElem_inj hn).1 (g1.trans g2.symm)
  obtain ⟨mm, hmm, hmu⟩ := List.getElem_of_mem k6
  have hu : d.s[mm]? = some (sideG (65001 + (i : Int)) (4 - r)) := by rw [List.getElem?_eq_getElem hmm, hmu]
  rw [← nc.1] at hu
  rw [← nd.1] at k4
  have ia : idxOf d c.a = some mm := findIdx_only hu (by simp [sideG]) fun x b hx hb => only d x mm b _ nd.2.2.2.2.2 hx hu (by simpa [sideG] using hb)
  have ic : idxOf c d.a = some k := findIdx_only hs (by rw [k4]; simp [sideG]) fun x b hx hb => only c x k b _ nc.2.2.2.2.2 hx hs (by rw [k4]; simpa [sideG] using hb)
  have fj : findA t s.a = some j := by
    refine findIdx_only k5 (by rw [k4]; simp [sideG]) fun x b hx hb => ?_
    have := (h.node x b hx).1
    have hb : b.a = d.a := by rw [k4] at hb; simpa [sideG] using hb
    rw [nd.1] at hb
    omega
  refine ⟨j, mm, r, d, k1, k2, k3, ?_, k5, k4, hu, ic, ia⟩
  rw [farR_nat hc hs, fj]
  simp only [k5, ia, Option.map_some]
theorem seek_none_of {p : Nat → Bool} : ∀ (k i : Nat), (∀ j, i ≤ j → j < i + k → p j = false) → seekI p i k = none
  | 0, _, _ => rfl
  | k + 1, i, h => by
    unfold seekI
    rw [h i (Nat.le_refl _) (by omega)]
    exact seek_none_of k (i + 1) fun j h1 h2 => h j (by omega) (by omega)
theorem each_none_of {q : Nat → Nat → Bool} (h : ∀ (i k : Nat) (c : Cf) (s : Sd), t[i]? = some c → c.s[k]? = some s → q i k = false) : eachR t q = none := by
  unfold eachR
  refine seek_none_of _ _ fun i _ hi => ?_
  have hc : t[i]? = some t[i] := List.getElem?_eq_getElem (by omega)
  unfold hitR
  have hn : sidesN t i = t[i].s.length := by unfold sidesN; rw [hc]; rfl
  rw [hn, seek_none_of _ _ fun k _ hk => h i k _ _ hc (List.getElem?_eq_getElem (by omega))]
  rfl
/-- Nothing is wrong with such nodes, but a ring. -/
theorem GInv.check (h : GInv own m t) (h1 : 1 ≤ m) (h8 : m ≤ 8) : checkR t = match ringR t with | some i => (i, 11) | none => (0, 0) := by
  have hl := h.len
  have e0 : seekI (bad0 t) 0 t.length = none := seek_none_of _ _ fun i _ hi => by
    have hc : t[i]? = some t[i] := List.getElem?_eq_getElem (by omega)
    unfold bad0
    rw [hc]
    simp only [h.sane h8 (List.mem_of_getElem? hc), Bool.not_true]
  have e1 : seekI (used1 t) 0 t.length = none := seek_none_of _ _ fun i _ hi => by
    have hc : t[i]? = some t[i] := List.getElem?_eq_getElem (by omega)
    unfold used1
    rw [hc]
    refine List.any_eq_false.2 fun d hd => ?_
    obtain ⟨j, hj, e⟩ := List.getElem_of_mem hd
    rw [List.length_take] at hj
    rw [List.getElem_take] at e
    have nj := h.node j t[j] (List.getElem?_eq_getElem (by omega))
    have ni := h.node i _ hc
    rw [e] at nj
    unfold sameB
    rw [nj.1, nj.2.1, ni.1, ni.2.1]
    simp; omega
  have e2 : eachR t (miss2 t) = none := each_none_of fun i k c s hc hs => by
    obtain ⟨j, mm, r, d, _, _, _, hf, _⟩ := h.far hc hs
    unfold miss2; rw [hf]; rfl
  have e3 : eachR t (role3 t) = none := each_none_of fun i k c s hc hs => by
    obtain ⟨j, mm, r, d, _, _, _, hf, hd, hsr, hu, _⟩ := h.far hc hs
    unfold role3 relOf
    rw [hf]
    simp only [hc, hd, Option.bind_some, hs, hu, Option.map_some, Option.getD_some, hsr]
    simp [sideG]; omega
  have e4 : eachR t (rise4 t) = none := each_none_of fun i k c s hc hs => by
    obtain ⟨j, mm, r, d, _, r1, r3, hf, hd, hsr, hu, ic, ia⟩ := h.far hc hs
    unfold rise4
    rw [hf]
    simp only [hc, hd]
    rw [rises_g (h.sane h8 (List.mem_of_getElem? hc)) (h.sane h8 (List.mem_of_getElem? hd)) (h.sides (List.mem_of_getElem? hc)) r1 r3 ic ia (by rw [hs, hsr]) hu]
    rfl
  unfold checkR
  rw [if_neg (by omega), if_neg (by omega), e0, e1, e2, e3, e4]
  cases ringR t <;> rfl
end
theorem gao_check [Lv] (n : Int) (own : List Px) (l : List Lk) : checkR (gaoR n own l) = match ringR (gaoR n own l) with | some i => (i, 11) | none => (0, 0) := by
  have hb : 1 ≤ numG n ∧ numG n ≤ 8 := by unfold numG; omega
  exact (gao_inv n own l).check hb.1 hb.2
end Go.Sim

/- What calls come to: printed by wip/tools/eq2.py: TopoTogether. -/
namespace Go.Sim
open Go.RowKit Go.Proofs
set_option linter.unusedVariables false
set_option maxRecDepth 100000
variable [Lv]

theorem q5 (N : Nat) (n : Int) (own : List Px) (l : List Lk) : callP env (N + 1) 5 [i64 n, .sl 2 (own.map Px.t), .sl 3 (l.map Lk.t)] = W [i64 n, .sl 2 (own.map Px.t), .sl 3 (l.map Lk.t)] (cl N 10 [] fun x => bif decide ((↑(List.map Px.t own).length : Int) > 20) then Res.ok x else bif decide ((↑(List.map Lk.t l).length : Int) > 40) then Res.ok x else cl N 21 [i64 n, T.sl 2 (List.map Px.t own), T.sl 3 (List.map Lk.t l)] fun x_1 => cl N 16 [x_1] fun x_2 => compT x_2 0 fun y => compT x_2 1 fun y_1 => cl N 18 [x_1] fun x_3 => compT x_3 0 fun y_2 => compT x_3 1 fun y_3 => bT y_3 fun v => bif v then bT x fun b => bif b then iT IntKind.i64 y_1 fun a => bif a == 11 then iT IntKind.i64 y fun a => iT IntKind.i64 y_2 fun b => rB (a == b) else rB false else rB false else bT x fun b => bif b then iT IntKind.i64 y_1 fun a => bif a == 0 then iT IntKind.i64 y fun a => rB (a == 0) else rB false else rB false) := by kernel_rfl
end Go.Sim

/- Layer 16: TopoTogether. -/
namespace Go.Sim
open Go.RowKit Go.Proofs
set_option linter.unusedVariables false
set_option linter.unusedSimpArgs false
set_option linter.unusedSectionVars false
set_option maxRecDepth 100000
theorem gao_parts {n : Int} {own : List Px} {l : List Lk} (ho : okL Px.ok own) (hl : (l.length + 1) * 64 ≤ big) : okL Cf.ok (gaoR n own l) ∧ roomN (gaoR n own l) := by
  have hb := big_val
  obtain ⟨h1, h8⟩ := numG_bounds n
  have h := links_ok (m := numG n) l (nodes_ok ho h8) (by omega)
  exact ⟨⟨by rw [show gaoR n own l = l.foldl linkG ((List.range (numG n)).map (nodeG own)) from rfl, h.1]; omega, fun c hc => (h.2 c hc).1⟩, fun c hc => by have := (h.2 c hc).2; omega⟩
theorem f5_ok {M : Nat} {n : Int} {own : List Px} {l : List Lk} (hM : big + 60 ≤ M) (hn : ok64 n = true) (ho : okL Px.ok own) (hl : okL Lk.ok l) : callP env (M + 1) 5 [i64 n, .sl 2 (own.map Px.t), .sl 3 (l.map Lk.t)] = .ok (.bool true) := by
  have hb := big_val
  obtain ⟨m, rfl⟩ := exM (show 1 ≤ M by omega)
  rw [q5, W_ok (wfs3 (wf_int hn) (wf_okL (fun _ h => Px.ok.wf h) ho) (wf_okL (fun _ h => Lk.ok.wf h) hl)), cl_ok (f10_ok (by omega))]
  by_cases h1 : (((own.map Px.t).length : Nat) : Int) > 20
  · rw [decide_eq_true h1]; rfl
  rw [decide_eq_false h1]
  by_cases h2 : (((l.map Lk.t).length : Nat) : Int) > 40
  · rw [decide_eq_true h2]; rfl
  rw [decide_eq_false h2]
  rw [List.length_map] at h2
  have h3 : (l.length + 1) * 64 ≤ big := by omega
  obtain ⟨g1, g2⟩ := gao_parts (n := n) ho h3
  simp only [cond_false]
  rw [cl_ok (f21_ok hn ho hl h3), cl_ok (check_ok (by omega) g1 g2)]
  simp only [compT, List.getElem?_cons_zero, List.getElem?_cons_succ]
  rw [cl_ok (f18_ok g1 g2), gao_check]
  cases ringR (gaoR n own l) with
  | none => rfl
  | some i =>
    simp only [oneT, compT, List.getElem?_cons_zero, List.getElem?_cons_succ, Option.isSome_some, Option.getD_some, bT, cond_true, iT_int]
    show rB ((i : Int) == (i : Int)) = _
    rw [beq_self_eq_true]
end Go.Sim

/- Links that lead upward make no ring: on plain data. -/
namespace Go.Sim
open Go.RowKit Go.Proofs
set_option linter.unusedVariables false
set_option linter.unusedSimpArgs false
set_option linter.unusedSectionVars false
/-- A link, turned upward. -/
def turnL (x : Lk) : Lk := if x.r = 2 then x else if x.a > x.b then { x with r := 1 } else { x with r := 3 }
def RInv (t : List Cf) : Prop := ∀ (i : Nat) (c : Cf) (s : Sd), t[i]? = some c → s ∈ c.s → s.r = 3 → ∃ j : Nat, i < j ∧ s.a = 65001 + (j : Int)
theorem RInv.link {own : List Px} {m : Nat} {t : List Cf} (h : GInv own m t) (hr : RInv t) (x : Lk) : RInv (linkG t (turnL x)) := by
  have hx : (turnL x).a = x.a ∧ (turnL x).b = x.b ∧ ((turnL x).r = 3 → x.a ≤ x.b) ∧ ((turnL x).r = 1 → x.a > x.b) := by
    unfold turnL
    split
    · rename_i h2; exact ⟨rfl, rfl, fun h => by omega, fun h => by omega⟩
    · split
      · rename_i h3; exact ⟨rfl, rfl, fun h => by simp at h, fun _ => h3⟩
      · rename_i h3; exact ⟨rfl, rfl, fun _ => by omega, fun h => by simp at h⟩
  generalize turnL x = y at hx ⊢
  obtain ⟨e1, e2, e3, e4⟩ := hx
  rw [← e1, ← e2] at e3 e4
  unfold linkG
  split
  · rename_i hg
    split
    · rename_i c d hc hd
      split
      · exact hr
      · unfold goodL at hg
        simp only [Bool.and_eq_true, decide_eq_true_eq, Bool.not_eq_true', beq_eq_false_iff_ne] at hg
        obtain ⟨⟨⟨⟨⟨⟨a1, a2⟩, a3⟩, a4⟩, a5⟩, a6⟩, a7⟩ := hg
        have nc := (h.node _ c hc).1
        have nd := (h.node _ d hd).1
        intro i e s hi hs h3
        rw [List.getElem?_set, List.length_set, List.getElem?_set] at hi
        by_cases b1 : y.b.toNat = i
        · rw [if_pos b1, if_pos (by omega)] at hi
          simp only [Option.some.injEq] at hi
          subst hi
          rcases List.mem_append.1 hs with hs | hs
          · exact hr i d s (b1 ▸ hd) hs h3
          · rw [List.mem_singleton.1 hs] at h3 ⊢
            have h3 : 4 - y.r = 3 := h3
            exact ⟨y.a.toNat, by have := e4 (by omega); omega, nc⟩
        · rw [if_neg b1] at hi
          by_cases b2 : y.a.toNat = i
          · rw [if_pos b2, if_pos (by omega)] at hi
            simp only [Option.some.injEq] at hi
            subst hi
            rcases List.mem_append.1 hs with hs | hs
            · exact hr i c s (b2 ▸ hc) hs h3
            · rw [List.mem_singleton.1 hs] at h3 ⊢
              have h3 : y.r = 3 := h3
              exact ⟨y.b.toNat, by have := e3 h3; omega, nd⟩
          · rw [if_neg b2] at hi
            exact hr i e s hi hs h3
    · exact hr
  · exact hr
theorem RInv.links {own : List Px} {m : Nat} : ∀ (l : List Lk) {t : List Cf}, GInv own m t → RInv t → RInv ((l.map turnL).foldl linkG t)
  | [], _, _, h => h
  | x :: l, t, hg, h => by rw [List.map_cons, List.foldl_cons]; exact RInv.links l (hg.link _) (h.link hg x)
theorem gao_rise (n : Int) (own : List Px) (l : List Lk) : RInv (gaoR n own (l.map turnL)) := RInv.links l GInv.start fun i c s hi hs => by
  rw [List.getElem?_map] at hi
  cases hr : (List.range (numG n))[i]? with
  | none => rw [hr] at hi; cases hi
  | some x =>
    rw [hr] at hi
    simp only [Option.map_some, Option.some.injEq] at hi
    subst hi
    cases hs
theorem prov_up {own : List Px} {m : Nat} {t : List Cf} (h : GInv own m t) (hr : RInv t) {i j : Nat} (hj : j ∈ provR t i) : i < j := by
  unfold provR at hj
  split at hj
  · rename_i c hc
    obtain ⟨s, hs, e⟩ := List.mem_filterMap.1 hj
    split at e
    · rename_i h3
      obtain ⟨k, hk, ek⟩ := hr i c s hc hs h3
      obtain ⟨hl, hp, _⟩ := List.findIdx?_eq_some_iff_getElem.1 e
      have := (h.node j t[j] (List.getElem?_eq_getElem hl)).1
      have hp : t[j].a = s.a := by simpa using hp
      omega
    · cases e
  · cases hj
theorem up_up {own : List Px} {m : Nat} {t : List Cf} (h : GInv own m t) (hr : RInv t) {i j : Nat} (hu : Up t i j) : i < j := by
  induction hu with
  | one hj => exact prov_up h hr hj
  | more _ hm ih => exact Nat.lt_trans ih (prov_up h hr hm)
theorem rising_ring {own : List Px} {m : Nat} {t : List Cf} (h : GInv own m t) (hr : RInv t) : ringR t = none := by
  unfold ringR
  rw [List.find?_eq_none]
  intro i hi hs
  exact Nat.lt_irrefl _ (up_up h hr (steps_up _ _ hs))
theorem rising_check [Lv] (n : Int) (own : List Px) (l : List Lk) : checkR (gaoR n own (l.map turnL)) = (0, 0) := by
  rw [gao_check, rising_ring (gao_inv n own _) (gao_rise n own l)]
end Go.Sim

/- What calls come to: printed by wip/tools/eq2.py: TopoRising. -/
namespace Go.Sim
open Go.RowKit Go.Proofs
set_option linter.unusedVariables false
set_option maxRecDepth 100000
variable [Lv]

def sTR (n : Int) (l r : List Lk) (i : Int) : St := ⟨slots 52 [(0, .t (i64 n)), (1, .t (.sl 3 (l.map Lk.t))), (5, .t (.bool true)), (6, .own 0), (7, .t (i64 i))], [.row 40 3 (r.map Lk.t)]⟩
theorem q6 (N : Nat) (n : Int) (l : List Lk) : callP env (N + 1) 6 [i64 n, .sl 3 (l.map Lk.t)] = W [i64 n, .sl 3 (l.map Lk.t)] (cl N 10 [] fun x => bif decide ((↑(List.map Lk.t l).length : Int) > 40) then Res.ok x else loopL env N 6 6 { tmps := slots 52 [(0, PV.t (i64 n)), (1, PV.t (T.sl 3 (List.map Lk.t l))), (5, PV.t x), (6, PV.own 0), (7, PV.t (i64 0))], heap := [AObj.row 40 3 []] }) := by kernel_rfl
theorem b6_6 (N : Nat) (n : Int) (l r : List Lk) (i : Int) : bodyL env N 6 0 6 (sTR n l r i) = bif decide (i < (↑(List.map Lk.t l).length : Int)) then atT (List.map Lk.t l) i fun e => chk (e.cells.length == 3 && !e.isTup) (iT IntKind.i64 (e.partD 2 1 false) fun a => bif a != 2 then iT IntKind.i64 ((T.agg [e.cell 0, e.cell 1, i64 3]).cell 0) fun a => iT IntKind.i64 ((T.agg [e.cell 0, e.cell 1, i64 3]).cell 1) fun b => bif decide (a > b) then chkAll (T.okE 3) [T.agg [(T.agg [e.cell 0, e.cell 1, i64 3]).cell 0, (T.agg [e.cell 0, e.cell 1, i64 3]).cell 1, i64 1]] (chk (decide (((List.map Lk.t r).length + 1) * 24 ≤ 140737488355328)) (Res.ok (Ex.norm, { tmps := slots 52 [(0, PV.t (i64 n)), (1, PV.t (T.sl 3 (List.map Lk.t l))), (5, PV.t (T.bool true)), (6, PV.own 0), (7, PV.t (i64 (IntKind.i64.wrap (i + 1))))], heap := [AObj.row 40 3 (List.map Lk.t r ++ [T.agg [(T.agg [e.cell 0, e.cell 1, i64 3]).cell 0, (T.agg [e.cell 0, e.cell 1, i64 3]).cell 1, i64 1]])] }))) else chkAll (T.okE 3) [T.agg [e.cell 0, e.cell 1, i64 3]] (chk (decide (((List.map Lk.t r).length + 1) * 24 ≤ 140737488355328)) (Res.ok (Ex.norm, { tmps := slots 52 [(0, PV.t (i64 n)), (1, PV.t (T.sl 3 (List.map Lk.t l))), (5, PV.t (T.bool true)), (6, PV.own 0), (7, PV.t (i64 (IntKind.i64.wrap (i + 1))))], heap := [AObj.row 40 3 (List.map Lk.t r ++ [T.agg [e.cell 0, e.cell 1, i64 3]])] }))) else chkAll (T.okE 3) [e] (chk (decide (((List.map Lk.t r).length + 1) * 24 ≤ 140737488355328)) (Res.ok (Ex.norm, { tmps := slots 52 [(0, PV.t (i64 n)), (1, PV.t (T.sl 3 (List.map Lk.t l))), (5, PV.t (T.bool true)), (6, PV.own 0), (7, PV.t (i64 (IntKind.i64.wrap (i + 1))))], heap := [AObj.row 40 3 (List.map Lk.t r ++ [e])] })))) else Res.ok (Ex.exit 0, { tmps := slots 52 [(0, PV.t (i64 n)), (5, PV.t (T.bool true)), (6, PV.own 0)], heap := [AObj.row 40 3 (List.map Lk.t r)] }) := by kernel_rfl
theorem t6_6_exit0 (N : Nat) (n : Int) (r : List Lk) : tailL env N 6 0 6 (outK env 6) (.exit 0) (⟨slots 52 [(0, .t (i64 n)), (5, .t (.bool true)), (6, .own 0)], [.row 40 3 (r.map Lk.t)]⟩) = cl N 21 [i64 n, T.sl 2 [], T.sl 3 (List.map Lk.t r)] fun x => cl N 16 [x] fun x => compT x 0 fun y => compT x 1 fun y => iT IntKind.i64 y fun a => rB (a == 0) := by kernel_rfl
end Go.Sim

/- Layer 16: TopoRising. -/
namespace Go.Sim
open Go.RowKit Go.Proofs
set_option linter.unusedVariables false
set_option linter.unusedSimpArgs false
set_option linter.unusedSectionVars false
set_option maxRecDepth 100000
def turnS (r : List Lk) (x : Lk) : List Lk := r ++ [turnL x]
theorem turn_fold : ∀ (l r : List Lk), l.foldl turnS r = r ++ l.map turnL
  | [], r => by simp
  | x :: l, r => by rw [List.foldl_cons, turn_fold l]; simp [turnS]
theorem turn_ok {x : Lk} (h : x.ok) : (turnL x).ok := by
  unfold turnL
  split
  · exact h
  · split
    · exact ⟨h.a, h.b, rfl⟩
    · exact ⟨h.a, h.b, rfl⟩
theorem f6_ok {M : Nat} {n : Int} {l : List Lk} (hM : big + 60 ≤ M) (hn : ok64 n = true) (hl : okL Lk.ok l) : callP env (M + 1) 6 [i64 n, .sl 3 (l.map Lk.t)] = .ok (.bool true) := by
  have hb := big_val
  obtain ⟨m, rfl⟩ := exM (show 1 ≤ M by omega)
  rw [q6, W_ok (wfs2 (wf_int hn) (wf_okL (fun _ h => Lk.ok.wf h) hl)), cl_ok (f10_ok (by omega))]
  by_cases h2 : (((l.map Lk.t).length : Nat) : Int) > 40
  · rw [decide_eq_true h2]; rfl
  rw [decide_eq_false h2]
  rw [List.length_map] at h2
  have it := (iter_fold (B := bodyL env (m + 1) 6 0 6) (S := fun r k => sTR n l r (k : Nat)) (X := fun r => ⟨slots 52 [(0, PV.t (i64 n)), (5, PV.t (T.bool true)), (6, PV.own 0)], [AObj.row 40 3 (List.map Lk.t r)]⟩) (id := 0) (fun r k => r.length ≤ k) turnS l (n := m + 1) [] (by omega)
    (fun r k x hx hr => ⟨?_, by unfold turnS; simp; omega⟩) (fun r hr => ?_) (Nat.le_refl _)).1
  · refine (loopL_end it).trans ((t6_6_exit0 (m + 1) n _).trans ?_)
    rw [turn_fold, List.nil_append]
    have hto : okL Lk.ok (l.map turnL) := ⟨by rw [List.length_map]; omega, fun y hy => by
      obtain ⟨x, hx, rfl⟩ := List.mem_map.1 hy
      exact turn_ok (hl.2 x hx)⟩
    have h3 : ((l.map turnL).length + 1) * 64 ≤ big := by rw [List.length_map]; omega
    have h0 : okL Px.ok [] := ⟨Nat.zero_le _, fun x hx => by cases hx⟩
    obtain ⟨g1, g2⟩ := gao_parts (n := n) h0 h3
    have hg := f21_ok (M := m + 1) (n := n) (own := []) hn h0 hto h3
    rw [List.map_nil] at hg
    rw [cl_ok hg, cl_ok (check_ok (by omega) g1 g2), rising_check]
    rfl
  · have hk := (List.getElem?_eq_some_iff.1 hx).1
    rw [b6_6, decide_eq_true (by rw [List.length_map]; omega), cond_true, atT_get (map_get hx), show (x.t.cells.length == 3 && !x.t.isTup) = true from rfl, chk_true, show x.t.partD 2 1 false = i64 x.r from rfl]
    simp only [iT_int]
    have hw := wrap_succ (show k ≤ big by omega)
    have hd : decide (((List.map Lk.t r).length + 1) * 24 ≤ 140737488355328) = true := decide_eq_true (by rw [List.length_map]; omega)
    unfold turnS turnL
    by_cases h2 : x.r = 2
    · rw [if_pos h2, show (x.r != 2) = false by simp [h2], cond_false, hd, hw]
      show Res.ok (Ex.norm, _) = _
      unfold sTR
      rw [List.map_append]; rfl
    · rw [if_neg h2, show (x.r != 2) = true by simp [h2], cond_true]
      show (bif decide (x.a > x.b) then _ else _) = _
      by_cases h4 : x.a > x.b
      · rw [if_pos h4, decide_eq_true h4, cond_true, hd, hw]
        show Res.ok (Ex.norm, _) = _
        unfold sTR
        rw [List.map_append]; rfl
      · rw [if_neg h4, decide_eq_false h4, cond_false, hd, hw]
        show Res.ok (Ex.norm, _) = _
        unfold sTR
        rw [List.map_append]; rfl
  · rw [b6_6, decide_eq_false (by rw [List.length_map]; omega)]
    rfl
end Go.Sim

/- Links given twice, and a node without a neighbour, change nothing: on plain data. -/
namespace Go.Sim
open Go.RowKit Go.Proofs
set_option linter.unusedVariables false
set_option linter.unusedSimpArgs false
set_option linter.unusedSectionVars false
/-- A link that has been made, or can't be. -/
def Made (t : List Cf) (x : Lk) : Prop := linkG t x = t
def inB (n : Nat) (x : Lk) : Bool := decide (0 ≤ x.a) && decide (x.a < (n : Int)) && decide (0 ≤ x.b) && decide (x.b < (n : Int))
theorem link_len (t : List Cf) (x : Lk) : (linkG t x).length = t.length := by
  unfold linkG
  split
  · split
    · split
      · rfl
      · rw [List.length_set, List.length_set]
    · rfl
  · rfl
/-- With one node more behind. -/
theorem link_more {t : List Cf} {e : Cf} {x : Lk} (h : inB t.length x = true) : linkG (t ++ [e]) x = linkG t x ++ [e] := by
  unfold inB at h
  simp only [Bool.and_eq_true, decide_eq_true_eq] at h
  obtain ⟨⟨⟨h1, h2⟩, h3⟩, h4⟩ := h
  have hg : goodL (t ++ [e]).length x = goodL t.length x := by
    unfold goodL
    rw [List.length_append, List.length_singleton, decide_eq_true h2, decide_eq_true h4, decide_eq_true (show x.a < ((t.length + 1 : Nat) : Int) by omega), decide_eq_true (show x.b < ((t.length + 1 : Nat) : Int) by omega)]
  have la : x.a.toNat < t.length := by omega
  have lb : x.b.toNat < t.length := by omega
  unfold linkG
  rw [hg]
  by_cases hG : goodL t.length x = true
  · rw [if_pos hG, if_pos hG, List.getElem?_append_left la, List.getElem?_append_left lb, List.getElem?_eq_getElem la, List.getElem?_eq_getElem lb]
    simp only
    by_cases hi : (idxOf t[x.a.toNat] t[x.b.toNat].a).isSome = true
    · rw [if_pos hi, if_pos hi]
    · rw [if_neg hi, if_neg hi, List.set_append_left _ _ la, List.set_append_left _ _ (by rw [List.length_set]; exact lb)]
  · rw [if_neg hG, if_neg hG]
theorem links_more {e : Cf} : ∀ (l : List Lk) {t : List Cf}, (∀ x ∈ l, inB t.length x = true) → l.foldl linkG (t ++ [e]) = l.foldl linkG t ++ [e]
  | [], _, _ => rfl
  | x :: l, t, h => by
    rw [List.foldl_cons, List.foldl_cons, link_more (h x List.mem_cons_self)]
    exact links_more l fun y hy => by rw [link_len]; exact h y (List.mem_cons_of_mem _ hy)
theorem filterMap_same {α β : Type} {f g : α → Option β} : ∀ {l : List α}, (∀ x ∈ l, f x = g x) → l.filterMap f = l.filterMap g
  | [], _ => rfl
  | a :: l, h => by rw [List.filterMap_cons, List.filterMap_cons, h a List.mem_cons_self, filterMap_same fun x hx => h x (List.mem_cons_of_mem _ hx)]
variable [Lv]
theorem ring_inv {t : List Cf} {i : Nat} (h : ringR t = some i) : i < t.length ∧ Up t i i ∧ ∀ j < i, ¬ Up t j j := by
  unfold ringR at h
  rw [List.find?_eq_some_iff_getElem] at h
  obtain ⟨h1, k, hk, he, hb⟩ := h
  rw [List.getElem_range] at he
  subst he
  rw [List.length_range] at hk
  refine ⟨hk, steps_up _ _ h1, fun j hj hu => ?_⟩
  have := hb j hj
  rw [List.getElem_range, (steps_iff (by omega)).2 hu] at this
  cases this
theorem ring_no {t : List Cf} (h : ringR t = none) : ∀ j < t.length, ¬ Up t j j := fun j hj hu => by
  unfold ringR at h
  rw [List.find?_eq_none] at h
  exact h j (List.mem_range.2 hj) ((steps_iff hj).2 hu)
theorem ring_same {t u : List Cf} (hl : t.length ≤ u.length) (h1 : ∀ j < t.length, Up u j j ↔ Up t j j) (h2 : ∀ j, t.length ≤ j → j < u.length → ¬ Up u j j) : ringR u = ringR t := by
  cases hr : ringR t with
  | some i =>
    obtain ⟨a, b, c⟩ := ring_inv hr
    exact ring_some (by omega) ((h1 i a).2 b) fun j hj hu => c j hj ((h1 j (by omega)).1 hu)
  | none =>
    have := ring_no hr
    exact ring_none fun j hj hu => by
      by_cases hjl : j < t.length
      · exact this j hjl ((h1 j hjl).1 hu)
      · exact h2 j (by omega) hj hu
section
variable {own : List Px} {m : Nat} {t : List Cf} {e : Cf}
theorem prov_more (h : GInv own m t) {i : Nat} (hi : i < t.length) : provR (t ++ [e]) i = provR t i := by
  unfold provR
  rw [List.getElem?_append_left hi, List.getElem?_eq_getElem hi]
  simp only
  refine filterMap_same fun s hs => ?_
  obtain ⟨j, r, d, _, _, _, k4, k5, _⟩ := h.side i _ s (List.getElem?_eq_getElem hi) hs
  have nd := (h.node j d k5).1
  have fj : findA t s.a = some j := findIdx_only k5 (by rw [k4, nd]; simp [sideG]) fun x b hx hb => by
    have n2 := (h.node x b hx).1
    have hb : b.a = 65001 + (j : Int) := by rw [k4] at hb; simpa [sideG] using hb
    omega
  have fj2 : findA (t ++ [e]) s.a = some j := by
    unfold findA at fj ⊢
    rw [List.findIdx?_append, fj]; rfl
  rw [fj, fj2]
theorem up_more (h : GInv own m t) {i j : Nat} (hi : i < t.length) : Up (t ++ [e]) i j ↔ Up t i j := by
  constructor
  · intro hu
    induction hu with
    | one hj => rw [prov_more h hi] at hj; exact .one hj
    | more _ hm ih => rw [prov_more h ih.lt] at hm; exact .more ih hm
  · intro hu
    induction hu with
    | one hj => rw [← prov_more (e := e) h hi] at hj; exact .one hj
    | more hu hm ih => rw [← prov_more (e := e) h hu.lt] at hm; exact .more ih hm
theorem up_alone (he : e.s = []) {j : Nat} : ¬ Up (t ++ [e]) t.length j := by
  have hp : provR (t ++ [e]) t.length = [] := by
    unfold provR
    rw [List.getElem?_append_right (Nat.le_refl _), Nat.sub_self]
    simp only [List.getElem?_cons_zero, he, List.filterMap_nil]
  intro hu
  induction hu with
  | one hj => rw [hp] at hj; cases hj
  | more _ _ ih => exact ih
theorem ring_more (h : GInv own m t) (he : e.s = []) : ringR (t ++ [e]) = ringR t := ring_same (by simp) (fun j hj => up_more h hj) fun j h1 h2 => by
  rw [List.length_append, List.length_singleton] at h2
  obtain rfl : j = t.length := by omega
  exact up_alone he
end
end Go.Sim

/- Links given twice change nothing: on plain data. -/
namespace Go.Sim
open Go.RowKit Go.Proofs
set_option linter.unusedVariables false
set_option linter.unusedSimpArgs false
set_option linter.unusedSectionVars false
/-- Is there no more to make of a link? -/
def Done (t : List Cf) (x : Lk) : Prop := goodL t.length x = false ∨ ∃ c d s, t[x.a.toNat]? = some c ∧ t[x.b.toNat]? = some d ∧ s ∈ c.s ∧ s.a = d.a
theorem idx_some {c : Cf} {a : Int} {s : Sd} (hs : s ∈ c.s) (e : s.a = a) : (idxOf c a).isSome = true := by
  cases h : (idxOf c a).isSome with
  | true => rfl
  | false => exact absurd e (idx_none h s hs)
theorem Done.made {t : List Cf} {x : Lk} (h : Done t x) : linkG t x = t := by
  unfold linkG
  rcases h with h | ⟨c, d, s, hc, hd, hs, e⟩
  · rw [if_neg (by rw [h]; simp)]
  · split
    · rw [hc, hd]
      simp only
      rw [if_pos (idx_some hs e)]
    · rfl
/-- A node stays, and keeps its sides. -/
theorem link_grow {t : List Cf} {x : Lk} {i : Nat} {c : Cf} (hi : t[i]? = some c) : ∃ c', (linkG t x)[i]? = some c' ∧ c'.a = c.a ∧ ∀ s ∈ c.s, s ∈ c'.s := by
  have same : ∃ c', t[i]? = some c' ∧ c'.a = c.a ∧ ∀ s ∈ c.s, s ∈ c'.s := ⟨c, hi, rfl, fun _ h => h⟩
  unfold linkG
  split
  · split
    · rename_i c1 d1 hc hd
      split
      · exact same
      · rename_i hg _
        have li := (List.getElem?_eq_some_iff.1 hi).1
        rw [List.getElem?_set, List.length_set, List.getElem?_set]
        by_cases b1 : x.b.toNat = i
        · rw [if_pos b1, if_pos (by omega)]
          rw [b1, hi] at hd
          simp only [Option.some.injEq] at hd
          subst hd
          exact ⟨_, rfl, rfl, fun s hs => List.mem_append_left _ hs⟩
        · rw [if_neg b1]
          by_cases b2 : x.a.toNat = i
          · rw [if_pos b2, if_pos (by omega)]
            rw [b2, hi] at hc
            simp only [Option.some.injEq] at hc
            subst hc
            exact ⟨_, rfl, rfl, fun s hs => List.mem_append_left _ hs⟩
          · rw [if_neg b2]; exact same
    · exact same
  · exact same
theorem Done.keep {t : List Cf} {x : Lk} (h : Done t x) (y : Lk) : Done (linkG t y) x := by
  unfold Done at h ⊢
  rw [link_len]
  rcases h with h | ⟨c, d, s, hc, hd, hs, e⟩
  · exact .inl h
  · obtain ⟨c', k1, k2, k3⟩ := link_grow (x := y) hc
    obtain ⟨d', k4, k5, _⟩ := link_grow (x := y) hd
    exact .inr ⟨c', d', s, k1, k4, k3 s hs, by rw [e, k5]⟩
theorem done_link {t : List Cf} (x : Lk) : Done (linkG t x) x := by
  by_cases hg : goodL t.length x = true
  · have hg2 := hg
    unfold goodL at hg2
    simp only [Bool.and_eq_true, decide_eq_true_eq, Bool.not_eq_true', beq_eq_false_iff_ne] at hg2
    obtain ⟨⟨⟨⟨⟨⟨a1, a2⟩, a3⟩, a4⟩, a5⟩, a6⟩, a7⟩ := hg2
    have la : x.a.toNat < t.length := by omega
    have lb : x.b.toNat < t.length := by omega
    by_cases hi : (idxOf t[x.a.toNat] t[x.b.toNat].a).isSome = true
    · have hd : Done t x := by
        cases hf : idxOf t[x.a.toNat] t[x.b.toNat].a with
        | none => rw [hf] at hi; cases hi
        | some k =>
          obtain ⟨h1, h2, _⟩ := List.findIdx?_eq_some_iff_getElem.1 hf
          exact .inr ⟨_, _, _, List.getElem?_eq_getElem la, List.getElem?_eq_getElem lb, List.getElem_mem h1, by simpa using h2⟩
      rw [hd.made]; exact hd
    · have hl : linkG t x = (t.set x.a.toNat (addS t[x.a.toNat] (sideG t[x.b.toNat].a x.r))).set x.b.toNat (addS t[x.b.toNat] (sideG t[x.a.toNat].a (4 - x.r))) := by
        unfold linkG
        rw [if_pos hg, List.getElem?_eq_getElem la, List.getElem?_eq_getElem lb]
        simp only
        rw [if_neg hi]
      rw [hl]
      refine .inr ⟨addS t[x.a.toNat] (sideG t[x.b.toNat].a x.r), addS t[x.b.toNat] (sideG t[x.a.toNat].a (4 - x.r)), sideG t[x.b.toNat].a x.r, ?_, ?_, List.mem_append_right _ (List.mem_singleton.2 rfl), rfl⟩
      · rw [List.getElem?_set, if_neg (by omega), List.getElem?_set, if_pos rfl, if_pos (by omega)]
      · rw [List.getElem?_set, if_pos rfl, if_pos (by rw [List.length_set]; omega)]
  · have h : goodL t.length x = false := by simpa using hg
    refine .inl ?_
    rw [link_len]; exact h
theorem done_all : ∀ (l : List Lk) {t : List Cf} {x : Lk}, (x ∈ l ∨ Done t x) → Done (l.foldl linkG t) x
  | [], t, x, h => h.resolve_left (by simp)
  | y :: l, t, x, h => by
    rw [List.foldl_cons]
    refine done_all l ?_
    rcases h with h | h
    · rcases List.mem_cons.1 h with rfl | h
      · exact .inr (done_link x)
      · exact .inl h
    · exact .inr (h.keep y)
theorem made_all : ∀ (l : List Lk) {t : List Cf}, (∀ x ∈ l, Done t x) → l.foldl linkG t = t
  | [], _, _ => rfl
  | x :: l, t, h => by rw [List.foldl_cons, (h x List.mem_cons_self).made]; exact made_all l fun y hy => h y (List.mem_cons_of_mem _ hy)
/-- Given twice, and one to itself. -/
theorem gao_twice (n : Int) (own : List Px) (l : List Lk) : gaoR n own (l ++ l ++ [⟨0, 0, 3⟩]) = gaoR n own l := by
  unfold gaoR
  rw [List.foldl_append, List.foldl_append, made_all l fun x hx => done_all l (.inl hx)]
  exact made_all _ fun x hx => by
    rw [List.mem_singleton.1 hx]
    refine .inl ?_
    unfold goodL
    simp
/-- With one node more, that has no neighbour. -/
theorem gao_more {n : Int} {own : List Px} {l : List Lk} (h1 : 1 ≤ n) (h6 : n ≤ 6) (h : ∀ x ∈ l, inB n.toNat x = true) : ∃ e : Cf, e.s = [] ∧ gaoR (n + 1) own l = gaoR n own l ++ [e] := by
  have hn : numG n = n.toNat := by unfold numG; omega
  have hn1 : numG (n + 1) = n.toNat + 1 := by unfold numG; omega
  refine ⟨nodeG own n.toNat, rfl, ?_⟩
  unfold gaoR
  rw [hn, hn1, List.range_succ, List.map_append]
  exact links_more l fun x hx => by simpa using h x hx
theorem alone_check [Lv] {n : Int} {own : List Px} {l : List Lk} (h1 : 1 ≤ n) (h6 : n ≤ 6) (h : ∀ x ∈ l, inB n.toNat x = true) : checkR (gaoR (n + 1) own l) = checkR (gaoR n own l) := by
  obtain ⟨e, he, hg⟩ := gao_more (own := own) h1 h6 h
  rw [gao_check, gao_check, hg, ring_more (gao_inv n own l) he]
end Go.Sim

/- What calls come to: printed by wip/tools/eq2.py: TopoAlone. -/
namespace Go.Sim
open Go.RowKit Go.Proofs
set_option linter.unusedVariables false
set_option maxRecDepth 100000
variable [Lv]

def sTA (n : Int) (l r : List Lk) (i : Int) : St := ⟨slots 126 [(0, .t (i64 n)), (1, .t (.sl 3 (l.map Lk.t))), (5, .t (.bool true)), (6, .own 0), (7, .t (i64 i))], [.row 40 3 (r.map Lk.t)]⟩
theorem q9 (N : Nat) (n : Int) (l : List Lk) : callP env (N + 1) 9 [i64 n, .sl 3 (l.map Lk.t)] = W [i64 n, .sl 3 (l.map Lk.t)] (cl N 10 [] fun x => bif decide ((↑(List.map Lk.t l).length : Int) > 40) then Res.ok x else bif decide (n < 1) then Res.ok x else bif decide (n > 6) then Res.ok x else loopL env N 9 6 { tmps := slots 126 [(0, PV.t (i64 n)), (1, PV.t (T.sl 3 (List.map Lk.t l))), (5, PV.t x), (6, PV.own 0), (7, PV.t (i64 0))], heap := [AObj.row 40 3 []] }) := by kernel_rfl
theorem b9_6 (N : Nat) (n : Int) (l r : List Lk) (i : Int) : bodyL env N 9 0 6 (sTA n l r i) = bif decide (i < (↑(List.map Lk.t l).length : Int)) then atT (List.map Lk.t l) i fun e => iT IntKind.i64 (e.partD 0 1 false) fun a => bif decide (a ≥ 0) then atT (List.map Lk.t l) i fun e => iT IntKind.i64 (e.partD 0 1 false) fun a => bif decide (a < n) then atT (List.map Lk.t l) i fun e => iT IntKind.i64 (e.partD 1 1 false) fun a => bif decide (a ≥ 0) then atT (List.map Lk.t l) i fun e => iT IntKind.i64 (e.partD 1 1 false) fun a => bif decide (a < n) then atT (List.map Lk.t l) i fun e => chkAll (T.okE 3) [e] (chk (decide (((List.map Lk.t r).length + 1) * 24 ≤ 140737488355328)) (Res.ok (Ex.norm, { tmps := slots 126 [(0, PV.t (i64 n)), (1, PV.t (T.sl 3 (List.map Lk.t l))), (5, PV.t (T.bool true)), (6, PV.own 0), (7, PV.t (i64 (IntKind.i64.wrap (i + 1))))], heap := [AObj.row 40 3 (List.map Lk.t r ++ [e])] }))) else Res.ok (Ex.norm, sTA n l r (IntKind.i64.wrap (i + 1))) else Res.ok (Ex.norm, sTA n l r (IntKind.i64.wrap (i + 1))) else Res.ok (Ex.norm, sTA n l r (IntKind.i64.wrap (i + 1))) else Res.ok (Ex.norm, sTA n l r (IntKind.i64.wrap (i + 1))) else Res.ok (Ex.exit 0, { tmps := slots 126 [(0, PV.t (i64 n)), (5, PV.t (T.bool true)), (6, PV.own 0)], heap := [AObj.row 40 3 (List.map Lk.t r)] }) := by kernel_rfl
theorem t9_6_exit0 (N : Nat) (n : Int) (r : List Lk) : tailL env N 9 0 6 (outK env 9) (.exit 0) (⟨slots 126 [(0, .t (i64 n)), (5, .t (.bool true)), (6, .own 0)], [.row 40 3 (r.map Lk.t)]⟩) = chkAll (T.okE 3) [] (chk (decide ((0 + (List.map Lk.t r).length) * 24 ≤ 140737488355328)) (chk (decide (((List.map Lk.t r).length + (List.map Lk.t r).length) * 24 ≤ 140737488355328)) (chkAll (T.okE 3) [T.agg [i64 0, i64 0, i64 3]] (chk (decide (((List.map Lk.t r ++ List.map Lk.t r).length + 1) * 24 ≤ 140737488355328)) (cl N 21 [i64 n, T.sl 2 [], T.sl 3 (List.map Lk.t r)] fun x => cl N 16 [x] fun x => compT x 0 fun y => compT x 1 fun y_1 => cl N 21 [i64 (IntKind.i64.wrap (n + 1)), T.sl 2 [], T.sl 3 (List.map Lk.t r)] fun x => cl N 16 [x] fun x => compT x 0 fun y_2 => compT x 1 fun y_3 => cl N 21 [i64 n, T.sl 2 [], T.sl 3 (List.map Lk.t r ++ List.map Lk.t r ++ [T.agg [i64 0, i64 0, i64 3]])] fun x => cl N 16 [x] fun x => compT x 0 fun y_4 => compT x 1 fun y_5 => iT IntKind.i64 y fun a => iT IntKind.i64 y_2 fun b => bif a == b then iT IntKind.i64 y_1 fun a => iT IntKind.i64 y_3 fun b => bif a == b then iT IntKind.i64 y fun a => iT IntKind.i64 y_4 fun b => bif a == b then iT IntKind.i64 y_1 fun a => iT IntKind.i64 y_5 fun b => rB (a == b) else rB false else rB false else rB false))))) := by kernel_rfl
end Go.Sim

/- Layer 16: TopoAlone. -/
namespace Go.Sim
open Go.RowKit Go.Proofs
set_option linter.unusedVariables false
set_option linter.unusedSimpArgs false
set_option linter.unusedSectionVars false
set_option maxRecDepth 100000
def fewS (n : Int) (r : List Lk) (x : Lk) : List Lk := if inB n.toNat x then r ++ [x] else r
theorem few_fold {n : Int} : ∀ (l r : List Lk), l.foldl (fewS n) r = r ++ l.filter (inB n.toNat)
  | [], r => by simp
  | x :: l, r => by
    rw [List.foldl_cons, few_fold l, List.filter_cons]
    unfold fewS
    split <;> simp
theorem few_len {n : Int} {r : List Lk} {x : Lk} {k : Nat} (h : r.length ≤ k) : (fewS n r x).length ≤ k + 1 := by
  unfold fewS
  split
  · rw [List.length_append, List.length_singleton]; omega
  · omega
theorem ck0 (K : Res T) : chkAll (T.okE 3) [] K = K := by kernel_rfl
theorem ck1 (K : Res T) : chkAll (T.okE 3) [T.agg [i64 0, i64 0, i64 3]] K = K := by kernel_rfl
theorem few_bytes {a : Nat} (h : a ≤ 40) : decide ((0 + a) * 24 ≤ 140737488355328) = true ∧ decide ((a + a) * 24 ≤ 140737488355328) = true ∧ decide ((a + a + 1) * 24 ≤ 140737488355328) = true := ⟨decide_eq_true (by omega), decide_eq_true (by omega), decide_eq_true (by omega)⟩
theorem alone_end {m : Nat} {n : Int} {f : List Lk} (hM : big + 50 ≤ m) (h1 : 1 ≤ n) (h6 : n ≤ 6) (hfl : f.length ≤ 40) (hin : ∀ x ∈ f, inB n.toNat x = true) (hfo : okL Lk.ok f) : (chkAll (T.okE 3) [] (chk (decide ((0 + (List.map Lk.t f).length) * 24 ≤ 140737488355328)) (chk (decide (((List.map Lk.t f).length + (List.map Lk.t f).length) * 24 ≤ 140737488355328)) (chkAll (T.okE 3) [T.agg [i64 0, i64 0, i64 3]] (chk (decide (((List.map Lk.t f ++ List.map Lk.t f).length + 1) * 24 ≤ 140737488355328)) (cl (m + 1) 21 [i64 n, T.sl 2 [], T.sl 3 (List.map Lk.t f)] fun x => cl (m + 1) 16 [x] fun x => compT x 0 fun y => compT x 1 fun y_1 => cl (m + 1) 21 [i64 (IntKind.i64.wrap (n + 1)), T.sl 2 [], T.sl 3 (List.map Lk.t f)] fun x => cl (m + 1) 16 [x] fun x => compT x 0 fun y_2 => compT x 1 fun y_3 => cl (m + 1) 21 [i64 n, T.sl 2 [], T.sl 3 (List.map Lk.t f ++ List.map Lk.t f ++ [T.agg [i64 0, i64 0, i64 3]])] fun x => cl (m + 1) 16 [x] fun x => compT x 0 fun y_4 => compT x 1 fun y_5 => iT IntKind.i64 y fun a => iT IntKind.i64 y_2 fun b => bif a == b then iT IntKind.i64 y_1 fun a => iT IntKind.i64 y_3 fun b => bif a == b then iT IntKind.i64 y fun a => iT IntKind.i64 y_4 fun b => bif a == b then iT IntKind.i64 y_1 fun a => iT IntKind.i64 y_5 fun b => rB (a == b) else rB false else rB false else rB false))))) : Res T) = .ok (.bool true) := by
  have hb := big_val
  have hn : ok64 n = true := ok64_iff.2 (by omega)
  have h0 : okL Px.ok [] := ⟨Nat.zero_le _, fun x hx => by cases hx⟩
  have h3 : (f.length + 1) * 64 ≤ big := by omega
  have hto : okL Lk.ok (f ++ f ++ [(⟨0, 0, 3⟩ : Lk)]) := ⟨by
    simp only [List.length_append, List.length_singleton]
    exact Nat.le_trans (by omega) (show 81 ≤ big by decide), fun x hx => by
    rcases List.mem_append.1 hx with hx | hx
    · rcases List.mem_append.1 hx with hx | hx
      · exact hfo.2 x hx
      · exact hfo.2 x hx
    · rw [List.mem_singleton.1 hx]; exact ⟨rfl, rfl, rfl⟩⟩
  have h4 : ((f ++ f ++ [(⟨0, 0, 3⟩ : Lk)]).length + 1) * 64 ≤ big := by
    simp only [List.length_append, List.length_singleton]
    exact Nat.le_trans (Nat.mul_le_mul_right 64 (show f.length + f.length + 1 + 1 ≤ 82 from by omega)) (show 82 * 64 ≤ big by decide)
  have hn2 : ok64 (n + 1) = true := ok64_iff.2 (by omega)
  have g1 := f21_ok (M := m + 1) (n := n) (own := []) hn h0 hfo h3
  have g2 := f21_ok (M := m + 1) (n := n + 1) (own := []) hn2 h0 hfo h3
  have g3 := f21_ok (M := m + 1) (n := n) (own := []) hn h0 hto h4
  rw [List.map_nil] at g1 g2 g3
  rw [gao_twice] at g3
  rw [List.map_append, List.map_append] at g3
  obtain ⟨p1, p2⟩ := gao_parts (n := n) h0 h3
  obtain ⟨p3, p4⟩ := gao_parts (n := n + 1) h0 h3
  have c1 := check_ok (M := m) (by omega) p1 p2
  have c2 := check_ok (M := m) (by omega) p3 p4
  rw [alone_check (by omega) (by omega) hin] at c2
  have d1 : decide ((0 + (List.map Lk.t f).length) * 24 ≤ 140737488355328) = true := by
    simp only [List.length_map]
    exact (few_bytes hfl).1
  have d2 : decide (((List.map Lk.t f).length + (List.map Lk.t f).length) * 24 ≤ 140737488355328) = true := by
    simp only [List.length_map]
    exact (few_bytes hfl).2.1
  have d3 : decide (((List.map Lk.t f ++ List.map Lk.t f).length + 1) * 24 ≤ 140737488355328) = true := by
    simp only [List.length_append, List.length_map]
    exact (few_bytes hfl).2.2
  rw [d1, d2, d3, wrap64 (n := n + 1) (by omega)]
  rw [ck0, chk_true, chk_true, ck1, chk_true]
  rw [cl_ok g1, cl_ok c1]
  simp only [compT, List.getElem?_cons_zero, List.getElem?_cons_succ]
  rw [cl_ok g2, cl_ok c2]
  simp only [compT, List.getElem?_cons_zero, List.getElem?_cons_succ]
  rw [show [T.agg [i64 0, i64 0, i64 3]] = List.map Lk.t [(⟨0, 0, 3⟩ : Lk)] from rfl, cl_ok g3, cl_ok c1]
  simp only [compT, List.getElem?_cons_zero, List.getElem?_cons_succ, iT_int]
  rw [beq_self_eq_true, beq_self_eq_true]
  rfl
theorem f9_ok {M : Nat} {n : Int} {l : List Lk} (hM : big + 60 ≤ M) (hn : ok64 n = true) (hl : okL Lk.ok l) : callP env (M + 1) 9 [i64 n, .sl 3 (l.map Lk.t)] = .ok (.bool true) := by
  have hb := big_val
  obtain ⟨m, rfl⟩ := exM (show 1 ≤ M by omega)
  rw [q9, W_ok (wfs2 (wf_int hn) (wf_okL (fun _ h => Lk.ok.wf h) hl)), cl_ok (f10_ok (by omega))]
  by_cases h2 : (((l.map Lk.t).length : Nat) : Int) > 40
  · rw [decide_eq_true h2]; rfl
  rw [decide_eq_false h2]
  rw [List.length_map] at h2
  by_cases hn1 : n < 1
  · rw [decide_eq_true hn1]; rfl
  rw [decide_eq_false hn1]
  by_cases hn6 : n > 6
  · rw [decide_eq_true hn6]; rfl
  rw [decide_eq_false hn6]
  have it := (iter_fold (B := bodyL env (m + 1) 9 0 6) (S := fun r k => sTA n l r (k : Nat)) (X := fun r => ⟨slots 126 [(0, PV.t (i64 n)), (5, PV.t (T.bool true)), (6, PV.own 0)], [AObj.row 40 3 (List.map Lk.t r)]⟩) (id := 0) (fun r k => r.length ≤ k) (fewS n) l (n := m + 1) [] (by omega)
    (fun r k x hx hr => ⟨?_, few_len hr⟩) (fun r hr => ?_) (Nat.le_refl _)).1
  · refine (loopL_end it).trans ((t9_6_exit0 (m + 1) n _).trans ?_)
    rw [few_fold, List.nil_append]
    have hfl : (l.filter (inB n.toNat)).length ≤ l.length := List.length_filter_le _ _
    have hin : ∀ x ∈ l.filter (inB n.toNat), inB n.toNat x = true := fun x hx => (List.mem_filter.1 hx).2
    have hfo : okL Lk.ok (l.filter (inB n.toNat)) := ⟨by omega, fun x hx => hl.2 x (List.mem_filter.1 hx).1⟩
    generalize l.filter (inB n.toNat) = f at hfl hin hfo
    exact alone_end (by omega) (by omega) (by omega) (by omega) hin hfo
  · have hk := (List.getElem?_eq_some_iff.1 hx).1
    have hw := wrap_succ (show k ≤ big by omega)
    have hd : decide (((List.map Lk.t r).length + 1) * 24 ≤ 140737488355328) = true := decide_eq_true (by rw [List.length_map]; omega)
    rw [b9_6, decide_eq_true (by rw [List.length_map]; omega), cond_true]
    have ea : ∀ (K : T → Res (Ex × St)), atT (List.map Lk.t l) (k : Int) K = K x.t := fun K => atT_get (map_get hx)
    have pa : x.t.partD 0 1 false = i64 x.a := rfl
    have pb : x.t.partD 1 1 false = i64 x.b := rfl
    simp only [ea, pa, pb, iT_int]
    rw [hd, hw]
    have hnn : ((n.toNat : Nat) : Int) = n := Int.toNat_of_nonneg (by omega)
    unfold fewS inB
    rw [hnn]
    by_cases a1 : 0 ≤ x.a
    · rw [decide_eq_true (show x.a ≥ 0 from a1), cond_true]
      by_cases a2 : x.a < n
      · rw [decide_eq_true a2, cond_true]
        by_cases a3 : 0 ≤ x.b
        · rw [decide_eq_true (show x.b ≥ 0 from a3), cond_true]
          by_cases a4 : x.b < n
          · rw [decide_eq_true a4, cond_true]
            show Res.ok (Ex.norm, _) = Res.ok (Ex.norm, sTA n l (r ++ [x]) _)
            unfold sTA
            rw [List.map_append]; rfl
          · rw [decide_eq_false a4]; rfl
        · rw [decide_eq_false (show ¬ x.b ≥ 0 from a3)]; rfl
      · rw [decide_eq_false a2]; rfl
    · rw [decide_eq_false (show ¬ x.a ≥ 0 from a1)]; rfl
  · rw [b9_6, decide_eq_false (by rw [List.length_map]; omega)]
    rfl
end Go.Sim
