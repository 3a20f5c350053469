/- Apply, whole; the law on room. -/
import Derived.Test.YtmidmdabmalhgaaS4
import Derived.Test.YtmidmdabmalhgaaS5
import Derived.Test.YtmidmdabmalhgaaS6
namespace Go.Sim
open Go.RowKit Go.Proofs
set_option linter.unusedVariables false
set_option linter.unusedSimpArgs false
set_option maxRecDepth 100000

theorem goneE_len (l : List En) (x : Px) : (goneE l x).length ≤ l.length := by
  unfold goneE
  cases thereE l x with
  | false => exact Nat.le_refl _
  | true => simp only [cond_true, List.length_append, List.length_take, List.length_drop]; omega
theorem goneE_ok {l : List En} {x : Px} (h : ∀ e ∈ l, e.ok) : ∀ e ∈ goneE l x, e.ok := fun e he => by
  unfold goneE at he
  cases hth : thereE l x with
  | false => rw [hth] at he; exact h e he
  | true =>
    rw [hth] at he
    simp only [cond_true, List.mem_append] at he
    exact he.elim (fun q => h e (List.mem_of_mem_take q)) (fun q => h e (List.mem_of_mem_drop q))
theorem newE_len (p : Pa) (l : List En) (x : Px) : (newE p l x).length ≤ l.length + 1 := by
  have := placeE_le l x
  unfold newE
  cases psane x && asane p <;> cases thereE l x <;> simp <;> omega
theorem newE_ok {p : Pa} {l : List En} {x : Px} (h : ∀ e ∈ l, e.ok) (hp : p.ok) (hx : x.ok) : ∀ e ∈ newE p l x, e.ok := fun e he => by
  unfold newE at he
  cases h1 : (psane x && asane p) with
  | false => rw [h1] at he; exact h e he
  | true =>
    rw [h1] at he
    cases hth : thereE l x with
    | true =>
      rw [hth] at he
      simp only [cond_true] at he
      rcases List.mem_or_eq_of_mem_set he with he | rfl
      · exact h e he
      · exact ⟨hx, hp⟩
    | false =>
      rw [hth] at he
      simp only [cond_true, cond_false, List.mem_append, List.mem_singleton] at he
      rcases he with (q | rfl) | q
      · exact h e (List.mem_of_mem_take q)
      · exact ⟨hx, hp⟩
      · exact h e (List.mem_of_mem_drop q)
theorem gones_len : ∀ (g : List Px) (l : List En), (g.foldl goneE l).length ≤ l.length
  | [], l => Nat.le_refl _
  | x :: g, l => Nat.le_trans (gones_len g (goneE l x)) (goneE_len l x)
theorem gones_ok : ∀ (g : List Px) {l : List En}, (∀ e ∈ l, e.ok) → ∀ e ∈ g.foldl goneE l, e.ok
  | [], l, h => h
  | x :: g, l, h => gones_ok g (goneE_ok h)
theorem news_len (p : Pa) : ∀ (m : List Px) (l : List En), (m.foldl (newE p) l).length ≤ l.length + m.length
  | [], l => Nat.le_refl _
  | x :: m, l => by
    have := news_len p m (newE p l x)
    have := newE_len p l x
    simp only [List.foldl_cons, List.length_cons]; omega
theorem news_ok {p : Pa} (hp : p.ok) : ∀ (m : List Px) {l : List En}, (∀ x ∈ m, x.ok) → (∀ e ∈ l, e.ok) → ∀ e ∈ m.foldl (newE p) l, e.ok
  | [], l, _, h => h
  | x :: m, l, hm, h => news_ok hp m (fun y hy => hm y (List.mem_cons_of_mem _ hy)) (newE_ok h hp (hm x List.mem_cons_self))
theorem applyE_len (t : List En) (n : Nw) : (applyE t n).length ≤ t.length + n.m.length := by
  have h1 := news_len n.p n.m (n.g.foldl goneE (known t))
  have h2 := gones_len n.g (known t)
  have h3 := known_len t
  unfold applyE; omega
theorem applyE_ok {t : List En} {n : Nw} (ht : ∀ e ∈ t, e.ok) (hn : n.ok) : ∀ e ∈ applyE t n, e.ok :=
  news_ok hn.p n.m hn.m (gones_ok n.g fun e he => ht e (known_sub he))

def X21 (l : List En) (n : Nw) (k : Int) : St := ⟨slots 82 [(0, .own 0), (2, .t (i64 k)), (4, .ptr 1 0)], [.row 64 6 (l.map En.t), .box 45 6 (.t (.agg [.sl 2 (n.g.map Px.t), i64 n.p.o, .sl 1 (ints n.p.s), i64 n.p.h, i64 n.p.c, .sl 2 (n.m.map Px.t)]))]⟩
def Y21 (l : List En) (k : Int) : St := ⟨slots 82 [(0, .own 0), (2, .t (i64 k))], [.row 64 6 (l.map En.t)]⟩
theorem a21_exit {N : Nat} {l : List En} {n : Nw} {k : Int} : bodyL env (N + 1) 21 0 3 (A21 l n k n.g.length) = .ok (.exit 0, X21 l n k) := by
  unfold A21 X21
  rw [b21_3, decide_eq_false (show ¬ ((n.g.length : Int) < ((n.g.map Px.t).length : Int)) by rw [List.length_map]; omega)]
  simp only [cond_false]
theorem b21_exit {N : Nat} {l : List En} {n : Nw} {k : Int} : bodyL env (N + 1) 21 0 10 (B21 l n k n.m.length) = .ok (.exit 2, Y21 l k) := by
  unfold B21 Y21
  rw [b21_10, decide_eq_false (show ¬ ((n.m.length : Int) < ((n.m.map Px.t).length : Int)) by rw [List.length_map]; omega)]
  simp only [cond_false]
theorem gone_loop {N : Nat} {n : Nw} {k : Int} (hn : n.ok) (hN : big + 8 ≤ N) : ∀ (rest pre : List Px) (l : List En) (fuel : Nat), n.g = pre ++ rest → rest.length < fuel → l.length ≤ big → (∀ e ∈ l, e.ok) →
    iterR (bodyL env (N + 1) 21 0 3) fuel (A21 l n k pre.length) = .ok (.exit 0, X21 (rest.foldl goneE l) n k)
  | [], pre, l, fuel + 1, hg, hf, hl, hs => by
    have : pre.length = n.g.length := by rw [hg]; simp
    rw [this, iterR_exit a21_exit, List.foldl_nil]
  | x :: rest, pre, l, fuel + 1, hg, hf, hl, hs => by
    have hx : n.g[pre.length]? = some x := by rw [hg]; simp
    rw [iterR_step (b21_gone hx (hn.g x (List.mem_of_getElem? hx)) hn.gl hl hs hN)]
    have := gone_loop (k := k) hn hN rest (pre ++ [x]) (goneE l x) fuel (by rw [hg]; simp) (by simp at hf; omega) (Nat.le_trans (goneE_len l x) hl) (goneE_ok hs)
    rw [List.length_append] at this
    exact this
theorem new_loop {N : Nat} {n : Nw} {k : Int} (hn : n.ok) (hN : big + 8 ≤ N) (rest : List Px) : ∀ (pre : List Px) (l : List En) (fuel : Nat), n.m = pre ++ rest → rest.length < fuel → (l.length + rest.length + 1) * 64 ≤ big → (∀ e ∈ l, e.ok) →
    iterR (bodyL env (N + 1) 21 0 10) fuel (B21 l n k pre.length) = .ok (.exit 2, Y21 (rest.foldl (newE n.p) l) k) := by
  induction rest with
  | nil =>
    intro pre l fuel hg hf hl hs
    obtain ⟨fuel, rfl⟩ : ∃ f, fuel = f + 1 := ⟨fuel - 1, by omega⟩
    have : pre.length = n.m.length := by rw [hg]; simp
    rw [this, iterR_exit b21_exit, List.foldl_nil]
  | cons x rest ih =>
    intro pre l fuel hg hf hl hs
    obtain ⟨fuel, rfl⟩ : ∃ f, fuel = f + 1 := ⟨fuel - 1, by omega⟩
    have hx : n.m[pre.length]? = some x := by rw [hg]; simp
    have hxo := hn.m x (List.mem_of_getElem? hx)
    have h1 := newE_len n.p l x
    rw [List.length_cons] at hl hf
    have hl1 : (l.length + 1) * 64 ≤ big := Nat.le_trans (Nat.mul_le_mul_right 64 (by omega)) hl
    have hl2 : ((newE n.p l x).length + rest.length + 1) * 64 ≤ big := Nat.le_trans (Nat.mul_le_mul_right 64 (by omega)) hl
    have hstep := b21_new (k := k) hx hxo hn.p hn.ml hl1 hs hN
    rw [iterR_step hstep]
    have hg2 : n.m = (pre ++ [x]) ++ rest := by rw [hg]; simp
    have h2 := ih (pre ++ [x]) (newE n.p l x) fuel hg2 (by omega) hl2 (newE_ok hs hn.p hxo)
    rw [show (pre ++ [x]).length = pre.length + 1 by simp] at h2
    rw [h2, List.foldl_cons]

theorem f46_ok {N : Nat} {l : List En} (hl : l.length * 64 ≤ big) (hs : ∀ e ∈ l, e.ok) : callP env N 46 [.sl 6 (l.map En.t)] = .ok (.sl 6 (l.map En.t)) := by
  have hw : T.wfs [.sl 6 (l.map En.t)] = true := wfs1 (wf_sl (by omega) fun e he => (hs e he).wf)
  show (bif T.wfs [.sl 6 (l.map En.t)] then cloneG 6 64 [.sl 6 (l.map En.t)] else .absurd) = _
  rw [hw]
  simp only [cond_true, cloneG, List.length_map]
  rw [decide_eq_true hl]
  rfl

theorem f21_ok {M : Nat} {t : List En} {n : Nw} {k : Int} (hM : big + 13 ≤ M) (hl : (t.length + n.m.length + 1) * 64 ≤ big) (hs : ∀ e ∈ t, e.ok) (hn : n.ok) (hk : ok64 k = true) :
    callP env (M + 1) 21 [.sl 6 (t.map En.t), n.t, i64 k] = .ok (bif decide (((applyE t n).length : Int) > k) then .tup [.sl 6 [], .bool false] else .tup [.sl 6 ((applyE t n).map En.t), .bool true]) := by
  obtain ⟨m, rfl⟩ : ∃ m, M = m + 1 := ⟨M - 1, by omega⟩
  have hw := wfs3 (wf_sl (k := 6) (show t.length ≤ big by omega) fun e he => (hs e he).wf) hn.wf (wf_int hk)
  have h43 := f43_ok (M := m) (l := t) (by omega) (by omega) hs
  have hkl := known_len t
  have hks : ∀ e ∈ known t, e.ok := fun e he => hs e (known_sub he)
  have h46 := f46_ok (N := m + 1) (l := known t) (by omega) hks
  simp only [Nw.t] at hw ⊢
  rw [e21, hw, h43]
  simp only [cond_true, Res.bind_ok]
  rw [h46]
  simp only [Res.bind_ok, slT, if_true]
  rw [show (⟨slots 82 [(0, .own 0), (2, .t (i64 k)), (4, .ptr 1 0), (21, .t (.sl 2 (n.g.map Px.t))), (22, .t (i64 ((n.g.map Px.t).length : Int))), (23, .t (i64 0))], [.row 64 6 ((known t).map En.t), .box 45 6 (.t (.agg [.sl 2 (n.g.map Px.t), i64 n.p.o, .sl 1 (ints n.p.s), i64 n.p.h, i64 n.p.c, .sl 2 (n.m.map Px.t)]))]⟩ : St) = A21 (known t) n k ([] : List Px).length from rfl]
  unfold loopL
  have hgl1 : n.g.length < m + 1 := by have := hn.gl; omega
  have hgo := gone_loop (k := k) hn (show big + 8 ≤ m by omega) n.g [] (known t) (m + 1) rfl hgl1 (by omega) hks
  rw [hgo]
  rw [Res.bind_ok]
  show tailL env (m + 1) 21 0 3 (outK env 21) (.exit 0) (X21 (n.g.foldl goneE (known t)) n k) = _
  unfold X21
  rw [t21_3_exit0]
  rw [show (⟨slots 82 [(0, .own 0), (2, .t (i64 k)), (4, .ptr 1 0), (41, .t (.sl 2 (n.m.map Px.t))), (42, .t (i64 ((n.m.map Px.t).length : Int))), (43, .t (i64 0))], [.row 64 6 ((n.g.foldl goneE (known t)).map En.t), .box 45 6 (.t (.agg [.sl 2 (n.g.map Px.t), i64 n.p.o, .sl 1 (ints n.p.s), i64 n.p.h, i64 n.p.c, .sl 2 (n.m.map Px.t)]))]⟩ : St) = B21 (n.g.foldl goneE (known t)) n k ([] : List Px).length from rfl]
  unfold loopL
  have hgl := gones_len n.g (known t)
  have hml : n.m.length < m + 1 := by have := hn.ml; omega
  have hl3 : ((n.g.foldl goneE (known t)).length + n.m.length + 1) * 64 ≤ big := Nat.le_trans (Nat.mul_le_mul_right 64 (by omega)) hl
  have hnl := new_loop (k := k) hn (show big + 8 ≤ m by omega) n.m [] (n.g.foldl goneE (known t)) (m + 1) rfl hml hl3 (gones_ok n.g hks)
  rw [hnl]
  rw [Res.bind_ok]
  show tailL env (m + 1) 21 0 10 (outK env 21) (.exit 2) (Y21 (applyE t n) k) = _
  unfold Y21
  rw [t21_10_exit2, List.length_map]
  cases decide (((applyE t n).length : Int) > k) <;> rfl

/-- MORE THAN MAY BE IS TOLD. -/
theorem f7_ok {M : Nat} {t : List En} {n : Nw} {k : Int} (hM : big + 60 ≤ M) (hl : t.length ≤ big) (hs : ∀ e ∈ t, e.ok) (hn : n.ok) (hk : ok64 k = true) :
    callP env (M + 1) 7 [.sl 6 (t.map En.t), n.t, i64 k] = .ok (.bool true) := by
  obtain ⟨m, rfl⟩ : ∃ m, M = m + 1 := ⟨M - 1, by omega⟩
  have hw := wfs3 (wf_sl (k := 6) hl fun e he => (hs e he).wf) hn.wf (wf_int hk)
  obtain ⟨q, hq⟩ : ∃ q, m + 1 = q + 40 := ⟨m + 1 - 40, by omega⟩
  have h16 : callP env (m + 1) 16 [] = .ok (.bool true) := by rw [hq]; exact awake18 q
  have h17 := f17_ok (M := m) (l := t) (by omega) hl hs
  have h18 := f18_ok (M := m) hn
  simp only [Nw.t] at hw h18 ⊢
  rw [e7, hw, h16, h17]
  simp only [cond_true, Res.bind_ok, bT_bool]
  cases hf : fewE t with
  | false => rfl
  | true =>
  simp only [Bool.not_true, cond_false]
  rw [h18]
  simp only [Res.bind_ok, bT_bool]
  cases hfn : fewN n with
  | false => rfl
  | true =>
  simp only [Bool.not_true, cond_false]
  have hlen : (t.length + n.m.length + 1) * 64 ≤ big := by
    simp only [fewE, Bool.and_eq_true, decide_eq_true_eq] at hf
    simp only [fewN, Bool.and_eq_true, decide_eq_true_eq] at hfn
    have := big_val
    omega
  have hlen2 : (applyE t n).length ≤ 80 := by
    have := applyE_len t n
    simp only [fewE, Bool.and_eq_true, decide_eq_true_eq] at hf
    simp only [fewN, Bool.and_eq_true, decide_eq_true_eq] at hfn
    omega
  have h1 := f21_ok (M := m) (k := 1000) (by omega) hlen hs hn (by decide)
  have h2 := f21_ok (M := m) (k := k) (by omega) hlen hs hn hk
  simp only [Nw.t] at h1 h2
  rw [decide_eq_false (show ¬ (((applyE t n).length : Int) > 1000) by omega)] at h1
  rw [h1]
  simp only [cond_false, Res.bind_ok, compT, List.getElem?_cons_zero, List.getElem?_cons_succ]
  rw [h2]
  have hb : (applyE t n).length ≤ big := by have := big_val; omega
  have h26 := f26_ok (M := m) (l := applyE t n) (l' := applyE t n) (by omega) hb hb (applyE_ok hs hn) (applyE_ok hs hn)
  cases hd : decide (((applyE t n).length : Int) > k) with
  | true =>
    simp only [cond_true, Res.bind_ok, List.getElem?_cons_zero, List.getElem?_cons_succ, bT_bool, Bool.not_true, cond_false, sllT, List.length_map, hd]
    rfl
  | false =>
    simp only [cond_false, Res.bind_ok, List.getElem?_cons_zero, List.getElem?_cons_succ, bT_bool, Bool.not_true, sllT, List.length_map, hd, cond_true]
    rw [h26, sameE_refl]
    rfl
end Go.Sim
