/- What the functions of layer 18 answer: Few, Same. -/
import Derived.Test.YtmidmdabmalhgaaS3
namespace Go.Sim
open Go.RowKit Go.Proofs
set_option linter.unusedVariables false
set_option linter.unusedSimpArgs false
set_option maxRecDepth 100000

def longE (l : List En) (i : Nat) : Bool := match l[i]? with | some e => decide ((e.p.s.length : Int) > 100) | none => false
def fewE (l : List En) : Bool := !(l.any fun e => decide ((e.p.s.length : Int) > 100)) && decide ((l.length : Int) ≤ 40)
theorem f17_ok {M : Nat} {l : List En} (hM : big + 1 ≤ M) (hl : l.length ≤ big) (hs : ∀ e ∈ l, e.ok) : callP env (M + 1) 17 [.sl 6 (l.map En.t)] = .ok (.bool (fewE l)) := by
  have hln : (l.map En.t).length = l.length := by simp
  rw [e17, wfs1 (wf_sl hl fun e he => (hs e he).wf)]
  simp only [cond_true, loopL]
  have hstep : ∀ (j : Nat) e, l[j]? = some e → bodyL env M 17 0 2 ⟨slots 21 [(0, .t (.sl 6 (l.map En.t))), (3, .t (i64 (j : Int)))], []⟩ =
      bif decide ((e.p.s.length : Int) > 100) then .ok (.ret, ⟨slots 21 [(2, .t (.bool false))], []⟩) else .ok (.norm, ⟨slots 21 [(0, .t (.sl 6 (l.map En.t))), (3, .t (i64 ((j + 1 : Nat) : Int)))], []⟩) := fun j e hx => by
    have hj : j < l.length := (List.getElem?_eq_some_iff.1 hx).1
    rw [b17_2, decide_eq_true (show (j : Int) < ((l.map En.t).length : Int) by rw [hln]; omega)]
    have hp : (En.t e).partD 3 1 false = .sl 1 (ints e.p.s) := rfl
    have hi : (ints e.p.s).length = e.p.s.length := by simp [ints]
    simp only [cond_true, atT_get (map_get hx), hp, sllT, hi, wrap_succ (show j ≤ big by omega)]
  have := iter_seek (B := bodyL env M 17 0 2) (S := fun i => ⟨slots 21 [(0, .t (.sl 6 (l.map En.t))), (3, .t (i64 (i : Int)))], []⟩) (R := fun i => ⟨slots 21 [(2, .t (.bool false))], []⟩) (X := ⟨slots 21 [(0, .t (.sl 6 (l.map En.t)))], []⟩) (id := 0)
    (longE l) l.length 0 M (by omega) (fun j _ hj hp => by
      have hx : l[j]? = some l[j] := List.getElem?_eq_getElem (by omega)
      simp only [longE, hx] at hp
      rw [hstep j _ hx, hp]; rfl) (fun j _ hj hp => by
      have hx : l[j]? = some l[j] := List.getElem?_eq_getElem (by omega)
      simp only [longE, hx] at hp
      rw [hstep j _ hx, hp]; rfl) (by rw [b17_2, decide_eq_false (by rw [hln]; omega)]; rfl)
  have hany : (seekI (longE l) 0 l.length).isSome = l.any fun e => decide ((e.p.s.length : Int) > 100) := seekI_any fun i e hx => by simp only [longE, hx]
  rw [show (i64 (0 : Int)) = i64 ((0 : Nat) : Int) from rfl, this]
  unfold fewE
  rw [← hany]
  cases seekI (longE l) 0 l.length with
  | none => simp only [Res.bind_ok, t17_2_exit0, hln, Option.isSome, Bool.not_false, Bool.true_and]
  | some j => simp only [Res.bind_ok, t17_2_ret, Option.isSome, Bool.not_true, Bool.false_and]

def fewN (n : Nw) : Bool := decide ((n.g.length : Int) ≤ 40) && (decide ((n.m.length : Int) ≤ 40) && decide ((n.p.s.length : Int) ≤ 300))
theorem f18_ok {M : Nat} {n : Nw} (hn : n.ok) : callP env (M + 1) 18 [n.t] = .ok (.bool (fewN n)) := by
  have hw := wfs1 hn.wf
  have hi : (ints n.p.s).length = n.p.s.length := by simp [ints]
  simp only [Nw.t] at hw ⊢
  rw [e18, hw]
  simp only [cond_true, List.length_map, hi, fewN]
  cases decide ((n.g.length : Int) ≤ 40) <;> cases decide ((n.m.length : Int) ≤ 40) <;> rfl

/-! ### Same -/
def neI (s s' : List Int) (i : Nat) : Bool := match s[i]?, s'[i]? with | some a, some b => a != b | _, _ => false
def samePa (p q : Pa) : Bool := bif p.o != q.o then false else bif p.h != q.h then false else bif p.c != q.c then false else bif (p.s.length : Int) != (q.s.length : Int) then false else (seekI (neI p.s q.s) 0 p.s.length).isNone
def S25 (p q : Pa) (i : Nat) : St := ⟨slots 52 [(2, .ptr 0 0), (3, .ptr 1 0), (5, .t (i64 (i : Int)))], [.box 43 4 (.t (.agg [i64 p.o, .sl 1 (ints p.s), i64 p.h, i64 p.c])), .box 43 4 (.t (.agg [i64 q.o, .sl 1 (ints q.s), i64 q.h, i64 q.c]))]⟩
theorem f25_ok {M : Nat} {p q : Pa} (hM : big + 1 ≤ M) (hp : p.ok) (hq : q.ok) : callP env (M + 1) 25 [p.t, q.t] = .ok (.bool (samePa p q)) := by
  have hw := wfs2 hp.wf hq.wf
  have hip : (ints p.s).length = p.s.length := by simp [ints]
  have hiq : (ints q.s).length = q.s.length := by simp [ints]
  simp only [Pa.t] at hw ⊢
  rw [e25, hw]
  simp only [cond_true, hip, hiq, samePa]
  cases p.o != q.o with
  | true => rfl
  | false =>
  cases p.h != q.h with
  | true => rfl
  | false =>
  cases p.c != q.c with
  | true => rfl
  | false =>
  cases hlen : ((p.s.length : Int) != (q.s.length : Int)) with
  | true => rfl
  | false =>
    simp only [cond_false, loopL]
    have hle : p.s.length = q.s.length := by have : (p.s.length : Int) = (q.s.length : Int) := by simpa using hlen
                                             omega
    have hl := hp.l
    have hstep : ∀ (j : Nat), j < p.s.length → bodyL env M 25 0 4 (S25 p q j) = bif neI p.s q.s j then .ok (.ret, ⟨slots 52 [(4, .t (.bool false))], []⟩) else .ok (.norm, S25 p q (j + 1)) := fun j hj => by
      have h1 : p.s[j]? = some p.s[j] := List.getElem?_eq_getElem hj
      have h2 : q.s[j]? = some q.s[j] := List.getElem?_eq_getElem (by omega)
      unfold S25
      rw [b25_4, decide_eq_true (show (j : Int) < ((ints p.s).length : Int) by rw [hip]; omega)]
      simp only [cond_true, atT_get (ints_get h1), atT_get (ints_get h2), iT_int, wrap_succ (show j ≤ big by omega), neI, h1, h2]
    have := iter_seek (B := bodyL env M 25 0 4) (S := S25 p q) (R := fun i => ⟨slots 52 [(4, .t (.bool false))], []⟩) (X := ⟨slots 52 [], []⟩) (id := 0)
      (neI p.s q.s) p.s.length 0 M (by omega) (fun j _ hj hb => by rw [hstep j (by omega), hb]; rfl) (fun j _ hj hb => by rw [hstep j (by omega), hb]; rfl) (by
        unfold S25
        rw [b25_4, decide_eq_false (by rw [hip]; omega)]; rfl)
    rw [show (⟨slots 52 [(2, .ptr 0 0), (3, .ptr 1 0), (5, .t (i64 0))], [.box 43 4 (.t (.agg [i64 p.o, .sl 1 (ints p.s), i64 p.h, i64 p.c])), .box 43 4 (.t (.agg [i64 q.o, .sl 1 (ints q.s), i64 q.h, i64 q.c]))]⟩ : St) = S25 p q 0 from rfl, this]
    cases seekI (neI p.s q.s) 0 p.s.length with
    | none => simp only [Res.bind_ok, t25_4_exit0, Option.isNone]
    | some j => simp only [Res.bind_ok, t25_4_ret, Option.isNone]
theorem samePa_refl (p : Pa) : samePa p p = true := by
  unfold samePa
  simp only [bne_self_eq_false, cond_false]
  cases h : seekI (neI p.s p.s) 0 p.s.length with
  | none => rfl
  | some j =>
    have := seekI_some h
    have h1 : p.s[j]? = some p.s[j] := List.getElem?_eq_getElem (by omega)
    simp [neI, h1] at this

def eqPx (x y : Px) : Bool := (x.a == y.a) && ((x.n == y.n) && true)
theorem eqLs_px (x y : Px) : T.eqLs [0, 0] [i64 x.a, i64 x.n] [i64 y.a, i64 y.n] = some (eqPx x y) := by simp [T.eqLs, eqPx]
def neE (l l' : List En) (i : Nat) : Bool := match l[i]?, l'[i]? with | some a, some b => !eqPx a.x b.x || !samePa a.p b.p | _, _ => false
def sameE (l l' : List En) : Bool := bif (l.length : Int) != (l'.length : Int) then false else (seekI (neE l l') 0 l.length).isNone
def S26 (l l' : List En) (i : Nat) : St := ⟨slots 42 [(0, .t (.sl 6 (l.map En.t))), (1, .t (.sl 6 (l'.map En.t))), (5, .t (i64 (i : Int)))], []⟩
theorem f26_ok {M : Nat} {l l' : List En} (hM : big + 2 ≤ M) (hl : l.length ≤ big) (hl' : l'.length ≤ big) (hs : ∀ e ∈ l, e.ok) (hs' : ∀ e ∈ l', e.ok) : callP env (M + 1) 26 [.sl 6 (l.map En.t), .sl 6 (l'.map En.t)] = .ok (.bool (sameE l l')) := by
  obtain ⟨m, rfl⟩ : ∃ m, M = m + 1 := ⟨M - 1, by omega⟩
  have hw := wfs2 (wf_sl (k := 6) hl fun e he => (hs e he).wf) (wf_sl (k := 6) hl' fun e he => (hs' e he).wf)
  rw [e26, hw]
  simp only [cond_true, List.length_map, sameE]
  cases hlen : ((l.length : Int) != (l'.length : Int)) with
  | true => rfl
  | false =>
    simp only [cond_false, loopL]
    have hle : l.length = l'.length := by have : (l.length : Int) = (l'.length : Int) := by simpa using hlen
                                          omega
    have hstep : ∀ (j : Nat), j < l.length → bodyL env (m + 1) 26 0 4 (S26 l l' j) = bif neE l l' j then .ok (.ret, ⟨slots 42 [(4, .t (.bool false))], []⟩) else .ok (.norm, S26 l l' (j + 1)) := fun j hj => by
      have h1 : l[j]? = some l[j] := List.getElem?_eq_getElem hj
      have h2 : l'[j]? = some l'[j] := List.getElem?_eq_getElem (by omega)
      have h25 := f25_ok (M := m) (p := l[j].p) (q := l'[j].p) (by omega) (hs _ (List.getElem_mem _)).p (hs' _ (List.getElem_mem _)).p
      unfold S26
      rw [b26_4, decide_eq_true (show (j : Int) < ((l.map En.t).length : Int) by rw [List.length_map]; omega)]
      have c1 : ∀ e : En, T.cells ((En.t e).partD 0 2 true) = [i64 e.x.a, i64 e.x.n] := fun e => rfl
      have c2 : ∀ e : En, (En.t e).partD 2 4 true = e.p.t := fun e => rfl
      simp only [cond_true, atT_get (map_get h1), atT_get (map_get h2), c1, c2, eqLs_px, h25, Res.bind_ok, bT, wrap_succ (show j ≤ big by omega), neE, h1, h2]
      cases eqPx l[j].x l'[j].x <;> cases samePa l[j].p l'[j].p <;> rfl
    have := iter_seek (B := bodyL env (m + 1) 26 0 4) (S := S26 l l') (R := fun i => ⟨slots 42 [(4, .t (.bool false))], []⟩) (X := ⟨slots 42 [], []⟩) (id := 0)
      (neE l l') l.length 0 (m + 1) (by omega) (fun j _ hj hb => by rw [hstep j (by omega), hb]; rfl) (fun j _ hj hb => by rw [hstep j (by omega), hb]; rfl) (by
        unfold S26
        rw [b26_4, decide_eq_false (by rw [List.length_map]; omega)]; rfl)
    rw [show (⟨slots 42 [(0, .t (.sl 6 (l.map En.t))), (1, .t (.sl 6 (l'.map En.t))), (5, .t (i64 0))], []⟩ : St) = S26 l l' 0 from rfl, this]
    cases seekI (neE l l') 0 l.length with
    | none => simp only [Res.bind_ok, t26_4_exit0, Option.isNone]
    | some j => simp only [Res.bind_ok, t26_4_ret, Option.isNone]
theorem sameE_refl (l : List En) : sameE l l = true := by
  unfold sameE
  simp only [bne_self_eq_false, cond_false]
  cases h : seekI (neE l l) 0 l.length with
  | none => rfl
  | some j =>
    have := seekI_some h
    have h1 : l[j]? = some l[j] := List.getElem?_eq_getElem (by omega)
    simp [neE, h1, eqPx, samePa_refl] at this
end Go.Sim
