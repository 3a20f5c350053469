/- What the functions of layers 2, 7 and 18 answer: single ones. -/
import Derived.Test.YtmidmdabmalhgaaS1
namespace Go.Sim
open Go.RowKit Go.Proofs
set_option linter.unusedVariables false
set_option linter.unusedSimpArgs false

def shiftI (b : Int) : Int := IntKind.i64.wrap (32 - minmax true [minmax false [32] b] 0)
def maskI (a b : Int) : Int := IntKind.i64.wrap (Int.fdiv (IntKind.i64.wrap ((BitVec.toNat (BitVec.ofInt 64 a &&& BitVec.ofInt 64 4294967295) : Nat) : Int)) (2 ^ min (Int.toNat (shiftI b)) 64) * 2 ^ min (Int.toNat (shiftI b)) 64)
theorem shiftI_eq (b : Int) : shiftI b = 32 - max 0 (min b 32) := by
  unfold shiftI
  have h : minmax true [minmax false [32] b] 0 = max 0 (min b 32) := by
    simp only [minmax, cond_true, cond_false]
    split <;> split <;> omega
  rw [h, wrap64 (by omega)]
theorem f61_ok {M : Nat} {a b : Int} (ha : ok64 a = true) (hb : ok64 b = true) : callP env (M + 1) 61 [i64 a, i64 b] = .ok (i64 (maskI a b)) := by
  rw [e61, wfs2 (wf_int ha) (wf_int hb)]
  have h : decide (0 ≤ IntKind.i64.wrap (32 - minmax true [minmax false [32] b] 0)) = true := decide_eq_true (by have := shiftI_eq b; unfold shiftI at this; rw [this]; omega)
  simp only [cond_true, h, chk]
  rfl

def psane (x : Px) : Bool := decide (x.n ≥ 0) && (decide (x.n ≤ 32) && (x.a == maskI x.a x.n))
theorem f32_ok {M : Nat} {x : Px} (h : x.ok) (hM : 1 ≤ M) : callP env (M + 1) 32 [x.t] = .ok (.bool (psane x)) := by
  obtain ⟨m, rfl⟩ : ∃ m, M = m + 1 := ⟨M - 1, by omega⟩
  have hw := wfs1 h.wf
  simp only [Px.t] at hw ⊢
  rw [e32, hw, f61_ok h.a h.n]
  simp only [cond_true, Res.bind_ok, iT_int, psane]
  cases decide (x.n ≥ 0) <;> cases decide (x.n ≤ 32) <;> rfl

def bad63 (a : Int) : Bool := decide (a < 1) || decide (a > 4294967295)
theorem f63_ok {M : Nat} {a : Int} (ha : ok64 a = true) : callP env (M + 1) 63 [i64 a] = .ok (.bool (bad63 a)) := by
  rw [e63, wfs1 (wf_int ha)]
  simp only [cond_true, bad63]
  cases decide (a < 1) <;> rfl
theorem idxI_ge (k : Option Nat) : decide (idxI k ≥ 0) = k.isSome := by
  cases k with
  | none => decide
  | some i => exact decide_eq_true (by simp [idxI])
theorem f62_ok {M : Nat} {s : List Int} (hM : big + 2 ≤ M) (hl : s.length ≤ big) (hs : ∀ i ∈ s, ok64 i = true) : callP env (M + 1) 62 [.sl 1 (ints s), .fn 63 [] []] = .ok (.bool (s.any bad63)) := by
  obtain ⟨m, rfl⟩ : ∃ m, M = m + 1 := ⟨M - 1, by omega⟩
  obtain ⟨m', rfl⟩ : ∃ m', m = m' + 1 := ⟨m - 1, by omega⟩
  obtain ⟨k, h1, h2⟩ := f83_ok (M := m' + 1) (g := 63) (q := bad63) (by omega) hl (fun i hi => wf_int (hs i hi)) rfl (fun i hi => f63_ok (hs i hi))
  unfold ints
  rw [e62, wfs2 (wf_sl (f := i64) hl fun i hi => wf_int (hs i hi)) (wf_fn 63)]
  simp only [cond_true]
  rw [h1]
  simp only [Res.bind_ok, iT_int, idxI_ge, h2]

def asane (p : Pa) : Bool := !(p.s.any bad63) && (decide ((p.s.length : Int) ≤ 255) && (decide (p.o ≥ 0) && (decide (p.o ≤ 2) && (decide (p.h > 0) && (decide (p.h ≤ 4294967295) && (decide (p.c ≥ 0) && decide (p.c ≤ 4294967295)))))))
theorem f33_ok {M : Nat} {p : Pa} (h : p.ok) (hM : big + 3 ≤ M) : callP env (M + 1) 33 [p.t] = .ok (.bool (asane p)) := by
  obtain ⟨m, rfl⟩ : ∃ m, M = m + 1 := ⟨M - 1, by omega⟩
  have hw := wfs1 h.wf
  simp only [Pa.t] at hw ⊢
  rw [e33, hw, f62_ok (by omega) h.l h.s]
  have hlen : (ints p.s).length = p.s.length := by simp [ints]
  simp only [cond_true, Res.bind_ok, bT_bool, hlen, asane]
  cases p.s.any bad63 <;> cases decide ((p.s.length : Int) ≤ 255) <;> cases decide (p.o ≥ 0) <;> cases decide (p.o ≤ 2) <;> cases decide (p.h > 0) <;> cases decide (p.h ≤ 4294967295) <;> cases decide (p.c ≥ 0) <;> rfl

def ebad (e : En) : Bool := !psane e.x || !asane e.p
theorem f54_ok {M : Nat} {e : En} (h : e.ok) (hM : big + 4 ≤ M) : callP env (M + 1) 54 [e.t] = .ok (.bool (ebad e)) := by
  obtain ⟨m, rfl⟩ : ∃ m, M = m + 1 := ⟨M - 1, by omega⟩
  have hw := wfs1 h.wf
  have h1 := f32_ok (M := m) h.x (by omega)
  have h2 := f33_ok (M := m) h.p (by omega)
  simp only [En.t, Px.t, Pa.t] at hw h1 h2 ⊢
  rw [e54, hw]
  simp only [cond_true, List.drop, List.take]
  rw [h1, h2]
  simp only [Res.bind_ok, bT_bool, ebad]
  cases psane e.x <;> rfl
theorem f55_ok {M : Nat} {l : List En} (hM : big + 6 ≤ M) (hl : l.length ≤ big) (hs : ∀ e ∈ l, e.ok) : callP env (M + 1) 55 [.sl 6 (l.map En.t), .fn 54 [] []] = .ok (.bool (l.any ebad)) := by
  obtain ⟨m, rfl⟩ : ∃ m, M = m + 1 := ⟨M - 1, by omega⟩
  obtain ⟨m', rfl⟩ : ∃ m', m = m' + 1 := ⟨m - 1, by omega⟩
  obtain ⟨k, h1, h2⟩ := f82_ok (M := m' + 1) (g := 54) (q := ebad) (by omega) hl (fun e he => (hs e he).wf) rfl (fun e he => f54_ok (hs e he) (by omega))
  rw [e55, wfs2 (wf_sl hl fun e he => (hs e he).wf) (wf_fn 54)]
  simp only [cond_true]
  rw [h1]
  simp only [Res.bind_ok, iT_int, idxI_ge, h2]

def cmpI (a b : Int) : Int := bif decide (a < b) then -1 else bif decide (a > b) then 1 else 0
theorem f91_ok {M : Nat} {a : Int} (ha : ok64 a = true) : callP env (M + 1) 91 [i64 a] = .ok (.bool false) := by
  rw [e91, wfs1 (wf_int ha)]
  simp
theorem f86_ok {M : Nat} {a b : Int} (ha : ok64 a = true) (hb : ok64 b = true) (hM : 1 ≤ M) : callP env (M + 1) 86 [i64 a, i64 b] = .ok (i64 (cmpI a b)) := by
  obtain ⟨m, rfl⟩ : ∃ m, M = m + 1 := ⟨M - 1, by omega⟩
  rw [e86, wfs2 (wf_int ha) (wf_int hb), f91_ok ha, f91_ok hb]
  simp only [cond_true, Res.bind_ok, bT_bool, cond_false, cmpI]
  cases decide (a < b) <;> cases decide (a > b) <;> rfl
theorem cmpI_ok (a b : Int) : ok64 (cmpI a b) = true := by
  unfold cmpI; cases decide (a < b) <;> cases decide (a > b) <;> decide
def orI (u v : Int) : Int := bif u != 0 then u else v
def nzI (s : List Int) (i : Nat) : Bool := match s[i]? with | some x => x != 0 | none => false
theorem f85_gen {M : Nat} {s : List Int} (hM : big + 1 ≤ M) (hl : s.length ≤ big) (hs : ∀ i ∈ s, ok64 i = true) : callP env (M + 1) 85 [.sl 1 (ints s)] = .ok (i64 (match seekI (nzI s) 0 s.length with | some j => s.getD j 0 | none => 0)) := by
  have hln : (ints s).length = s.length := by simp [ints]
  rw [e85, wfs1 (show (T.sl 1 (ints s)).wf = true from wf_sl hl fun i hi => wf_int (hs i hi))]
  simp only [cond_true, loopL]
  have hstep : ∀ (j : Nat) x, s[j]? = some x → bodyL env M 85 0 3 ⟨slots 18 [(3, .t (i64 0)), (6, .t (.sl 1 (ints s))), (7, .t (i64 ((ints s).length : Int))), (8, .t (i64 (j : Int)))], []⟩ =
      bif x != 0 then .ok (.ret, ⟨slots 18 [(2, .t (i64 x))], []⟩) else .ok (.norm, ⟨slots 18 [(3, .t (i64 0)), (6, .t (.sl 1 (ints s))), (7, .t (i64 ((ints s).length : Int))), (8, .t (i64 ((j + 1 : Nat) : Int)))], []⟩) := fun j x hx => by
    have hj : j < s.length := (List.getElem?_eq_some_iff.1 hx).1
    rw [b85_3, decide_eq_true (by rw [hln]; omega)]
    simp only [cond_true, atT_get (ints_get hx), iT_int, wrap_succ (show j ≤ big by omega)]
  have := iter_seek (B := bodyL env M 85 0 3) (S := fun i => ⟨slots 18 [(3, .t (i64 0)), (6, .t (.sl 1 (ints s))), (7, .t (i64 ((ints s).length : Int))), (8, .t (i64 (i : Int)))], []⟩) (R := fun i => ⟨slots 18 [(2, .t (i64 (s.getD i 0)))], []⟩) (X := ⟨slots 18 [(3, .t (i64 0))], []⟩) (id := 0)
    (nzI s) s.length 0 M (by omega) (fun j _ hj hp => by
      have hx : s[j]? = some s[j] := List.getElem?_eq_getElem (by omega)
      simp only [nzI, hx] at hp
      rw [hstep j _ hx, hp]
      simp only [cond_true, List.getD_eq_getElem?_getD, hx, Option.getD_some]) (fun j _ hj hp => by
      have hx : s[j]? = some s[j] := List.getElem?_eq_getElem (by omega)
      simp only [nzI, hx] at hp
      rw [hstep j _ hx, hp]; rfl) (by rw [b85_3, decide_eq_false (by rw [hln]; omega)]; rfl)
  have e0 : ∀ (l : List (Nat × PV)), (8, PV.t (i64 (0 : Int))) :: l = (8, PV.t (i64 ((0 : Nat) : Int))) :: l := fun l => rfl
  rw [e0, this]
  cases seekI (nzI s) 0 s.length with
  | none => simp only [Res.bind_ok, t85_3_exit0]
  | some j => simp only [Res.bind_ok, t85_3_ret]
theorem f85_ok {M : Nat} {u v : Int} (hu : ok64 u = true) (hv : ok64 v = true) (hM : big + 1 ≤ M) : callP env (M + 1) 85 [.sl 1 [i64 u, i64 v]] = .ok (i64 (orI u v)) := by
  have h := f85_gen (M := M) (s := [u, v]) hM (by simp [big_val]) (by simpa using ⟨hu, hv⟩)
  rw [show (T.sl 1 [i64 u, i64 v]) = .sl 1 (ints [u, v]) from rfl, h]
  congr 2
  unfold orI
  cases h0 : (u != 0) with
  | true => simp [seekI, nzI, h0]
  | false =>
    cases h1 : (v != 0) with
    | true => simp [seekI, nzI, h0, h1]
    | false =>
      have : v = 0 := by simpa using h1
      simp [seekI, nzI, h0, h1, this]
def cmpP (x y : Px) : Int := orI (cmpI x.a y.a) (cmpI x.n y.n)
theorem cmpP_ok (x y : Px) : ok64 (cmpP x y) = true := by unfold cmpP orI; cases (cmpI x.a y.a != 0) <;> simp [cmpI_ok]
theorem f77_ok {M : Nat} {x y : Px} (hx : x.ok) (hy : y.ok) (hM : big + 2 ≤ M) : callP env (M + 1) 77 [x.t, y.t] = .ok (i64 (cmpP x y)) := by
  obtain ⟨m, rfl⟩ : ∃ m, M = m + 1 := ⟨M - 1, by omega⟩
  have hw := wfs2 hx.wf hy.wf
  simp only [Px.t] at hw ⊢
  rw [e77, hw, f86_ok hx.a hy.a (by omega), f86_ok hx.n hy.n (by omega)]
  simp only [cond_true, Res.bind_ok]
  rw [f85_ok (cmpI_ok _ _) (cmpI_ok _ _) (by omega)]
  rfl
theorem f57_ok {M : Nat} {e e' : En} (h : e.ok) (h' : e'.ok) (hM : big + 3 ≤ M) : callP env (M + 1) 57 [e.t, e'.t] = .ok (i64 (cmpP e.x e'.x)) := by
  obtain ⟨m, rfl⟩ : ∃ m, M = m + 1 := ⟨M - 1, by omega⟩
  have hw := wfs2 h.wf h'.wf
  have h1 := f77_ok (M := m) h.x h'.x (by omega)
  simp only [En.t, Px.t] at hw h1 ⊢
  rw [e57, hw]
  simp only [cond_true, List.drop, List.take]
  rw [h1]
  rfl
theorem f76_ok {M : Nat} {e : En} {x : Px} (h : e.ok) (h' : x.ok) (hM : big + 3 ≤ M) : callP env (M + 1) 76 [e.t, x.t] = .ok (i64 (cmpP e.x x)) := by
  obtain ⟨m, rfl⟩ : ∃ m, M = m + 1 := ⟨M - 1, by omega⟩
  have hw := wfs2 h.wf h'.wf
  have h1 := f77_ok (M := m) h.x h' (by omega)
  simp only [En.t, Px.t] at hw h1 ⊢
  rw [e76, hw]
  simp only [cond_true, List.drop, List.take]
  rw [h1]
  rfl

theorem apK_fn {β : Type} {M : Nat} {g : FuncId} {ts : List T} {r : T} {K : T → Res β} (hm : env.mode g = 0) (h : callP env M g ts = .ok r) : apK env (recOf env M) (.fn g [] []) ts K = K r := by
  simp [apK, hm, recOf, h]

def upE (l : List En) (i : Nat) : Bool := match l[i - 1]?, l[i]? with | some a, some b => decide (cmpP a.x b.x ≥ 0) | _, _ => false
def risesE (l : List En) : Bool := (seekI (upE l) 1 (l.length - 1)).isNone
theorem f56_ok {M : Nat} {l : List En} (hM : big + 8 ≤ M) (hl : l.length ≤ big) (hs : ∀ e ∈ l, e.ok) : callP env (M + 1) 56 [.sl 6 (l.map En.t), .fn 57 [] []] = .ok (.bool (risesE l)) := by
  obtain ⟨m, rfl⟩ : ∃ m, M = m + 1 := ⟨M - 1, by omega⟩
  rw [e56, wfs2 (wf_sl hl fun e he => (hs e he).wf) (wf_fn 57)]
  simp only [cond_true, loopL]
  have hln : (l.map En.t).length = l.length := by simp
  have hstep : ∀ (j : Nat), 1 ≤ j → j < l.length → bodyL env (m + 1) 56 0 2 ⟨slots 24 [(0, .t (.sl 6 (l.map En.t))), (1, .t (.fn 57 [] [])), (5, .t (i64 (j : Int)))], []⟩ =
      bif upE l j then .ok (.ret, ⟨slots 24 [(4, .t (.bool false))], []⟩) else .ok (.norm, ⟨slots 24 [(0, .t (.sl 6 (l.map En.t))), (1, .t (.fn 57 [] [])), (5, .t (i64 ((j + 1 : Nat) : Int)))], []⟩) := fun j h1 hj => by
    have g1 : l[j - 1]? = some l[j - 1] := List.getElem?_eq_getElem (by omega)
    have g2 : l[j]? = some l[j] := List.getElem?_eq_getElem hj
    rw [b56_2, decide_eq_true (by rw [hln]; omega)]
    have hw : IntKind.i64.wrap ((j : Int) - 1) = ((j - 1 : Nat) : Int) := by rw [wrap64 (by have := big_val; omega)]; omega
    simp only [cond_true, hw, atT_get (map_get g1), atT_get (map_get g2)]
    rw [apK_fn rfl (f57_ok (hs _ (List.getElem_mem _)) (hs _ (List.getElem_mem _)) (by omega))]
    simp only [iT_int, wrap_succ (show j ≤ big by omega), upE, g1, g2]
  have h3 : bodyL env (m + 1) 56 0 2 ⟨slots 24 [(0, .t (.sl 6 (l.map En.t))), (1, .t (.fn 57 [] [])), (5, .t (i64 ((1 + (l.length - 1) : Nat) : Int)))], []⟩ = .ok (.exit 0, ⟨slots 24 [], []⟩) := by
    rw [b56_2, decide_eq_false (by rw [hln]; omega)]; rfl
  have := iter_seek (B := bodyL env (m + 1) 56 0 2) (S := fun i => ⟨slots 24 [(0, .t (.sl 6 (l.map En.t))), (1, .t (.fn 57 [] [])), (5, .t (i64 (i : Int)))], []⟩) (R := fun i => ⟨slots 24 [(4, .t (.bool false))], []⟩) (X := ⟨slots 24 [], []⟩) (id := 0)
    (upE l) (l.length - 1) 1 (m + 1) (by omega) (fun j a b hp => by rw [hstep j a (by omega), hp]; rfl) (fun j a b hp => by rw [hstep j a (by omega), hp]; rfl) h3
  rw [show (i64 (1 : Int)) = i64 ((1 : Nat) : Int) from rfl, this]
  unfold risesE
  cases seekI (upE l) 1 (l.length - 1) with
  | none => simp only [Res.bind_ok, t56_2_exit0, Option.isNone]
  | some j => simp only [Res.bind_ok, t56_2_ret, Option.isNone]

def tsane (l : List En) : Bool := !(l.any ebad) && risesE l
theorem f28_ok {M : Nat} {l : List En} (hM : big + 10 ≤ M) (hl : l.length ≤ big) (hs : ∀ e ∈ l, e.ok) : callP env (M + 1) 28 [.sl 6 (l.map En.t)] = .ok (.bool (tsane l)) := by
  obtain ⟨m, rfl⟩ : ∃ m, M = m + 1 := ⟨M - 1, by omega⟩
  rw [e28, wfs1 (wf_sl hl fun e he => (hs e he).wf), f55_ok (by omega) hl hs, f56_ok (by omega) hl hs]
  simp only [cond_true, Res.bind_ok, bT_bool, tsane]
  cases l.any ebad <;> rfl
def known (l : List En) : List En := bif tsane l then l else []
theorem f43_ok {M : Nat} {l : List En} (hM : big + 11 ≤ M) (hl : l.length ≤ big) (hs : ∀ e ∈ l, e.ok) : callP env (M + 1) 43 [.sl 6 (l.map En.t)] = .ok (.sl 6 ((known l).map En.t)) := by
  obtain ⟨m, rfl⟩ : ∃ m, M = m + 1 := ⟨M - 1, by omega⟩
  rw [e43, wfs1 (wf_sl hl fun e he => (hs e he).wf), f28_ok (by omega) hl hs]
  simp only [cond_true, Res.bind_ok, bT_bool, known]
  cases tsane l <;> rfl
theorem known_sub {l : List En} {e : En} (h : e ∈ known l) : e ∈ l := by
  unfold known at h; cases ht : tsane l <;> simp [ht] at h; exact h
theorem known_len (l : List En) : (known l).length ≤ l.length := by
  unfold known; cases tsane l <;> simp
end Go.Sim
