/- The texts of a proof, one behind the other: an interpreter and its soundness, what the functions of the program answer, and plain laws on that. -/
import Derived.Test.YtmidmdabmalhgaaM1
/- What the functions of layer 18 answer: in, Same, Get. -/
namespace Go.Sim
open Go.RowKit Go.Proofs
set_option linter.unusedVariables false
set_option linter.unusedSimpArgs false
set_option maxRecDepth 100000

theorem len_eq {a b : Nat} (h : ((a : Int) != (b : Int)) = false) : a = b := by
  have : (a : Int) = (b : Int) := by simpa using h
  omega
theorem i64z : (i64 (0 : Int)) = i64 ((0 : Nat) : Int) := rfl
def S31 (l : List Px) (x : Px) (i : Nat) : St := ⟨slots 18 [(0, .t (.sl 2 (l.map Px.t))), (3, .ptr 0 0), (5, .t (i64 (i : Int)))], [.box 35 2 (.t (.agg [i64 x.a, i64 x.n]))]⟩
theorem f31_ok {M : Nat} {l : List Px} {x : Px} (hM : big + 1 ≤ M) (hl : l.length ≤ big) (hs : ∀ y ∈ l, y.ok) (hx : x.ok) :
    callP env (M + 1) 31 [.sl 2 (l.map Px.t), x.t] = .ok (.bool (l.any fun y => eqPx y x)) := by
  have hw := wfs2 (wf_sl (k := 2) hl fun e he => (hs e he).wf) hx.wf
  simp only [Px.t] at hw ⊢
  rw [e31, hw]
  simp only [cond_true, loopL]
  have := iter_any (B := bodyL env M 31 0 2) (S := S31 l x) (R := ⟨slots 18 [(4, .t (.bool true))], []⟩) (X := ⟨slots 18 [], []⟩) (id := 0) (fun y => eqPx y x) l (n := M) (by omega)
    (fun j y hy => by
      have hj : j < l.length := (List.getElem?_eq_some_iff.1 hy).1
      unfold S31
      rw [b31_2, decide_eq_true (show (j : Int) < ((l.map Px.t).length : Int) by rw [List.length_map]; omega)]
      have c1 : T.cells (Px.t y) = [i64 y.a, i64 y.n] := rfl
      simp only [cond_true, atT_get (map_get hy), c1, eqLs_px, wrap_succ (show j ≤ big by omega)])
    (by unfold S31; rw [b31_2, decide_eq_false (by rw [List.length_map]; omega)]; rfl)
  rw [show (⟨slots 18 [(0, .t (.sl 2 (l.map Px.t))), (3, .ptr 0 0), (5, .t (i64 0))], [.box 35 2 (.t (.agg [i64 x.a, i64 x.n]))]⟩ : St) = S31 l x 0 from rfl, this]
  cases l.any fun y => eqPx y x with
  | true => simp only [cond_true, Res.bind_ok, t31_2_ret]
  | false => simp only [cond_false, Res.bind_ok, t31_2_exit0]
theorem in_iff {l : List Px} {x : Px} : (l.any fun y => eqPx y x) = true ↔ x ∈ l := by
  rw [List.any_eq_true]
  exact ⟨fun ⟨y, hy, h⟩ => eqPx_iff.1 h ▸ hy, fun h => ⟨x, h, eqPx_iff.2 rfl⟩⟩

/-! ### Same -/
theorem zip_get {α β : Type} {l : List α} {m : List β} {j : Nat} {a : α} {b : β} (h : (l.zip m)[j]? = some (a, b)) : l[j]? = some a ∧ m[j]? = some b := by
  rw [List.getElem?_zip_eq_some] at h; exact h
def S81 (s s' : List Int) (i : Nat) : St := ⟨slots 26 [(0, .t (.sl 1 (ints s))), (1, .t (.sl 1 (ints s'))), (12, .t (i64 ((ints s).length : Int))), (13, .t (i64 (i : Int)))], []⟩
def eqIs (s s' : List Int) : Bool := bif (s.length : Int) != (s'.length : Int) then false else !((s.zip s').any fun p => p.1 != p.2)
theorem f81_ok {M : Nat} {s s' : List Int} (hM : big + 1 ≤ M) (hl : s.length ≤ big) (hl' : s'.length ≤ big) (hs : ∀ i ∈ s, ok64 i = true) (hs' : ∀ i ∈ s', ok64 i = true) :
    callP env (M + 1) 81 [.sl 1 (ints s), .sl 1 (ints s')] = .ok (.bool (eqIs s s')) := by
  have hw := wfs2 (show (T.sl 1 (ints s)).wf = true from wf_sl hl fun i hi => wf_int (hs i hi)) (show (T.sl 1 (ints s')).wf = true from wf_sl hl' fun i hi => wf_int (hs' i hi))
  have hi : ∀ s, (ints s).length = s.length := fun s => by simp [ints]
  rw [e81, hw]
  simp only [cond_true, hi, eqIs]
  cases hlen : ((s.length : Int) != (s'.length : Int)) with
  | true => rfl
  | false =>
    have hle : s.length = s'.length := len_eq hlen
    have hz : (s.zip s').length = s.length := by rw [List.length_zip]; omega
    simp only [cond_false, loopL]
    have := iter_any (B := bodyL env M 81 0 4) (S := S81 s s') (R := ⟨slots 26 [(4, .t (.bool false))], []⟩) (X := ⟨slots 26 [], []⟩) (id := 0) (fun p => p.1 != p.2) (s.zip s') (n := M) (by omega)
      (fun j y hy => by
        obtain ⟨h1, h2⟩ := zip_get hy
        have hj : j < s.length := (List.getElem?_eq_some_iff.1 h1).1
        unfold S81
        rw [b81_4, decide_eq_true (show (j : Int) < ((ints s).length : Int) by rw [hi]; omega)]
        simp only [cond_true, atT_get (ints_get h1), atT_get (ints_get h2), iT_int, wrap_succ (show j ≤ big by omega)])
      (by unfold S81; rw [b81_4, hz, decide_eq_false (by rw [hi]; omega)]; rfl)
    rw [show (⟨slots 26 [(0, .t (.sl 1 (ints s))), (1, .t (.sl 1 (ints s'))), (12, .t (i64 (s.length : Int))), (13, .t (i64 0))], []⟩ : St) = S81 s s' 0 by unfold S81; rw [hi]; rfl, this]
    cases (s.zip s').any fun p => p.1 != p.2 with
    | true => simp only [cond_true, Res.bind_ok, t81_4_ret]; rfl
    | false => simp only [cond_false, Res.bind_ok, t81_4_exit0]; rfl
theorem zip_all {α : Type} {p : α × α → Bool} (hp : ∀ a b, p (a, b) = false → a = b) : ∀ {s s' : List α}, s.length = s'.length → (s.zip s').any p = false → s = s'
  | [], [], _, _ => rfl
  | a :: s, b :: s', hl, h => by
    simp only [List.zip_cons_cons, List.any_cons, Bool.or_eq_false_iff] at h
    rw [hp a b h.1, zip_all hp (by simpa using hl) h.2]
theorem zip_same {α : Type} {p : α × α → Bool} (hp : ∀ a, p (a, a) = false) : ∀ {s : List α}, (s.zip s).any p = false
  | [] => rfl
  | a :: s => by simp [hp, zip_same hp (s := s)]
theorem eqIs_iff {s s' : List Int} : eqIs s s' = true ↔ s = s' := by
  unfold eqIs
  constructor
  · intro h
    cases hlen : ((s.length : Int) != (s'.length : Int)) with
    | true => rw [hlen] at h; cases h
    | false =>
      rw [hlen] at h
      exact zip_all (p := fun p : Int × Int => p.1 != p.2) (fun a b h => by simpa using h) (len_eq hlen) (by simpa using h)
  · rintro rfl
    rw [zip_same (p := fun p : Int × Int => p.1 != p.2) (fun a => by simp)]
    simp
def eqPa (p q : Pa) : Bool := bif p.o == q.o then bif p.h == q.h then bif p.c == q.c then eqIs p.s q.s else false else false else false
theorem f53_ok {M : Nat} {p q : Pa} (hM : big + 3 ≤ M) (hp : p.ok) (hq : q.ok) : callP env (M + 1) 53 [p.t, q.t] = .ok (.bool (eqPa p q)) := by
  obtain ⟨m, rfl⟩ : ∃ m, M = m + 1 := ⟨M - 1, by omega⟩
  have hw := wfs2 hp.wf hq.wf
  have h81 := f81_ok (M := m) (s := p.s) (s' := q.s) (by omega) hp.l hq.l hp.s hq.s
  simp only [Pa.t] at hw ⊢
  rw [e53, hw, h81]
  simp only [cond_true, Res.bind_ok, eqPa]
  cases p.o == q.o <;> cases p.h == q.h <;> cases p.c == q.c <;> rfl
theorem eqPa_iff {p q : Pa} : eqPa p q = true ↔ p = q := by
  unfold eqPa
  constructor
  · intro h
    cases h1 : p.o == q.o <;> cases h2 : p.h == q.h <;> cases h3 : p.c == q.c <;> simp [h1, h2, h3] at h
    exact Pa.ext' (by simpa using h1) (eqIs_iff.1 h) (by simpa using h2) (by simpa using h3)
  · rintro rfl
    simp [eqIs_iff.2 rfl]
def eqEn (e f : En) : Bool := bif eqPx e.x f.x then eqPa e.p f.p else false
theorem f60_ok {M : Nat} {e f : En} (hM : big + 5 ≤ M) (he : e.ok) (hf : f.ok) : callP env (M + 1) 60 [e.t, f.t] = .ok (.bool (eqEn e f)) := by
  obtain ⟨m, rfl⟩ : ∃ m, M = m + 1 := ⟨M - 1, by omega⟩
  have hw := wfs2 he.wf hf.wf
  have h := f53_ok (M := m) (p := e.p) (q := f.p) (by omega) he.p hf.p
  simp only [En.t, Pa.t] at hw h ⊢
  rw [e60, hw]
  simp only [cond_true, List.drop, List.take]
  rw [h]
  simp only [Res.bind_ok, eqEn, eqPx]
  cases e.x.a == f.x.a <;> cases e.x.n == f.x.n <;> rfl
theorem eqEn_iff {e f : En} : eqEn e f = true ↔ e = f := by
  unfold eqEn
  constructor
  · intro h
    cases h1 : eqPx e.x f.x with
    | false => rw [h1] at h; cases h
    | true => rw [h1] at h; exact En.ext' (eqPx_iff.1 h1) (eqPa_iff.1 h)
  · rintro rfl
    rw [eqPx_iff.2 rfl]; exact eqPa_iff.2 rfl
def S59 (l l' : List En) (i : Nat) : St := ⟨slots 32 [(1, .t (.sl 6 (l'.map En.t))), (2, .t (.fn 60 [] [])), (15, .t (.sl 6 (l.map En.t))), (16, .t (i64 ((l.map En.t).length : Int))), (17, .t (i64 (i : Int)))], []⟩
def eqEs (l l' : List En) : Bool := bif (l.length : Int) != (l'.length : Int) then false else !((l.zip l').any fun p => !eqEn p.1 p.2)
theorem f59_ok {M : Nat} {l l' : List En} (hM : big + 7 ≤ M) (hl : l.length ≤ big) (hl' : l'.length ≤ big) (hs : ∀ e ∈ l, e.ok) (hs' : ∀ e ∈ l', e.ok) :
    callP env (M + 1) 59 [.sl 6 (l.map En.t), .sl 6 (l'.map En.t), .fn 60 [] []] = .ok (.bool (eqEs l l')) := by
  obtain ⟨m, rfl⟩ : ∃ m, M = m + 1 := ⟨M - 1, by omega⟩
  have hw := wfs3 (wf_sl (k := 6) hl fun e he => (hs e he).wf) (wf_sl (k := 6) hl' fun e he => (hs' e he).wf) (wf_fn 60)
  rw [e59, hw]
  simp only [cond_true, List.length_map, eqEs]
  cases hlen : ((l.length : Int) != (l'.length : Int)) with
  | true => rfl
  | false =>
    have hle : l.length = l'.length := len_eq hlen
    have hz : (l.zip l').length = l.length := by rw [List.length_zip]; omega
    simp only [cond_false, loopL]
    have := iter_any (B := bodyL env (m + 1) 59 0 4) (S := S59 l l') (R := ⟨slots 32 [(6, .t (.bool false))], []⟩) (X := ⟨slots 32 [], []⟩) (id := 0) (fun p => !eqEn p.1 p.2) (l.zip l') (n := m + 1) (by omega)
      (fun j y hy => by
        obtain ⟨h1, h2⟩ := zip_get hy
        have hj : j < l.length := (List.getElem?_eq_some_iff.1 h1).1
        unfold S59
        rw [b59_4, decide_eq_true (show (j : Int) < ((l.map En.t).length : Int) by rw [List.length_map]; omega)]
        simp only [cond_true, atT_get (map_get h1), atT_get (map_get h2)]
        have c1 : ∀ e : En, T.cells (En.t e) = [i64 e.x.a, i64 e.x.n, i64 e.p.o, .sl 1 (ints e.p.s), i64 e.p.h, i64 e.p.c] := fun e => rfl
        have c2 : ∀ e : En, T.isTup (En.t e) = false := fun e => rfl
        rw [apK_fn rfl (f60_ok (by omega) (hs _ (List.mem_of_getElem? h1)) (hs' _ (List.mem_of_getElem? h2)))]
        simp only [c1, c2, bT_bool, wrap_succ (show j ≤ big by omega), List.length_cons, List.length_nil, chk]
        rfl)
      (by unfold S59; rw [b59_4, hz, decide_eq_false (by rw [List.length_map]; omega)]; rfl)
    rw [show (⟨slots 32 [(1, .t (.sl 6 (l'.map En.t))), (2, .t (.fn 60 [] [])), (15, .t (.sl 6 (l.map En.t))), (16, .t (i64 (l.length : Int))), (17, .t (i64 0))], []⟩ : St) = S59 l l' 0 by unfold S59; rw [List.length_map]; rfl, this]
    cases (l.zip l').any fun p => !eqEn p.1 p.2 with
    | true => simp only [cond_true, Res.bind_ok, t59_4_ret]; rfl
    | false => simp only [cond_false, Res.bind_ok, t59_4_exit0]; rfl
theorem eqEs_iff {l l' : List En} : eqEs l l' = true ↔ l = l' := by
  unfold eqEs
  constructor
  · intro h
    cases hlen : ((l.length : Int) != (l'.length : Int)) with
    | true => rw [hlen] at h; cases h
    | false =>
      rw [hlen] at h
      exact zip_all (p := fun p : En × En => !eqEn p.1 p.2) (fun a b h => eqEn_iff.1 (by simpa using h)) (len_eq hlen) (by simpa using h)
  · rintro rfl
    rw [zip_same (p := fun p : En × En => !eqEn p.1 p.2) (fun a => by simp [eqEn_iff.2 rfl])]
    simp
theorem eqEs_same (l l' : List En) : eqEs l l' = sameE l l' := by
  rw [Bool.eq_iff_iff, eqEs_iff, sameE_iff]
theorem f30_ok {M : Nat} {l l' : List En} (hM : big + 9 ≤ M) (hl : l.length ≤ big) (hl' : l'.length ≤ big) (hs : ∀ e ∈ l, e.ok) (hs' : ∀ e ∈ l', e.ok) :
    callP env (M + 1) 30 [.sl 6 (l.map En.t), .sl 6 (l'.map En.t)] = .ok (.bool (sameE l l')) := by
  obtain ⟨m, rfl⟩ : ∃ m, M = m + 1 := ⟨M - 1, by omega⟩
  rw [e30, wfs2 (wf_sl (k := 6) hl fun e he => (hs e he).wf) (wf_sl (k := 6) hl' fun e he => (hs' e he).wf), f59_ok (by omega) hl hl' hs hs', ← eqEs_same]
  rfl

/-! ### Get -/
def Pa.none : Pa := ⟨0, [], 0, 0⟩
def getE (l : List En) (x : Px) : Option Pa := ((known l).find? fun e => eqPx e.x x).map (·.p)
theorem get_iff {l : List En} {x : Px} {p : Pa} : getE l x = some p ↔ (⟨x, p⟩ : En) ∈ known l := by
  unfold getE
  rw [Option.map_eq_some_iff]
  constructor
  · rintro ⟨e, he, rfl⟩
    have h1 := List.find?_some he
    have h2 := List.mem_of_find?_eq_some he
    simp only [eqPx_iff] at h1
    subst h1
    exact h2
  · intro h
    cases hf : (known l).find? fun e => eqPx e.x x with
    | none =>
      have := List.find?_eq_none.1 hf _ h
      simp [eqPx_iff.2 rfl] at this
    | some e =>
      have h1 := List.find?_some hf
      have h2 := List.mem_of_find?_eq_some hf
      simp only [eqPx_iff] at h1
      exact ⟨e, rfl, by rw [rise_inj (rise_known l) h2 h h1]⟩
theorem get_none {l : List En} {x : Px} : getE l x = none ↔ ∀ e ∈ known l, e.x ≠ x := by
  cases h : getE l x with
  | none =>
    refine ⟨fun _ e he hx => ?_, fun _ => rfl⟩
    subst hx
    have := (get_iff (l := l) (x := e.x) (p := e.p)).2 he
    rw [h] at this; cases this
  | some p => exact ⟨fun q => (by cases q), fun q => absurd rfl (q _ (get_iff.1 h))⟩
theorem get_ok {l : List En} {x : Px} (hs : ∀ e ∈ l, e.ok) : ((getE l x).getD Pa.none).ok := by
  cases h : getE l x with
  | none => exact ⟨by decide, by simp [Pa.none], by simp [Pa.none], by decide, by decide⟩
  | some p => exact (hs _ (known_sub (get_iff.1 h))).p
theorem f19_ok {M : Nat} {l : List En} {x : Px} (hM : big + 13 ≤ M) (hl : l.length ≤ big) (hs : ∀ e ∈ l, e.ok) (hx : x.ok) :
    callP env (M + 1) 19 [.sl 6 (l.map En.t), x.t] = .ok (.tup [((getE l x).getD Pa.none).t, .bool (getE l x).isSome]) := by
  obtain ⟨m, rfl⟩ : ∃ m, M = m + 1 := ⟨M - 1, by omega⟩
  have hw := wfs2 (wf_sl (k := 6) hl fun e he => (hs e he).wf) hx.wf
  have h43 := f43_ok (M := m) (l := l) (by omega) hl hs
  have hkl := known_len l
  have h44 := f44_ok (M := m) (l := known l) (x := x) (by omega) (by omega) (fun e he => hs e (known_sub he)) hx
  simp only [Px.t] at hw h44 ⊢
  rw [e19, hw, h43]
  simp only [cond_true, Res.bind_ok]
  rw [h44]
  simp only [Res.bind_ok, compT, List.getElem?_cons_zero, List.getElem?_cons_succ, bT_bool]
  cases ht : thereE (known l) x with
  | false =>
    have : getE l x = none := get_none.2 (not_there (rise_known l) ht)
    rw [this]
    rfl
  | true =>
    have hlt := thereE_lt ht
    obtain ⟨p, hp⟩ := there_split ht
    have hg : (known l)[placeE (known l) x]? = some ⟨x, p⟩ := by
      rw [hp] 
      rw [List.getElem?_append_right (by rw [List.length_take, ← hp]; omega)]
      rw [List.length_take, ← hp, Nat.min_eq_left (by omega), Nat.sub_self]
      rfl
    have hgs : getE l x = some p := get_iff.2 (List.mem_of_getElem? hg)
    rw [hgs]
    generalize placeE (known l) x = k at hg
    simp only [Bool.not_true, cond_false, anyT, slT, if_true, atT_get (map_get hg)]
    rfl
end Go.Sim

/- What calls come to: printed by a program of ours (wip/tools/eqs.py): laws of layer 18. -/
namespace Go.Sim
open Go.RowKit Go.Proofs
set_option linter.unusedVariables false
set_option maxRecDepth 100000

theorem t10_7_exit0 (N : Nat) (xs g g' m m' : List T) (o h c o' h' c' : Int) (s s' : List T) (u : T) : tailL env N 10 0 7 (outK env 10) (.exit 0) ⟨slots 100 [(0, .t (.sl 6 xs)), (4, .ptr 0 0), (5, .ptr 1 0), (7, .t u)], [.box 45 6 (.t (.agg [.sl 2 g, i64 o, .sl 1 s, i64 h, i64 c, .sl 2 m])), .box 45 6 (.t (.agg [.sl 2 g', i64 o', .sl 1 s', i64 h', i64 c', .sl 2 m']))]⟩ = Res.bind
  (callP env N 21
    [T.sl 6 xs, T.agg [T.sl 2 g, i64 o, T.sl 1 s, i64 h, i64 c, T.sl 2 m],
      i64 (1000)])
  fun x =>
  compT x 0 fun y =>
    compT x 1 fun y_1 =>
      Res.bind
        (callP env N 21
          [y, T.agg [T.sl 2 g', i64 o', T.sl 1 s', i64 h', i64 c', T.sl 2 m'],
            i64 (1000)])
        fun x =>
        compT x 0 fun y =>
          compT x 1 fun y_2 =>
            Res.bind
              (callP env N 21
                [T.sl 6 xs,
                  T.agg
                    [T.sl 2 g', i64 o', T.sl 1 s', i64 h', i64 c', T.sl 2 m'],
                  i64 (1000)])
              fun x =>
              compT x 0 fun y_3 =>
                compT x 1 fun y_4 =>
                  Res.bind
                    (callP env N 21
                      [y_3,
                        T.agg
                          [T.sl 2 g, i64 o, T.sl 1 s, i64 h, i64 c, T.sl 2 m],
                        i64 (1000)])
                    fun x =>
                    compT x 0 fun y_5 =>
                      compT x 1 fun y_6 =>
                        bT u fun b =>
                          bif b then
                            bT y_2 fun b =>
                              bif b then
                                bT y_6 fun b =>
                                  bif b then Res.bind (callP env N 26 [y, y_5]) fun x => Res.ok x
                                  else Res.ok (T.bool false)
                              else Res.ok (T.bool false)
                          else Res.ok (T.bool false) := by kernel_rfl
theorem t10_7_ret (N : Nat) (u : T) : tailL env N 10 0 7 (outK env 10) (.ret) ⟨slots 100 [(6, .t u)], []⟩ = Res.ok u := by kernel_rfl
theorem e9 (N : Nat) (xs g g' m m' : List T) (o h c o' h' c' : Int) (s s' : List T) : callP env (N + 1) 9 [.sl 6 xs, .agg [.sl 2 g, i64 o, .sl 1 s, i64 h, i64 c, .sl 2 m], .agg [.sl 2 g', i64 o', .sl 1 s', i64 h', i64 c', .sl 2 m']] = bif T.wfs [.sl 6 xs, .agg [.sl 2 g, i64 o, .sl 1 s, i64 h, i64 c, .sl 2 m], .agg [.sl 2 g', i64 o', .sl 1 s', i64 h', i64 c', .sl 2 m']] then (Res.bind (callP env N 16 []) fun x =>
  Res.bind (callP env N 17 [T.sl 6 xs]) fun x_1 =>
    bT x_1 fun b =>
      bif
          (!(b)) then
        Res.ok x
      else
        Res.bind
          (callP env N 18
            [T.agg [T.sl 2 g, i64 o, T.sl 1 s, i64 h, i64 c, T.sl 2 m]])
          fun x_2 =>
          bT x_2 fun b =>
            bif
                (!(b)) then
              Res.ok x
            else
              Res.bind
                (callP env N 18
                  [T.agg
                      [T.sl 2 g', i64 o', T.sl 1 s', i64 h', i64 c',
                        T.sl 2 m']])
                fun x_3 =>
                bT x_3 fun b =>
                  bif
                      (!(b)) then
                    Res.ok x
                  else
                    Res.bind
                      (callP env N 21
                        [T.sl 6 xs,
                          T.agg
                            [T.sl 2 g, i64 o, T.sl 1 s, i64 h, i64 c,
                              T.sl 2 m],
                          i64 (1000)])
                      fun x_4 =>
                      compT x_4 0 fun y =>
                        compT x_4 1 fun y_1 =>
                          Res.bind
                            (callP env N 21
                              [y,
                                T.agg
                                  [T.sl 2 g, i64 o, T.sl 1 s, i64 h, i64 c,
                                    T.sl 2 m],
                                i64 (1000)])
                            fun x_5 =>
                            compT x_5 0 fun y_2 =>
                              compT x_5 1 fun y_3 =>
                                Res.bind
                                  (callP env N 21
                                    [y_2,
                                      T.agg
                                        [T.sl 2 g', i64 o', T.sl 1 s', i64 h',
                                          i64 c', T.sl 2 m'],
                                      i64 (1000)])
                                  fun x_6 =>
                                  compT x_6 0 fun y_4 =>
                                    compT x_6 1 fun y_5 =>
                                      Res.bind (callP env N 26 [y, y_2]) fun x_7 =>
                                        bT x_7 fun b =>
                                          bif
                                              (!(b)) then
                                            Res.ok (T.bool false)
                                          else
                                            loopL env N 9 10
                                              {
                                                tmps :=
                                                  slots 126
                                                    [(5, PV.ptr 0 0), (7, PV.t x), (12, PV.t y_4),
                                                      (14, PV.t (i64 (0)))],
                                                heap :=
                                                  [AObj.box 45 6
                                                      (PV.t
                                                        (T.agg
                                                          [T.sl 2 g', i64 o', T.sl 1 s',
                                                            i64 h', i64 c', T.sl 2 m']))] }) else .absurd := by kernel_rfl
theorem b9_10 (N : Nat) (xs g' m' : List T) (o' h' c' : Int) (s' : List T) (u : T) (i : Nat) : bodyL env N 9 0 10 ⟨slots 126 [(5, .ptr 0 0), (7, .t u), (12, .t (.sl 6 xs)), (14, .t (i64 (i : Int)))], [.box 45 6 (.t (.agg [.sl 2 g', i64 o', .sl 1 s', i64 h', i64 c', .sl 2 m']))]⟩ = bif decide ((↑i : Int) < (↑(List.length g') : Int)) then
  atT g' (↑i : Int) fun e =>
    Res.bind (callP env N 19 [T.sl 6 xs, e]) fun x =>
      compT x 0 fun y =>
        compT x 1 fun y_1 =>
          chk
            (match List.length (T.cells y) == 4 with
            | false => false
            | true =>
              (!(T.isTup y)))
            (bT y_1 fun b =>
              bif b then
                atT g' (↑i : Int) fun e =>
                  Res.bind (callP env N 31 [T.sl 2 m', e]) fun x =>
                    bT x fun b =>
                      bif
                          (!(b)) then
                        Res.ok (Ex.ret, { tmps := slots 126 [(6, PV.t (T.bool false))], heap := [] })
                      else
                        Res.ok
                          (Ex.norm,
                            {
                              tmps :=
                                slots 126
                                  [(5, PV.ptr 0 0), (7, PV.t u), (12, PV.t (T.sl 6 xs)),
                                    (14,
                                      PV.t (i64 (IntKind.wrap IntKind.i64 ((↑i : Int) + 1))))],
                              heap :=
                                [AObj.box 45 6
                                    (PV.t
                                      (T.agg
                                        [T.sl 2 g', i64 o', T.sl 1 s', i64 h',
                                          i64 c', T.sl 2 m']))] })
              else
                Res.ok
                  (Ex.norm,
                    {
                      tmps :=
                        slots 126
                          [(5, PV.ptr 0 0), (7, PV.t u), (12, PV.t (T.sl 6 xs)),
                            (14, PV.t (i64 (IntKind.wrap IntKind.i64 ((↑i : Int) + 1))))],
                      heap :=
                        [AObj.box 45 6
                            (PV.t
                              (T.agg
                                [T.sl 2 g', i64 o', T.sl 1 s', i64 h', i64 c',
                                  T.sl 2 m']))] }))
else
  Res.ok
    (Ex.exit 0,
      { tmps := slots 126 [(5, PV.ptr 0 0), (7, PV.t u), (12, PV.t (T.sl 6 xs))],
        heap :=
          [AObj.box 45 6
              (PV.t
                (T.agg
                  [T.sl 2 g', i64 o', T.sl 1 s', i64 h', i64 c',
                    T.sl 2 m']))] }) := by kernel_rfl
theorem t9_10_exit0 (N : Nat) (xs g' m' : List T) (o' h' c' : Int) (s' : List T) (u : T) : tailL env N 9 0 10 (outK env 9) (.exit 0) ⟨slots 126 [(5, .ptr 0 0), (7, .t u), (12, .t (.sl 6 xs))], [.box 45 6 (.t (.agg [.sl 2 g', i64 o', .sl 1 s', i64 h', i64 c', .sl 2 m']))]⟩ = loopL env N 9 16
  {
    tmps :=
      slots 126 [(5, PV.ptr 0 0), (7, PV.t u), (12, PV.t (T.sl 6 xs)), (17, PV.t (i64 (0)))],
    heap :=
      [AObj.box 45 6
          (PV.t
            (T.agg
              [T.sl 2 g', i64 o', T.sl 1 s', i64 h', i64 c', T.sl 2 m']))] } := by kernel_rfl
theorem t9_10_ret (N : Nat) (u : T) : tailL env N 9 0 10 (outK env 9) (.ret) ⟨slots 126 [(6, .t u)], []⟩ = Res.ok u := by kernel_rfl
theorem t9_16_exit2 (N : Nat) (u : T) : tailL env N 9 0 16 (outK env 9) (.exit 2) ⟨slots 126 [(7, .t u)], []⟩ = Res.ok u := by kernel_rfl
theorem t9_16_ret (N : Nat) (u : T) : tailL env N 9 0 16 (outK env 9) (.ret) ⟨slots 126 [(6, .t u)], []⟩ = Res.ok u := by kernel_rfl
end Go.Sim

/- The law of layer 18 on news of others. -/
namespace Go.Sim
open Go.RowKit Go.Proofs
set_option linter.unusedVariables false
set_option linter.unusedSimpArgs false
set_option maxRecDepth 100000

theorem f21_room {M : Nat} {t : List En} {n : Nw} (hM : big + 13 ≤ M) (hl : t.length ≤ 900) (hs : ∀ e ∈ t, e.ok) (hn : n.ok) (hf : n.m.length ≤ 40) :
    callP env (M + 1) 21 [.sl 6 (t.map En.t), n.t, i64 1000] = .ok (.tup [.sl 6 ((applyE t n).map En.t), .bool true]) := by
  have hb := big_val
  have hlen : (t.length + n.m.length + 1) * 64 ≤ big := by omega
  have h := f21_ok (M := M) (k := 1000) hM hlen hs hn (by decide)
  have := applyE_len t n
  rw [decide_eq_false (show ¬ (((applyE t n).length : Int) > 1000) by omega)] at h
  exact h
theorem few_len {l : List En} (h : fewE l = true) : l.length ≤ 40 := by
  simp only [fewE, Bool.and_eq_true, decide_eq_true_eq] at h; omega
theorem few_news {n : Nw} (h : fewN n = true) : n.g.length ≤ 40 ∧ n.m.length ≤ 40 := by
  simp only [fewN, Bool.and_eq_true, decide_eq_true_eq] at h; omega

theorem swap_law {t : List En} {n m : Nw} (h : ∀ x, x ∈ n.g ∨ x ∈ n.m → x ∉ m.g ∧ x ∉ m.m) : applyE (applyE t n) m = applyE (applyE t m) n := by
  refine rise_ext (rise_apply _ _) (rise_apply _ _) fun e => ?_
  rw [mem_apply, mem_apply, known_apply, known_apply, mem_apply, mem_apply]
  have h1 := h e.x
  unfold Told
  by_cases a : e.x ∈ n.g <;> by_cases b : e.x ∈ n.m <;> by_cases c : e.x ∈ m.g <;> by_cases d : e.x ∈ m.m <;> simp_all

def hN (n : Nw) : AObj := .box 45 6 (.t (.agg [.sl 2 (n.g.map Px.t), i64 n.p.o, .sl 1 (ints n.p.s), i64 n.p.h, i64 n.p.c, .sl 2 (n.m.map Px.t)]))
def S10 (t : List En) (n m : Nw) (i : Nat) : St := ⟨slots 100 [(0, .t (.sl 6 (t.map En.t))), (4, .ptr 0 0), (5, .ptr 1 0), (7, .t (.bool true)), (8, .own 2), (9, .t (i64 (i : Int)))], [hN n, hN m, .row 35 2 ((n.g ++ n.m).map Px.t)]⟩
def X10 (t : List En) (n m : Nw) : St := ⟨slots 100 [(0, .t (.sl 6 (t.map En.t))), (4, .ptr 0 0), (5, .ptr 1 0), (7, .t (.bool true))], [hN n, hN m]⟩
theorem b10_step {k : Nat} {t : List En} {n m : Nw} {j : Nat} {x : Px} (hM : big + 60 ≤ k + 1) (hm : m.ok) (hx : (n.g ++ n.m)[j]? = some x) (hj2 : j ≤ big) (hxo : x.ok) :
    bodyL env (k + 1) 10 0 7 (S10 t n m j) = bif (m.g.any fun y => eqPx y x) || (m.m.any fun y => eqPx y x) then .ok (.ret, ⟨slots 100 [(6, .t (.bool true))], []⟩) else .ok (.norm, S10 t n m (j + 1)) := by
  have hj : j < (n.g ++ n.m).length := (List.getElem?_eq_some_iff.1 hx).1
  have hj3 : ((j : Int) < (((n.g ++ n.m).map Px.t).length : Int)) := by rw [List.length_map]; omega
  unfold S10 hN
  rw [b10_7, decide_eq_true hj3]
  simp only [cond_true, chk]
  rw [show List.getD ((n.g ++ n.m).map Px.t) (Int.toNat (j : Int)) T.nilp = x.t by rw [List.getD_eq_getElem?_getD, Int.toNat_natCast, map_get hx]; rfl]
  rw [f31_ok (by omega) hm.gl hm.g hxo, f31_ok (by omega) hm.ml hm.m hxo]
  simp only [Res.bind_ok, bT_bool, wrap_succ hj2]
  cases m.g.any fun y => eqPx y x <;> cases m.m.any fun y => eqPx y x <;> rfl
theorem b10_exit {k : Nat} {t : List En} {n m : Nw} : bodyL env (k + 1) 10 0 7 (S10 t n m (n.g ++ n.m).length) = .ok (.exit 0, X10 t n m) := by
  unfold S10 X10 hN
  rw [b10_7, decide_eq_false (by rw [List.length_map]; omega)]
  simp only [cond_false]
theorem t10 {k : Nat} {t : List En} {n m : Nw} (hM : big + 60 ≤ k + 1) (hs : ∀ e ∈ t, e.ok) (hn : n.ok) (hm : m.ok) (k1 : t.length ≤ 40) (k2 : n.m.length ≤ 40) (k3 : m.m.length ≤ 40) (hdis : ∀ x, x ∈ n.g ∨ x ∈ n.m → x ∉ m.g ∧ x ∉ m.m) :
    tailL env (k + 1) 10 0 7 (outK env 10) (.exit 0) (X10 t n m) = .ok (.bool true) := by
  have hb := big_val
  have z1 := applyE_len t n
  have z2 := applyE_len t m
  have g1 := f21_room (M := k) (t := t) (n := n) (by omega) (by omega) hs hn k2
  have g2 := f21_room (M := k) (t := applyE t n) (n := m) (by omega) (by omega) (applyE_ok hs hn) hm k3
  have g3 := f21_room (M := k) (t := t) (n := m) (by omega) (by omega) hs hm k3
  have g4 := f21_room (M := k) (t := applyE t m) (n := n) (by omega) (by omega) (applyE_ok hs hm) hn k2
  have z3 := applyE_len (applyE t n) m
  have g5 := f26_ok (M := k) (l := applyE (applyE t n) m) (l' := applyE (applyE t n) m) (by omega) (by omega) (by omega) (applyE_ok (applyE_ok hs hn) hm) (applyE_ok (applyE_ok hs hn) hm)
  rw [← swap_law hdis] at g4
  simp only [Nw.t] at g1 g2 g3 g4
  unfold X10 hN
  rw [t10_7_exit0, g1]
  simp only [Res.bind_ok, compT, List.getElem?_cons_zero, List.getElem?_cons_succ]
  rw [g2]
  simp only [Res.bind_ok, compT, List.getElem?_cons_zero, List.getElem?_cons_succ]
  rw [g3]
  simp only [Res.bind_ok, compT, List.getElem?_cons_zero, List.getElem?_cons_succ]
  rw [g4]
  simp only [Res.bind_ok, compT, List.getElem?_cons_zero, List.getElem?_cons_succ, bT_bool, cond_true]
  rw [g5, sameE_refl]
  rfl
theorem f10_ok {M : Nat} {t : List En} {n m : Nw} (hM : big + 60 ≤ M) (hl : t.length ≤ big) (hs : ∀ e ∈ t, e.ok) (hn : n.ok) (hm : m.ok) :
    callP env (M + 1) 10 [.sl 6 (t.map En.t), n.t, m.t] = .ok (.bool true) := by
  have hb := big_val
  obtain ⟨k, rfl⟩ : ∃ k, M = k + 1 := ⟨M - 1, by omega⟩
  have hw := wfs3 (wf_sl (k := 6) hl fun e he => (hs e he).wf) hn.wf hm.wf
  obtain ⟨q, hq⟩ : ∃ q, k + 1 = q + 40 := ⟨k + 1 - 40, by omega⟩
  have h16 : callP env (k + 1) 16 [] = .ok (.bool true) := by rw [hq]; exact awake18 q
  have h17 := f17_ok (M := k) (l := t) (by omega) hl hs
  have h18 := f18_ok (M := k) hn
  have h18' := f18_ok (M := k) hm
  simp only [Nw.t] at hw h18 h18' ⊢
  rw [e10, hw, h16, h17]
  simp only [cond_true, Res.bind_ok, bT_bool]
  cases hf : fewE t with
  | false => rfl
  | true =>
  simp only [Bool.not_true, cond_false]
  rw [h18]
  simp only [Res.bind_ok, bT_bool]
  cases hfn : fewN n with
  | false => rfl
  | true =>
  simp only [Bool.not_true, cond_false]
  rw [h18']
  simp only [Res.bind_ok, bT_bool]
  cases hfm : fewN m with
  | false => rfl
  | true =>
  simp only [Bool.not_true, cond_false, chkAll, chk, List.nil_append, List.length_map]
  have k1 := few_len hf
  have k2 := few_news hfn
  have k3 := few_news hfm
  rw [decide_eq_true (show (0 + n.g.length) * (15 + 1) ≤ big by omega), decide_eq_true (show (n.g.length + n.m.length) * (15 + 1) ≤ big by omega)]
  simp only [cond_true, loopL]
  rw [show n.g.map Px.t ++ n.m.map Px.t = (n.g ++ n.m).map Px.t by simp]
  have hall := iter_any (B := bodyL env (k + 1) 10 0 7) (S := S10 t n m) (R := ⟨slots 100 [(6, .t (.bool true))], []⟩) (X := X10 t n m) (id := 0) (fun x => (m.g.any fun y => eqPx y x) || (m.m.any fun y => eqPx y x)) (n.g ++ n.m) (n := k + 1) (by rw [List.length_append]; omega)
    (fun j x hx => by
      have hj : j < (n.g ++ n.m).length := (List.getElem?_eq_some_iff.1 hx).1
      have hj2 : j ≤ big := by rw [List.length_append] at hj; omega
      exact b10_step hM hm hx hj2 ((List.mem_append.1 (List.mem_of_getElem? hx)).elim (hn.g x) (hn.m x)))
    b10_exit
  rw [show (⟨slots 100 [(0, .t (.sl 6 (t.map En.t))), (4, .ptr 0 0), (5, .ptr 1 0), (7, .t (.bool true)), (8, .own 2), (9, .t (i64 0))], [.box 45 6 (.t (.agg [.sl 2 (n.g.map Px.t), i64 n.p.o, .sl 1 (ints n.p.s), i64 n.p.h, i64 n.p.c, .sl 2 (n.m.map Px.t)])), .box 45 6 (.t (.agg [.sl 2 (m.g.map Px.t), i64 m.p.o, .sl 1 (ints m.p.s), i64 m.p.h, i64 m.p.c, .sl 2 (m.m.map Px.t)])), .row 35 2 ((n.g ++ n.m).map Px.t)]⟩ : St) = S10 t n m 0 from rfl, hall]
  cases hany : (n.g ++ n.m).any fun x => (m.g.any fun y => eqPx y x) || (m.m.any fun y => eqPx y x) with
  | true => simp only [cond_true, Res.bind_ok, t10_7_ret]
  | false =>
    have hdis : ∀ x, x ∈ n.g ∨ x ∈ n.m → x ∉ m.g ∧ x ∉ m.m := fun x hx => by
      have := List.any_eq_false.1 hany x (List.mem_append.2 hx)
      simp only [Bool.or_eq_true, in_iff, not_or] at this
      exact this
    rw [cond_false, Res.bind_ok]
    exact t10 hM hs hn hm k1 k2.2 k3.2 hdis
end Go.Sim

/- What calls come to: printed by a program of ours (wip/tools/eqs.py): a round of a law of layer 18. -/
namespace Go.Sim
open Go.RowKit Go.Proofs
set_option linter.unusedVariables false
set_option maxRecDepth 100000

theorem b9_16 (N : Nat) (xs g' m' : List T) (o' h' c' : Int) (s' : List T) (u : T) (i : Nat) : bodyL env N 9 0 16 ⟨slots 126 [(5, .ptr 0 0), (7, .t u), (12, .t (.sl 6 xs)), (17, .t (i64 (i : Int)))], [.box 45 6 (.t (.agg [.sl 2 g', i64 o', .sl 1 s', i64 h', i64 c', .sl 2 m']))]⟩ = bif decide ((↑i : Int) < (↑(List.length m') : Int)) then
  atT m' (↑i : Int) fun e =>
    Res.bind (callP env N 19 [T.sl 6 xs, e]) fun x =>
      compT x 0 fun y =>
        compT x 1 fun y_1 =>
          chk
            (match List.length (T.cells y) == 4 with
            | false => false
            | true =>
              (!(T.isTup y)))
            (atT m' (↑i : Int) fun e =>
              Res.bind (callP env N 32 [e]) fun x =>
                bT x fun b =>
                  bif b then
                    Res.bind
                      (callP env N 33
                        [T.agg
                            (List.take 4
                              (List.drop 1
                                [T.sl 2 g', i64 o', T.sl 1 s', i64 h', i64 c',
                                  T.sl 2 m']))])
                      fun x =>
                      bT x fun b =>
                        bif b then
                          bT y_1 fun b =>
                            bif
                                (!(b)) then
                              Res.ok (Ex.ret, { tmps := slots 126 [(6, PV.t (T.bool false))], heap := [] })
                            else
                              Res.bind
                                (callP env N 25
                                  [y,
                                    T.agg
                                      (List.take 4
                                        (List.drop 1
                                          [T.sl 2 g', i64 o', T.sl 1 s', i64 h',
                                            i64 c', T.sl 2 m']))])
                                fun x =>
                                bT x fun b =>
                                  bif
                                      (!(b)) then
                                    Res.ok (Ex.ret, { tmps := slots 126 [(6, PV.t (T.bool false))], heap := [] })
                                  else
                                    Res.ok
                                      (Ex.norm,
                                        {
                                          tmps :=
                                            slots 126
                                              [(5, PV.ptr 0 0), (7, PV.t u), (12, PV.t (T.sl 6 xs)),
                                                (17,
                                                  PV.t
                                                    (i64
                                                      (IntKind.wrap IntKind.i64 ((↑i : Int) + 1))))],
                                          heap :=
                                            [AObj.box 45 6
                                                (PV.t
                                                  (T.agg
                                                    [T.sl 2 g', i64 o', T.sl 1 s', i64 h',
                                                      i64 c', T.sl 2 m']))] })
                        else
                          Res.ok
                            (Ex.norm,
                              {
                                tmps :=
                                  slots 126
                                    [(5, PV.ptr 0 0), (7, PV.t u), (12, PV.t (T.sl 6 xs)),
                                      (17,
                                        PV.t
                                          (i64 (IntKind.wrap IntKind.i64 ((↑i : Int) + 1))))],
                                heap :=
                                  [AObj.box 45 6
                                      (PV.t
                                        (T.agg
                                          [T.sl 2 g', i64 o', T.sl 1 s', i64 h',
                                            i64 c', T.sl 2 m']))] })
                  else
                    Res.ok
                      (Ex.norm,
                        {
                          tmps :=
                            slots 126
                              [(5, PV.ptr 0 0), (7, PV.t u), (12, PV.t (T.sl 6 xs)),
                                (17, PV.t (i64 (IntKind.wrap IntKind.i64 ((↑i : Int) + 1))))],
                          heap :=
                            [AObj.box 45 6
                                (PV.t
                                  (T.agg
                                    [T.sl 2 g', i64 o', T.sl 1 s', i64 h',
                                      i64 c', T.sl 2 m']))] }))
else Res.ok (Ex.exit 2, { tmps := slots 126 [(7, PV.t u)], heap := [] }) := by kernel_rfl
end Go.Sim

/- The law of layer 18 on the last news. -/
namespace Go.Sim
open Go.RowKit Go.Proofs
set_option linter.unusedVariables false
set_option linter.unusedSimpArgs false
set_option maxRecDepth 100000

theorem twice_law {t : List En} {n : Nw} : applyE (applyE t n) n = applyE t n := by
  refine rise_ext (rise_apply _ _) (rise_apply _ _) fun e => ?_
  rw [mem_apply, known_apply, mem_apply]
  by_cases a : e.x ∈ n.g <;> by_cases b : Told n.p n.m e.x <;> simp_all
theorem told_get {t : List En} {n : Nw} {x : Px} (h : Told n.p n.m x) : getE (applyE t n) x = some n.p := by
  rw [get_iff, known_apply, mem_apply]
  exact .inl ⟨h, rfl⟩
theorem gone_get {t : List En} {n : Nw} {x : Px} (h : x ∈ n.g) (h2 : ¬ Told n.p n.m x) : getE (applyE t n) x = none := by
  rw [get_none, known_apply]
  intro e he hx
  subst hx
  rcases mem_apply.1 he with ⟨h3, _⟩ | ⟨_, h3, _⟩
  · exact h2 h3
  · exact h3 h
theorem rest_get {t : List En} {n : Nw} {x : Px} (h : x ∉ n.g) (h2 : ¬ Told n.p n.m x) : getE (applyE t n) x = getE t x := by
  refine Option.ext fun p => ?_
  rw [get_iff, get_iff, known_apply, mem_apply]
  constructor
  · rintro (⟨h3, _⟩ | ⟨h3, _⟩)
    · exact absurd h3 h2
    · exact h3
  · exact fun h3 => .inr ⟨h3, h, h2⟩

def S9a (c : List En) (m : Nw) (i : Nat) : St := ⟨slots 126 [(5, .ptr 0 0), (7, .t (.bool true)), (12, .t (.sl 6 (c.map En.t))), (14, .t (i64 (i : Int)))], [hN m]⟩
def S9b (c : List En) (m : Nw) (i : Nat) : St := ⟨slots 126 [(5, .ptr 0 0), (7, .t (.bool true)), (12, .t (.sl 6 (c.map En.t))), (17, .t (i64 (i : Int)))], [hN m]⟩
def X9a (c : List En) (m : Nw) : St := ⟨slots 126 [(5, .ptr 0 0), (7, .t (.bool true)), (12, .t (.sl 6 (c.map En.t)))], [hN m]⟩
theorem pa_cells (p : Pa) : T.cells p.t = [i64 p.o, .sl 1 (ints p.s), i64 p.h, i64 p.c] := rfl
theorem pa_tup (p : Pa) : T.isTup p.t = false := rfl
theorem pa_part (n : Nw) : T.agg (List.take 4 (List.drop 1 [T.sl 2 (n.g.map Px.t), i64 n.p.o, T.sl 1 (ints n.p.s), i64 n.p.h, i64 n.p.c, T.sl 2 (n.m.map Px.t)])) = n.p.t := rfl
theorem b9a {k : Nat} {c : List En} {m : Nw} {j : Nat} {x : Px} (hM : big + 60 ≤ k) (hm : m.ok) (hx : m.g[j]? = some x) (hj : j ≤ big) (hl : c.length ≤ big) (hs : ∀ e ∈ c, e.ok) (hlaw : (getE c x).isSome = true → x ∈ m.m) :
    bodyL env (k + 1) 9 0 10 (S9a c m j) = .ok (.norm, S9a c m (j + 1)) := by
  have hlt : j < m.g.length := (List.getElem?_eq_some_iff.1 hx).1
  have hxo := hm.g x (List.mem_of_getElem? hx)
  unfold S9a hN
  rw [b9_10, decide_eq_true (show (j : Int) < ((m.g.map Px.t).length : Int) by rw [List.length_map]; omega)]
  simp only [cond_true, atT_get (map_get hx)]
  rw [f19_ok (by omega) hl hs hxo]
  simp only [Res.bind_ok, compT, List.getElem?_cons_zero, List.getElem?_cons_succ, bT_bool, pa_cells, pa_tup, List.length_cons, List.length_nil, wrap_succ hj]
  cases h : (getE c x).isSome with
  | false => rfl
  | true =>
    rw [f31_ok (by omega) hm.ml hm.m hxo, in_iff.2 (hlaw h)]
    rfl
theorem b9a_exit {k : Nat} {c : List En} {m : Nw} : bodyL env (k + 1) 9 0 10 (S9a c m m.g.length) = .ok (.exit 0, X9a c m) := by
  unfold S9a X9a hN
  rw [b9_10, decide_eq_false (by rw [List.length_map]; omega)]
  simp only [cond_false]
theorem b9b {k : Nat} {c : List En} {m : Nw} {j : Nat} {x : Px} (hM : big + 60 ≤ k) (hm : m.ok) (hx : m.m[j]? = some x) (hj : j ≤ big) (hl : c.length ≤ big) (hs : ∀ e ∈ c, e.ok) (hlaw : psane x = true → asane m.p = true → getE c x = some m.p) :
    bodyL env (k + 1) 9 0 16 (S9b c m j) = .ok (.norm, S9b c m (j + 1)) := by
  have hlt : j < m.m.length := (List.getElem?_eq_some_iff.1 hx).1
  have hxo := hm.m x (List.mem_of_getElem? hx)
  unfold S9b hN
  rw [b9_16, decide_eq_true (show (j : Int) < ((m.m.map Px.t).length : Int) by rw [List.length_map]; omega)]
  simp only [cond_true, atT_get (map_get hx)]
  rw [f19_ok (by omega) hl hs hxo]
  simp only [Res.bind_ok, compT, List.getElem?_cons_zero, List.getElem?_cons_succ, bT_bool, pa_cells, pa_tup, List.length_cons, List.length_nil, wrap_succ hj]
  rw [f32_ok hxo (by omega), pa_part, f33_ok hm.p (by omega)]
  simp only [Res.bind_ok, bT_bool]
  cases h1 : psane x with
  | false => rfl
  | true =>
  cases h2 : asane m.p with
  | false => rfl
  | true =>
    rw [hlaw h1 h2]
    simp only [Option.getD, Option.isSome, Bool.not_true, cond_true, cond_false]
    rw [f25_ok (by omega) hm.p hm.p, samePa_refl]
    rfl
theorem b9b_exit {k : Nat} {c : List En} {m : Nw} : bodyL env (k + 1) 9 0 16 (S9b c m m.m.length) = .ok (.exit 2, ⟨slots 126 [(7, .t (.bool true))], []⟩) := by
  unfold S9b hN
  rw [b9_16, decide_eq_false (by rw [List.length_map]; omega)]
  simp only [cond_false]
theorem any_none {α : Type} (l : List α) : (l.any fun _ => false) = false := by simp
theorem loop9b {k : Nat} {c : List En} {m : Nw} (hM : big + 60 ≤ k) (hm : m.ok) (hl : c.length ≤ big) (hs : ∀ e ∈ c, e.ok) (hlaw : ∀ x ∈ m.m, psane x = true → asane m.p = true → getE c x = some m.p) :
    loopL env (k + 1) 9 16 (S9b c m 0) = .ok (.bool true) := by
  have hml := hm.ml
  have := iter_any (B := bodyL env (k + 1) 9 0 16) (S := S9b c m) (R := ⟨slots 126 [(6, .t (.bool false))], []⟩) (id := 2) (fun _ => false) m.m (n := k + 1) (by omega)
    (fun j x hx => by
      have hlt : j < m.m.length := (List.getElem?_eq_some_iff.1 hx).1
      rw [cond_false]
      exact b9b hM hm hx (by omega) hl hs (hlaw x (List.mem_of_getElem? hx))) b9b_exit
  unfold loopL
  rw [this, any_none, cond_false, Res.bind_ok]
  exact t9_16_exit2 (k + 1) (.bool true)
theorem loop9a {k : Nat} {c : List En} {m : Nw} (hM : big + 60 ≤ k) (hm : m.ok) (hl : c.length ≤ big) (hs : ∀ e ∈ c, e.ok) (hlaw : ∀ x ∈ m.m, psane x = true → asane m.p = true → getE c x = some m.p) (hlaw2 : ∀ x ∈ m.g, (getE c x).isSome = true → x ∈ m.m) :
    loopL env (k + 1) 9 10 (S9a c m 0) = .ok (.bool true) := by
  have hgl := hm.gl
  have := iter_any (B := bodyL env (k + 1) 9 0 10) (S := S9a c m) (R := ⟨slots 126 [(6, .t (.bool false))], []⟩) (id := 0) (fun _ => false) m.g (n := k + 1) (by omega)
    (fun j x hx => by
      have hlt : j < m.g.length := (List.getElem?_eq_some_iff.1 hx).1
      rw [cond_false]
      exact b9a hM hm hx (by omega) hl hs (hlaw2 x (List.mem_of_getElem? hx))) b9a_exit
  unfold loopL
  rw [this, any_none, cond_false, Res.bind_ok]
  have h2 := loop9b hM hm hl hs hlaw
  show tailL env (k + 1) 9 0 10 (outK env 9) (.exit 0) (X9a c m) = _
  unfold X9a hN
  rw [t9_10_exit0]
  exact h2
theorem f9_ok {M : Nat} {t : List En} {n m : Nw} (hM : big + 70 ≤ M) (hl : t.length ≤ big) (hs : ∀ e ∈ t, e.ok) (hn : n.ok) (hm : m.ok) :
    callP env (M + 1) 9 [.sl 6 (t.map En.t), n.t, m.t] = .ok (.bool true) := by
  have hb := big_val
  obtain ⟨k, rfl⟩ : ∃ k, M = k + 1 := ⟨M - 1, by omega⟩
  have hw := wfs3 (wf_sl (k := 6) hl fun e he => (hs e he).wf) hn.wf hm.wf
  obtain ⟨q, hq⟩ : ∃ q, k + 1 = q + 40 := ⟨k + 1 - 40, by omega⟩
  have h16 : callP env (k + 1) 16 [] = .ok (.bool true) := by rw [hq]; exact awake18 q
  have h17 := f17_ok (M := k) (l := t) (by omega) hl hs
  have h18 := f18_ok (M := k) hn
  have h18' := f18_ok (M := k) hm
  simp only [Nw.t] at hw h18 h18' ⊢
  rw [e9, hw, h16, h17]
  simp only [cond_true, Res.bind_ok, bT_bool]
  cases hf : fewE t with
  | false => rfl
  | true =>
  simp only [Bool.not_true, cond_false]
  rw [h18]
  simp only [Res.bind_ok, bT_bool]
  cases hfn : fewN n with
  | false => rfl
  | true =>
  simp only [Bool.not_true, cond_false]
  rw [h18']
  simp only [Res.bind_ok, bT_bool]
  cases hfm : fewN m with
  | false => rfl
  | true =>
  simp only [Bool.not_true, cond_false]
  have k1 := few_len hf
  have k2 := few_news hfn
  have k3 := few_news hfm
  have z1 := applyE_len t n
  have z2 := applyE_len (applyE t n) m
  have o1 := applyE_ok hs hn
  have o2 := applyE_ok o1 hm
  have g1 := f21_room (M := k) (t := t) (n := n) (by omega) (by omega) hs hn k2.2
  have g2 := f21_room (M := k) (t := applyE t n) (n := n) (by omega) (by omega) o1 hn k2.2
  have g3 := f21_room (M := k) (t := applyE t n) (n := m) (by omega) (by omega) o1 hm k3.2
  have g4 := f26_ok (M := k) (l := applyE t n) (l' := applyE t n) (by omega) (by omega) (by omega) o1 o1
  rw [twice_law] at g2
  simp only [Nw.t] at g1 g2 g3
  rw [g1]
  simp only [Res.bind_ok, compT, List.getElem?_cons_zero, List.getElem?_cons_succ]
  rw [g2]
  simp only [Res.bind_ok, compT, List.getElem?_cons_zero, List.getElem?_cons_succ]
  rw [g3]
  simp only [Res.bind_ok, compT, List.getElem?_cons_zero, List.getElem?_cons_succ]
  rw [g4, sameE_refl]
  simp only [Res.bind_ok, bT_bool, Bool.not_true, cond_false]
  exact loop9a (by omega) hm (by omega) o2 (fun x hx h1 h2 => told_get ⟨hx, h1, h2⟩) fun x hx h1 => by
    refine Classical.byContradiction fun h2 => ?_
    rw [gone_get hx (fun h3 => h2 h3.1)] at h1
    cases h1
end Go.Sim

/- What calls come to: printed by a program of ours (wip/tools/eqs.py): Diff, and a law of layer 18. -/
namespace Go.Sim
open Go.RowKit Go.Proofs
set_option linter.unusedVariables false
set_option maxRecDepth 100000

theorem e8 (N : Nat) (xs ys : List T) : callP env (N + 1) 8 [.sl 6 xs, .sl 6 ys] = bif T.wfs [.sl 6 xs, .sl 6 ys] then (Res.bind (callP env N 16 []) fun x =>
  Res.bind (callP env N 17 [T.sl 6 xs]) fun x_1 =>
    bT x_1 fun b =>
      bif
          (!(b)) then
        Res.ok x
      else
        Res.bind (callP env N 17 [T.sl 6 ys]) fun x_2 =>
          bT x_2 fun b =>
            bif
                (!(b)) then
              Res.ok x
            else
              Res.bind (callP env N 28 [T.sl 6 xs]) fun x_3 =>
                bT x_3 fun b =>
                  bif
                      (!(b)) then
                    Res.ok x
                  else
                    Res.bind (callP env N 28 [T.sl 6 ys]) fun x_4 =>
                      bT x_4 fun b =>
                        bif
                            (!(b)) then
                          Res.ok x
                        else
                          Res.bind (callP env N 23 [T.sl 6 xs, T.sl 6 ys]) fun x_5 =>
                            compT x_5 0 fun y =>
                              compT x_5 1 fun y_1 =>
                                chk
                                  (match List.length (T.cells y) == 1 with
                                  | false => false
                                  | true =>
                                    (!(T.isTup y)))
                                  (Res.bind
                                    (callP env N 21
                                      [T.sl 6 xs,
                                        T.agg
                                          [T.cell y 0, i64 (0), T.sl 1 [],
                                            i64 (0), i64 (0),
                                            T.sl 2 []],
                                        i64 (1000)])
                                    fun x_6 =>
                                    compT x_6 0 fun y_2 =>
                                      compT x_6 1 fun y_3 =>
                                        loopL env N 8 7
                                          {
                                            tmps :=
                                              slots 95
                                                [(0, PV.t (T.sl 6 xs)), (1, PV.t (T.sl 6 ys)), (5, PV.t x), (6, PV.t y),
                                                  (7, PV.t y_1), (8, PV.t y_2), (9, PV.t y_3),
                                                  (10, PV.t (i64 (0)))],
                                            heap := [] })) else .absurd := by kernel_rfl
theorem b8_7 (N : Nat) (xs ys gs ms : List T) (u cur ok : T) (i : Nat) : bodyL env N 8 0 7 ⟨slots 95 [(0, .t (.sl 6 xs)), (1, .t (.sl 6 ys)), (5, .t u), (6, .t (.sl 2 gs)), (7, .t (.sl 6 ms)), (8, .t cur), (9, .t ok), (10, .t (i64 (i : Int)))], []⟩ = bif decide ((↑i : Int) < (↑(List.length ms) : Int)) then
  atT ms (↑i : Int) fun e =>
    atT ms (↑i : Int) fun e_1 =>
      chkAll (T.okE 2) [T.partD e_1 0 2 true]
        (chk
          (match List.length (T.cells (T.partD e 2 4 true)) == 4 with
          | false => false
          | true => true)
          (Res.bind
            (callP env N 21
              [cur,
                T.agg
                  [T.sl 2 [], T.cell (T.partD e 2 4 true) 0, T.cell (T.partD e 2 4 true) 1,
                    T.cell (T.partD e 2 4 true) 2, T.cell (T.partD e 2 4 true) 3, T.sl 2 [T.partD e_1 0 2 true]],
                i64 (1000)])
            fun x =>
            compT x 0 fun y =>
              compT x 1 fun y_1 =>
                bT ok fun b =>
                  bif b then
                    Res.ok
                      (Ex.norm,
                        {
                          tmps :=
                            slots 95
                              [(0, PV.t (T.sl 6 xs)), (1, PV.t (T.sl 6 ys)), (5, PV.t u), (6, PV.t (T.sl 2 gs)),
                                (7, PV.t (T.sl 6 ms)), (8, PV.t y), (9, PV.t y_1),
                                (10, PV.t (i64 (IntKind.wrap IntKind.i64 ((↑i : Int) + 1))))],
                          heap := [] })
                  else
                    Res.ok
                      (Ex.norm,
                        {
                          tmps :=
                            slots 95
                              [(0, PV.t (T.sl 6 xs)), (1, PV.t (T.sl 6 ys)), (5, PV.t u), (6, PV.t (T.sl 2 gs)),
                                (7, PV.t (T.sl 6 ms)), (8, PV.t y), (9, PV.t (T.bool false)),
                                (10, PV.t (i64 (IntKind.wrap IntKind.i64 ((↑i : Int) + 1))))],
                          heap := [] })))
else
  Res.ok
    (Ex.exit 0,
      {
        tmps :=
          slots 95
            [(0, PV.t (T.sl 6 xs)), (1, PV.t (T.sl 6 ys)), (5, PV.t u), (6, PV.t (T.sl 2 gs)), (7, PV.t (T.sl 6 ms)),
              (8, PV.t cur), (9, PV.t ok)],
        heap := [] }) := by kernel_rfl
theorem t23_4_exit0 (N : Nat) (xs ys gs ms : List T) : tailL env N 23 0 4 (outK env 23) (.exit 0) ⟨slots 68 [(0, .t (.sl 6 xs)), (1, .t (.sl 6 ys)), (6, .own 0), (7, .own 1)], [.row 35 2 gs, .row 64 6 ms]⟩ = Res.bind (callP env N 43 [T.sl 6 ys]) fun x =>
  sllT x fun n =>
    loopL env N 23 11
      {
        tmps :=
          slots 68
            [(0, PV.t (T.sl 6 xs)), (6, PV.own 0), (7, PV.own 1), (39, PV.t x), (40, PV.t (i64 n)),
              (41, PV.t (i64 (0)))],
        heap := [AObj.row 35 2 gs, AObj.row 64 6 ms] } := by kernel_rfl
theorem t23_11_exit2 (N : Nat) (gs ms : List T) : tailL env N 23 0 11 (outK env 23) (.exit 2) ⟨slots 68 [(6, .own 0), (7, .own 1)], [.row 35 2 gs, .row 64 6 ms]⟩ = Res.ok (T.tup [T.sl 2 gs, T.sl 6 ms]) := by kernel_rfl
theorem b23_11 (N : Nat) (xs ks gs ms : List T) (i : Nat) : bodyL env N 23 0 11 ⟨slots 68 [(0, .t (.sl 6 xs)), (6, .own 0), (7, .own 1), (39, .t (.sl 6 ks)), (40, .t (i64 (ks.length : Int))), (41, .t (i64 (i : Int)))], [.row 35 2 gs, .row 64 6 ms]⟩ = bif decide ((↑i : Int) < (↑(List.length ks) : Int)) then
  atT ks (↑i : Int) fun e =>
    chk
      (match List.length (T.cells e) == 6 with
      | false => false
      | true =>
        (!(T.isTup e)))
      (Res.bind (callP env N 19 [T.sl 6 xs, T.partD e 0 2 true]) fun x =>
        compT x 0 fun y =>
          compT x 1 fun y_1 =>
            chk
              (match List.length (T.cells y) == 4 with
              | false => false
              | true =>
                (!(T.isTup y)))
              (bT y_1 fun b =>
                bif
                    (!(b)) then
                  chkAll (T.okE 6) [e]
                    (chk (decide ((List.length ms + 1) * (63 + 1) ≤ big))
                      (Res.ok
                        (Ex.norm,
                          {
                            tmps :=
                              slots 68
                                [(0, PV.t (T.sl 6 xs)), (6, PV.own 0), (7, PV.own 1), (39, PV.t (T.sl 6 ks)),
                                  (40, PV.t (i64 (↑(List.length ks) : Int))),
                                  (41, PV.t (i64 (IntKind.wrap IntKind.i64 ((↑i : Int) + 1))))],
                            heap := [AObj.row 35 2 gs, AObj.row 64 6 (ms ++ [e])] })))
                else
                  Res.bind (callP env N 53 [y, T.partD e 2 4 true]) fun x =>
                    bT x fun b =>
                      bif
                          (!(b)) then
                        chkAll (T.okE 6) [e]
                          (chk (decide ((List.length ms + 1) * (63 + 1) ≤ big))
                            (Res.ok
                              (Ex.norm,
                                {
                                  tmps :=
                                    slots 68
                                      [(0, PV.t (T.sl 6 xs)), (6, PV.own 0), (7, PV.own 1), (39, PV.t (T.sl 6 ks)),
                                        (40, PV.t (i64 (↑(List.length ks) : Int))),
                                        (41,
                                          PV.t
                                            (i64 (IntKind.wrap IntKind.i64 ((↑i : Int) + 1))))],
                                  heap := [AObj.row 35 2 gs, AObj.row 64 6 (ms ++ [e])] })))
                      else
                        Res.ok
                          (Ex.norm,
                            {
                              tmps :=
                                slots 68
                                  [(0, PV.t (T.sl 6 xs)), (6, PV.own 0), (7, PV.own 1), (39, PV.t (T.sl 6 ks)),
                                    (40, PV.t (i64 (↑(List.length ks) : Int))),
                                    (41,
                                      PV.t (i64 (IntKind.wrap IntKind.i64 ((↑i : Int) + 1))))],
                              heap := [AObj.row 35 2 gs, AObj.row 64 6 ms] })))
else
  Res.ok (Ex.exit 2, { tmps := slots 68 [(6, PV.own 0), (7, PV.own 1)], heap := [AObj.row 35 2 gs, AObj.row 64 6 ms] }) := by kernel_rfl
theorem t8_7_exit0 (N : Nat) (xs ys gs ms : List T) (u cur ok : T) : tailL env N 8 0 7 (outK env 8) (.exit 0) ⟨slots 95 [(0, .t (.sl 6 xs)), (1, .t (.sl 6 ys)), (5, .t u), (6, .t (.sl 2 gs)), (7, .t (.sl 6 ms)), (8, .t cur), (9, .t ok)], []⟩ = bT u fun b =>
  bif b then
    bT ok fun b =>
      bif b then
        Res.bind (callP env N 26 [cur, T.sl 6 ys]) fun x =>
          bT x fun b =>
            bif b then
              Res.bind (callP env N 30 [T.sl 6 xs, T.sl 6 ys]) fun x =>
                match
                  T.eqLs [1]
                    [T.bool
                        (IntKind.wrap IntKind.i64 ((↑(List.length gs) : Int) + (↑(List.length ms) : Int)) ==
                          0)]
                    [x] with
                | some b => Res.ok (T.bool b)
                | none => Res.stuck
            else Res.ok (T.bool false)
      else Res.ok (T.bool false)
  else Res.ok (T.bool false) := by kernel_rfl
theorem b23_4 (N : Nat) (xs ys ks gs ms : List T) (i : Nat) : bodyL env N 23 0 4 ⟨slots 68 [(0, .t (.sl 6 xs)), (1, .t (.sl 6 ys)), (6, .own 0), (7, .own 1), (17, .t (.sl 6 ks)), (18, .t (i64 (ks.length : Int))), (19, .t (i64 (i : Int)))], [.row 35 2 gs, .row 64 6 ms]⟩ = bif decide ((↑i : Int) < (↑(List.length ks) : Int)) then
  atT ks (↑i : Int) fun e =>
    chk
      (match List.length (T.cells e) == 6 with
      | false => false
      | true =>
        (!(T.isTup e)))
      (Res.bind (callP env N 19 [T.sl 6 ys, T.partD e 0 2 true]) fun x =>
        compT x 0 fun y =>
          compT x 1 fun y_1 =>
            chk
              (match List.length (T.cells y) == 4 with
              | false => false
              | true =>
                (!(T.isTup y)))
              (bT y_1 fun b =>
                bif
                    (!(b)) then
                  chkAll (T.okE 2) [T.partD e 0 2 true]
                    (chk
                      (decide
                        ((List.length gs +
                              1) *
                            (15 + 1) ≤
                          big))
                      (Res.ok
                        (Ex.norm,
                          {
                            tmps :=
                              slots 68
                                [(0, PV.t (T.sl 6 xs)), (1, PV.t (T.sl 6 ys)), (6, PV.own 0), (7, PV.own 1),
                                  (17, PV.t (T.sl 6 ks)), (18, PV.t (i64 (↑(List.length ks) : Int))),
                                  (19, PV.t (i64 (IntKind.wrap IntKind.i64 ((↑i : Int) + 1))))],
                            heap := [AObj.row 35 2 (gs ++ [T.partD e 0 2 true]), AObj.row 64 6 ms] })))
                else
                  Res.ok
                    (Ex.norm,
                      {
                        tmps :=
                          slots 68
                            [(0, PV.t (T.sl 6 xs)), (1, PV.t (T.sl 6 ys)), (6, PV.own 0), (7, PV.own 1),
                              (17, PV.t (T.sl 6 ks)), (18, PV.t (i64 (↑(List.length ks) : Int))),
                              (19, PV.t (i64 (IntKind.wrap IntKind.i64 ((↑i : Int) + 1))))],
                        heap := [AObj.row 35 2 gs, AObj.row 64 6 ms] })))
else
  Res.ok
    (Ex.exit 0,
      { tmps := slots 68 [(0, PV.t (T.sl 6 xs)), (1, PV.t (T.sl 6 ys)), (6, PV.own 0), (7, PV.own 1)],
        heap := [AObj.row 35 2 gs, AObj.row 64 6 ms] }) := by kernel_rfl
end Go.Sim

/- The law of layer 18: what is unlike leads there. -/
namespace Go.Sim
open Go.RowKit Go.Proofs
set_option linter.unusedVariables false
set_option linter.unusedSimpArgs false
set_option maxRecDepth 100000

theorem foldl_pick {α β : Type} (c : α → Bool) (h : α → β) : ∀ (l : List α) (b : List β), l.foldl (fun b x => bif c x then b ++ [h x] else b) b = b ++ (l.filter c).map h
  | [], b => by simp
  | x :: l, b => by
    rw [List.foldl_cons, foldl_pick c h l, List.filter_cons]
    cases c x <;> simp
def goneD (a b : List En) : List Px := ((known a).filter fun e => !(getE b e.x).isSome).map (·.x)
def unlike (a : List En) (e : En) : Bool := bif !(getE a e.x).isSome then true else !eqPa ((getE a e.x).getD Pa.none) e.p
def moreD (a b : List En) : List En := (known b).filter (unlike a)
theorem unlike_iff {a : List En} {e : En} : unlike a e = false ↔ getE a e.x = some e.p := by
  unfold unlike
  cases h : getE a e.x with
  | none => simp
  | some p =>
    have : eqPa p e.p = false ↔ ¬ p = e.p := by rw [← eqPa_iff]; simp
    simp only [Option.isSome, Option.getD, Bool.not_true, cond_false, Bool.not_eq_eq_eq_not, Bool.not_false, eqPa_iff, Option.some.injEq]

/-! ### the program's walk -/
def S23a (a b k : List En) (gs : List Px) (i : Nat) : St := ⟨slots 68 [(0, .t (.sl 6 (a.map En.t))), (1, .t (.sl 6 (b.map En.t))), (6, .own 0), (7, .own 1), (17, .t (.sl 6 (k.map En.t))), (18, .t (i64 ((k.map En.t).length : Int))), (19, .t (i64 (i : Int)))], [.row 35 2 (gs.map Px.t), .row 64 6 []]⟩
def X23a (a b : List En) (gs : List Px) : St := ⟨slots 68 [(0, .t (.sl 6 (a.map En.t))), (1, .t (.sl 6 (b.map En.t))), (6, .own 0), (7, .own 1)], [.row 35 2 (gs.map Px.t), .row 64 6 []]⟩
def S23b (a k : List En) (gs : List Px) (ms : List En) (i : Nat) : St := ⟨slots 68 [(0, .t (.sl 6 (a.map En.t))), (6, .own 0), (7, .own 1), (39, .t (.sl 6 (k.map En.t))), (40, .t (i64 ((k.map En.t).length : Int))), (41, .t (i64 (i : Int)))], [.row 35 2 (gs.map Px.t), .row 64 6 (ms.map En.t)]⟩
def X23b (gs : List Px) (ms : List En) : St := ⟨slots 68 [(6, .own 0), (7, .own 1)], [.row 35 2 (gs.map Px.t), .row 64 6 (ms.map En.t)]⟩
theorem en_cells (e : En) : T.cells e.t = [i64 e.x.a, i64 e.x.n, i64 e.p.o, .sl 1 (ints e.p.s), i64 e.p.h, i64 e.p.c] := rfl
theorem en_tup (e : En) : T.isTup e.t = false := rfl
theorem en_px (e : En) : T.partD e.t 0 2 true = e.x.t := rfl
theorem en_pa (e : En) : T.partD e.t 2 4 true = e.p.t := rfl
theorem chk6 {β : Type} (r : Res β) : chk (match 0 + 1 + 1 + 1 + 1 + 1 + 1 == 6 with | false => false | true => !false) r = r := rfl
theorem chk4 {β : Type} (r : Res β) : chk (match 0 + 1 + 1 + 1 + 1 == 4 with | false => false | true => !false) r = r := rfl
theorem okE_px (x : Px) : T.okE 2 x.t = true := rfl
theorem b23a {m : Nat} {a b k : List En} {gs : List Px} {j : Nat} {e : En} (hM : big + 20 ≤ m) (hx : k[j]? = some e) (hj : j ≤ 1000) (hg : gs.length ≤ 1000) (he : e.ok) (hb : b.length ≤ 1000) (hs : ∀ e ∈ b, e.ok) :
    bodyL env (m + 1) 23 0 4 (S23a a b k gs j) = .ok (.norm, S23a a b k (bif !(getE b e.x).isSome then gs ++ [e.x] else gs) (j + 1)) := by
  have hbg := big_val
  have hlt : j < k.length := (List.getElem?_eq_some_iff.1 hx).1
  unfold S23a
  rw [b23_4, decide_eq_true (show (j : Int) < ((k.map En.t).length : Int) by rw [List.length_map]; omega)]
  simp only [cond_true, atT_get (map_get hx), en_cells, en_tup, en_px]
  rw [f19_ok (by omega) (by omega) hs he.x]
  simp only [Res.bind_ok, compT, List.getElem?_cons_zero, List.getElem?_cons_succ, bT_bool, pa_cells, pa_tup, List.length_cons, List.length_nil, wrap_succ (show j ≤ big by omega)]
  cases h : (getE b e.x).isSome with
  | true => rfl
  | false =>
    simp only [Bool.not_false, cond_true, chkAll, okE_px, List.map_append, List.map_cons, List.map_nil]
    rw [decide_eq_true (show ((gs.map Px.t).length + 1) * (15 + 1) ≤ big by rw [List.length_map]; omega)]
    rfl
theorem b23a_exit {m : Nat} {a b k : List En} {gs : List Px} : bodyL env (m + 1) 23 0 4 (S23a a b k gs k.length) = .ok (.exit 0, X23a a b gs) := by
  unfold S23a X23a
  rw [b23_4, decide_eq_false (by rw [List.length_map]; omega)]
  simp only [cond_false]
theorem b23b {m : Nat} {a k : List En} {gs : List Px} {ms : List En} {j : Nat} {e : En} (hM : big + 20 ≤ m) (hx : k[j]? = some e) (hj : j ≤ 1000) (hg : ms.length ≤ 1000) (he : e.ok) (hb : a.length ≤ 1000) (hs : ∀ e ∈ a, e.ok) :
    bodyL env (m + 1) 23 0 11 (S23b a k gs ms j) = .ok (.norm, S23b a k gs (bif unlike a e then ms ++ [e] else ms) (j + 1)) := by
  have hbg := big_val
  have hlt : j < k.length := (List.getElem?_eq_some_iff.1 hx).1
  unfold S23b
  rw [b23_11, decide_eq_true (show (j : Int) < ((k.map En.t).length : Int) by rw [List.length_map]; omega)]
  simp only [cond_true, atT_get (map_get hx), en_cells, en_tup, en_px, en_pa]
  rw [f19_ok (by omega) (by omega) hs he.x]
  simp only [Res.bind_ok, compT, List.getElem?_cons_zero, List.getElem?_cons_succ, bT_bool, pa_cells, pa_tup, List.length_cons, List.length_nil, wrap_succ (show j ≤ big by omega)]
  rw [f53_ok (by omega) (get_ok hs) he.p]
  have hd := decide_eq_true (show ((ms.map En.t).length + 1) * (63 + 1) ≤ big by rw [List.length_map]; omega)
  unfold unlike
  simp only [Res.bind_ok, bT_bool]
  cases h : (getE a e.x).isSome with
  | false =>
    simp only [Bool.not_false, cond_true, chkAll, okE_en, List.map_append, List.map_cons, List.map_nil]
    rw [hd]; rfl
  | true =>
    cases eqPa ((getE a e.x).getD Pa.none) e.p with
    | true => rfl
    | false =>
      simp only [Bool.not_false, Bool.not_true, cond_true, cond_false, chkAll, okE_en, List.map_append, List.map_cons, List.map_nil]
      rw [hd]; rfl
theorem b23b_exit {m : Nat} {a k : List En} {gs : List Px} {ms : List En} : bodyL env (m + 1) 23 0 11 (S23b a k gs ms k.length) = .ok (.exit 2, X23b gs ms) := by
  unfold S23b X23b
  rw [b23_11, decide_eq_false (by rw [List.length_map]; omega)]
  simp only [cond_false]
theorem pick_len {α β : Type} (c : α → Bool) (h : α → β) (b : List β) (x : α) : (bif c x then b ++ [h x] else b).length ≤ b.length + 1 := by cases c x <;> simp
theorem f23_ok {M : Nat} {a b : List En} (hM : big + 40 ≤ M) (ha : a.length ≤ 900) (hb : b.length ≤ 900) (hs : ∀ e ∈ a, e.ok) (hs' : ∀ e ∈ b, e.ok) :
    callP env (M + 1) 23 [.sl 6 (a.map En.t), .sl 6 (b.map En.t)] = .ok (.tup [.sl 2 ((goneD a b).map Px.t), .sl 6 ((moreD a b).map En.t)]) := by
  have hbg := big_val
  obtain ⟨m, rfl⟩ : ∃ m, M = m + 1 := ⟨M - 1, by omega⟩
  have hw := wfs2 (wf_sl (k := 6) (show a.length ≤ big by omega) fun e he => (hs e he).wf) (wf_sl (k := 6) (show b.length ≤ big by omega) fun e he => (hs' e he).wf)
  have h1 := f43_ok (M := m) (l := a) (by omega) (by omega) hs
  have h2 := f43_ok (M := m) (l := b) (by omega) (by omega) hs'
  have k1 := known_len a
  have k2 := known_len b
  rw [e23, hw, h1]
  simp only [cond_true, Res.bind_ok, sllT]
  have l1 := (iter_fold (B := bodyL env (m + 1) 23 0 4) (S := fun gs i => S23a a b (known a) gs i) (X := fun gs => X23a a b gs) (id := 0) (fun gs j => gs.length ≤ j) (fun gs e => bif !(getE b e.x).isSome then gs ++ [e.x] else gs) (known a) (n := m + 1) [] (by omega)
    (fun gs j e hx hI => by
      have hlt : j < (known a).length := (List.getElem?_eq_some_iff.1 hx).1
      refine ⟨b23a (by omega) hx (by omega) (by omega) (hs _ (known_sub (List.mem_of_getElem? hx))) (by omega) hs', ?_⟩
      have := pick_len (fun e : En => !(getE b e.x).isSome) (·.x) gs e
      exact Nat.le_trans this (by omega)) (fun gs _ => b23a_exit) (Nat.zero_le _)).1
  rw [foldl_pick (fun e : En => !(getE b e.x).isSome) (·.x), List.nil_append] at l1
  rw [show (⟨slots 68 [(0, .t (.sl 6 (a.map En.t))), (1, .t (.sl 6 (b.map En.t))), (6, .own 0), (7, .own 1), (17, .t (.sl 6 ((known a).map En.t))), (18, .t (i64 (((known a).map En.t).length : Int))), (19, .t (i64 0))], [.row 35 2 [], .row 64 6 []]⟩ : St) = S23a a b (known a) [] 0 from rfl]
  unfold loopL
  rw [l1, Res.bind_ok]
  show tailL env (m + 1) 23 0 4 (outK env 23) (.exit 0) (X23a a b (goneD a b)) = _
  unfold X23a
  rw [t23_4_exit0, h2]
  simp only [Res.bind_ok, sllT]
  have l2 := (iter_fold (B := bodyL env (m + 1) 23 0 11) (S := fun ms i => S23b a (known b) (goneD a b) ms i) (X := fun ms => X23b (goneD a b) ms) (id := 2) (fun ms j => ms.length ≤ j) (fun ms e => bif unlike a e then ms ++ [e] else ms) (known b) (n := m + 1) [] (by omega)
    (fun ms j e hx hI => by
      have hlt : j < (known b).length := (List.getElem?_eq_some_iff.1 hx).1
      refine ⟨b23b (by omega) hx (by omega) (by omega) (hs' _ (known_sub (List.mem_of_getElem? hx))) (by omega) hs, ?_⟩
      have := pick_len (unlike a) (fun e => e) ms e
      exact Nat.le_trans this (by omega)) (fun ms _ => b23b_exit) (Nat.zero_le _)).1
  rw [foldl_pick (unlike a) (fun e => e), List.nil_append, List.map_id'] at l2
  rw [show (⟨slots 68 [(0, .t (.sl 6 (a.map En.t))), (6, .own 0), (7, .own 1), (39, .t (.sl 6 ((known b).map En.t))), (40, .t (i64 (((known b).map En.t).length : Int))), (41, .t (i64 0))], [.row 35 2 ((goneD a b).map Px.t), .row 64 6 []]⟩ : St) = S23b a (known b) (goneD a b) [] 0 from rfl]
  unfold loopL
  rw [l2, Res.bind_ok]
  show tailL env (m + 1) 23 0 11 (outK env 23) (.exit 2) (X23b (goneD a b) (moreD a b)) = _
  unfold X23b
  rw [t23_11_exit2]

/-! ### the plain law -/
def stepD (t : List En) (e : En) : List En := applyE t ⟨[], e.p, [e.x]⟩
theorem mem_stepD {t : List En} (ht : known t = t) {e f : En} (he : psane e.x = true ∧ asane e.p = true) : f ∈ stepD t e ↔ f = e ∨ (f ∈ t ∧ f.x ≠ e.x) := by
  unfold stepD
  rw [mem_apply, ht]
  simp only [Told, List.mem_singleton, List.not_mem_nil, not_false_eq_true, true_and, he.2, and_true]
  constructor
  · rintro (⟨⟨h1, _⟩, h2⟩ | ⟨h1, h2⟩)
    · exact .inl (En.ext' h1 h2)
    · exact .inr ⟨h1, fun h => h2 ⟨h, h ▸ he.1⟩⟩
  · rintro (rfl | ⟨h1, h2⟩)
    · exact .inl ⟨⟨rfl, he.1⟩, rfl⟩
    · exact .inr ⟨h1, fun h => h2 h.1⟩
theorem mem_stepsD : ∀ (ms : List En) {t : List En}, known t = t → Rise ms → (∀ e ∈ ms, psane e.x = true ∧ asane e.p = true) → ∀ {f : En}, f ∈ ms.foldl stepD t ↔ f ∈ ms ∨ (f ∈ t ∧ ∀ e ∈ ms, e.x ≠ f.x)
  | [], t, _, _, _, f => by simp
  | e :: ms, t, ht, hr, hs, f => by
    obtain ⟨h1, h2⟩ := List.pairwise_cons.1 hr
    have hse := hs e List.mem_cons_self
    rw [List.foldl_cons, mem_stepsD ms (t := stepD t e) known_apply h2 (fun g hg => hs g (List.mem_cons_of_mem _ hg)), mem_stepD ht hse]
    constructor
    · rintro (h | ⟨rfl | ⟨h3, h4⟩, h5⟩)
      · exact .inl (List.mem_cons_of_mem _ h)
      · exact .inl List.mem_cons_self
      · refine .inr ⟨h3, fun g hg => ?_⟩
        rcases List.mem_cons.1 hg with rfl | hg
        · exact fun h => h4 h.symm
        · exact h5 g hg
    · rintro (h | ⟨h3, h4⟩)
      · rcases List.mem_cons.1 h with rfl | h
        · exact .inr ⟨.inl rfl, fun g hg h => ltP_irrefl _ (h ▸ h1 g hg)⟩
        · exact .inl h
      · exact .inr ⟨.inr ⟨h3, fun h => h4 e List.mem_cons_self h.symm⟩, fun g hg => h4 g (List.mem_cons_of_mem _ hg)⟩
theorem rise_more (a b : List En) : Rise (moreD a b) := List.Pairwise.sublist List.filter_sublist (rise_known b)
theorem rise_steps : ∀ (ms : List En) {t : List En}, Rise t → Rise (ms.foldl stepD t)
  | [], t, h => h
  | e :: ms, t, h => rise_steps ms (rise_apply _ _)
theorem leads_law {a b : List En} (ha : tsane a = true) (hb : tsane b = true) : (moreD a b).foldl stepD (applyE a ⟨goneD a b, Pa.none, []⟩) = b := by
  have ka := known_sane ha
  have kb := known_sane hb
  refine rise_ext (rise_steps _ (rise_apply _ _)) (tsane_iff.1 hb).1 fun f => ?_
  have hmem : ∀ e, e ∈ moreD a b ↔ e ∈ b ∧ getE a e.x ≠ some e.p := fun e => by
    unfold moreD
    rw [List.mem_filter, kb, ← Bool.not_eq_false, unlike_iff]
  have hgone : ∀ x, x ∈ goneD a b ↔ (∃ e ∈ a, e.x = x) ∧ getE b x = none := fun x => by
    unfold goneD
    rw [List.mem_map, ka]
    constructor
    · rintro ⟨e, he, rfl⟩
      rw [List.mem_filter] at he
      exact ⟨⟨e, he.1, rfl⟩, by simpa using he.2⟩
    · rintro ⟨⟨e, he, rfl⟩, h⟩
      exact ⟨e, List.mem_filter.2 ⟨he, by simp [h]⟩, rfl⟩
  rw [mem_stepsD _ known_apply (rise_more a b) (fun e he => (tsane_iff.1 hb).2 e ((hmem e).1 he).1), mem_apply, ka, hmem]
  have hnt : ¬ Told Pa.none [] f.x := fun h => by cases h.1
  constructor
  · rintro (h | ⟨⟨h, _⟩ | ⟨h1, h2, _⟩, h3⟩)
    · exact h.1
    · exact absurd h hnt
    · rw [hgone] at h2
      cases hg : getE b f.x with
      | none => exact absurd ⟨⟨f, h1, rfl⟩, hg⟩ h2
      | some p =>
        have hp := get_iff.1 hg
        rw [kb] at hp
        by_cases hq : getE a f.x = some p
        · have h4 := get_iff.1 hq
          rw [ka] at h4
          have := rise_inj (tsane_iff.1 ha).1 h1 h4 rfl
          rw [this]; exact hp
        · exact absurd rfl (h3 ⟨f.x, p⟩ ((hmem _).2 ⟨hp, hq⟩))
  · intro h
    have hfb : getE b f.x = some f.p := get_iff.2 (by rw [kb]; exact h)
    by_cases hq : getE a f.x = some f.p
    · have h4 := get_iff.1 hq
      rw [ka] at h4
      refine .inr ⟨.inr ⟨h4, fun h5 => ?_, hnt⟩, fun e he hx => ?_⟩
      · rw [hgone] at h5
        rw [hfb] at h5
        cases h5.2
      · have h6 := (hmem e).1 he
        have := rise_inj (tsane_iff.1 hb).1 h6.1 h hx
        subst this
        exact h6.2 hq
    · exact .inl ⟨h, hq⟩
theorem unlike_law {a b : List En} (ha : tsane a = true) (hb : tsane b = true) : ((goneD a b).length + (moreD a b).length = 0) ↔ a = b := by
  have ka := known_sane ha
  have kb := known_sane hb
  constructor
  · intro h
    have h1 : goneD a b = [] := List.eq_nil_of_length_eq_zero (by omega)
    have h2 : moreD a b = [] := List.eq_nil_of_length_eq_zero (by omega)
    have := leads_law ha hb
    rw [h1, h2] at this
    rw [← this]
    refine rise_ext (tsane_iff.1 ha).1 (rise_apply _ _) fun e => ?_
    rw [List.foldl_nil, mem_apply, ka]
    simp [Told]
  · rintro rfl
    have h1 : goneD a a = [] := by
      unfold goneD
      rw [List.map_eq_nil_iff, List.filter_eq_nil_iff]
      intro e he
      rw [get_iff.2 he]; simp
    have h2 : moreD a a = [] := by
      unfold moreD
      rw [List.filter_eq_nil_iff]
      intro e he
      rw [unlike_iff.2 (get_iff.2 he)]; simp
    rw [h1, h2]; rfl
end Go.Sim

/- What calls come to: printed by a program of ours (wip/tools/eqs.py): a law of layer 18. -/
namespace Go.Sim
open Go.RowKit Go.Proofs
set_option linter.unusedVariables false
set_option maxRecDepth 100000

theorem e6 (N : Nat) (xs g m : List T) (o h c a n : Int) (s : List T) : callP env (N + 1) 6 [.sl 6 xs, .agg [.sl 2 g, i64 o, .sl 1 s, i64 h, i64 c, .sl 2 m], .agg [i64 a, i64 n]] = bif T.wfs [.sl 6 xs, .agg [.sl 2 g, i64 o, .sl 1 s, i64 h, i64 c, .sl 2 m], .agg [i64 a, i64 n]] then (Res.bind (callP env N 16 []) fun x =>
  Res.bind (callP env N 17 [T.sl 6 xs]) fun x_1 =>
    bT x_1 fun b =>
      bif
          (!(b)) then
        Res.ok x
      else
        Res.bind
          (callP env N 18
            [T.agg [T.sl 2 g, i64 o, T.sl 1 s, i64 h, i64 c, T.sl 2 m]])
          fun x_2 =>
          bT x_2 fun b =>
            bif
                (!(b)) then
              Res.ok x
            else
              Res.bind
                (callP env N 21
                  [T.sl 6 xs,
                    T.agg [T.sl 2 g, i64 o, T.sl 1 s, i64 h, i64 c, T.sl 2 m],
                    i64 (1000)])
                fun x_3 =>
                compT x_3 0 fun y =>
                  compT x_3 1 fun y_1 =>
                    Res.bind (callP env N 19 [T.sl 6 xs, T.agg [i64 a, i64 n]]) fun x_4 =>
                      compT x_4 0 fun y_2 =>
                        compT x_4 1 fun y_3 =>
                          chk
                            (match List.length (T.cells y_2) == 4 with
                            | false => false
                            | true =>
                              (!(T.isTup y_2)))
                            (Res.bind (callP env N 19 [y, T.agg [i64 a, i64 n]]) fun x_5 =>
                              compT x_5 0 fun y_4 =>
                                compT x_5 1 fun y_5 =>
                                  chk
                                    (match List.length (T.cells y_4) == 4 with
                                    | false => false
                                    | true =>
                                      (!(T.isTup y_4)))
                                    (Res.bind
                                      (callP env N 31 [T.sl 2 m, T.agg [i64 a, i64 n]])
                                      fun x_6 =>
                                      bT x_6 fun b =>
                                        bif b then
                                          Res.bind (callP env N 32 [T.agg [i64 a, i64 n]])
                                            fun x_7 =>
                                            bT x_7 fun b =>
                                              bif b then
                                                Res.bind
                                                  (callP env N 33
                                                    [T.agg
                                                        (List.take 4
                                                          (List.drop 1
                                                            [T.sl 2 g, i64 o, T.sl 1 s,
                                                              i64 h, i64 c, T.sl 2 m]))])
                                                  fun x_8 =>
                                                  bT y_1 fun b =>
                                                    bif
                                                        (!(b)) then
                                                      Res.ok (T.bool false)
                                                    else
                                                      Res.bind (callP env N 28 [y]) fun x_9 =>
                                                        bT x_9 fun b =>
                                                          bif
                                                              (!(b)) then
                                                            Res.ok (T.bool false)
                                                          else
                                                            bT x_8 fun v =>
                                                              bif v then
                                                                bT x fun b =>
                                                                  bif b then
                                                                    bT y_5 fun b =>
                                                                      bif b then
                                                                        Res.bind
                                                                          (callP env N 25
                                                                            [y_4,
                                                                              T.agg
                                                                                (List.take 4
                                                                                  (List.drop 1
                                                                                    [T.sl 2 g, i64 o,
                                                                                      T.sl 1 s, i64 h,
                                                                                      i64 c, T.sl 2 m]))])
                                                                          fun x => Res.ok x
                                                                      else Res.ok (T.bool false)
                                                                  else Res.ok (T.bool false)
                                                              else
                                                                Res.bind
                                                                  (callP env N 31
                                                                    [T.sl 2 g,
                                                                      T.agg [i64 a, i64 n]])
                                                                  fun x_10 =>
                                                                  bT x_10 fun v =>
                                                                    bif v then
                                                                      bT x fun b =>
                                                                        bif b then
                                                                          bT y_5 fun b =>
                                                                            Res.ok
                                                                              (T.bool
                                                                                ((!(b))))
                                                                        else Res.ok (T.bool false)
                                                                    else
                                                                      bT x fun b =>
                                                                        bif b then
                                                                          match T.eqLs [1] [y_5] [y_3] with
                                                                          | some b =>
                                                                            bif b then
                                                                              Res.bind (callP env N 25 [y_4, y_2])
                                                                                fun x => Res.ok x
                                                                            else Res.ok (T.bool false)
                                                                          | none => Res.stuck
                                                                        else Res.ok (T.bool false)
                                              else
                                                bT y_1 fun b =>
                                                  bif
                                                      (!(b)) then
                                                    Res.ok (T.bool false)
                                                  else
                                                    Res.bind (callP env N 28 [y]) fun x_8 =>
                                                      bT x_8 fun b =>
                                                        bif
                                                            (!(b)) then
                                                          Res.ok (T.bool false)
                                                        else
                                                          Res.bind
                                                            (callP env N 31
                                                              [T.sl 2 g,
                                                                T.agg [i64 a, i64 n]])
                                                            fun x_9 =>
                                                            bT x_9 fun v =>
                                                              bif v then
                                                                bT x fun b =>
                                                                  bif b then
                                                                    bT y_5 fun b =>
                                                                      Res.ok
                                                                        (T.bool
                                                                          ((!(b))))
                                                                  else Res.ok (T.bool false)
                                                              else
                                                                bT x fun b =>
                                                                  bif b then
                                                                    match T.eqLs [1] [y_5] [y_3] with
                                                                    | some b =>
                                                                      bif b then
                                                                        Res.bind (callP env N 25 [y_4, y_2]) fun x =>
                                                                          Res.ok x
                                                                      else Res.ok (T.bool false)
                                                                    | none => Res.stuck
                                                                  else Res.ok (T.bool false)
                                        else
                                          bT y_1 fun b =>
                                            bif
                                                (!(b)) then
                                              Res.ok (T.bool false)
                                            else
                                              Res.bind (callP env N 28 [y]) fun x_7 =>
                                                bT x_7 fun b =>
                                                  bif
                                                      (!(b)) then
                                                    Res.ok (T.bool false)
                                                  else
                                                    Res.bind
                                                      (callP env N 31
                                                        [T.sl 2 g, T.agg [i64 a, i64 n]])
                                                      fun x_8 =>
                                                      bT x_8 fun v =>
                                                        bif v then
                                                          bT x fun b =>
                                                            bif b then
                                                              bT y_5 fun b =>
                                                                Res.ok
                                                                  (T.bool
                                                                    ((!(b))))
                                                            else Res.ok (T.bool false)
                                                        else
                                                          bT x fun b =>
                                                            bif b then
                                                              match T.eqLs [1] [y_5] [y_3] with
                                                              | some b =>
                                                                bif b then
                                                                  Res.bind (callP env N 25 [y_4, y_2]) fun x => Res.ok x
                                                                else Res.ok (T.bool false)
                                                              | none => Res.stuck
                                                            else Res.ok (T.bool false)))) else .absurd := by kernel_rfl
end Go.Sim

/- The law of layer 18: news say what is. -/
namespace Go.Sim
open Go.RowKit Go.Proofs
set_option linter.unusedVariables false
set_option linter.unusedSimpArgs false
set_option maxRecDepth 100000

theorem eqLs_bool (a b : Bool) : T.eqLs [1] [.bool a] [.bool b] = some (a == b) := by cases a <;> cases b <;> rfl
theorem f6_ok {M : Nat} {t : List En} {n : Nw} {x : Px} (hM : big + 70 ≤ M) (hl : t.length ≤ big) (hs : ∀ e ∈ t, e.ok) (hn : n.ok) (hx : x.ok) :
    callP env (M + 1) 6 [.sl 6 (t.map En.t), n.t, x.t] = .ok (.bool true) := by
  have hb := big_val
  obtain ⟨k, rfl⟩ : ∃ k, M = k + 1 := ⟨M - 1, by omega⟩
  have hw := wfs3 (wf_sl (k := 6) hl fun e he => (hs e he).wf) hn.wf hx.wf
  obtain ⟨q, hq⟩ : ∃ q, k + 1 = q + 40 := ⟨k + 1 - 40, by omega⟩
  have h16 : callP env (k + 1) 16 [] = .ok (.bool true) := by rw [hq]; exact awake18 q
  have h17 := f17_ok (M := k) (l := t) (by omega) hl hs
  have h18 := f18_ok (M := k) hn
  simp only [Nw.t, Px.t] at hw h18 ⊢
  rw [e6, hw, h16, h17]
  simp only [cond_true, Res.bind_ok, bT_bool]
  cases hf : fewE t with
  | false => rfl
  | true =>
  simp only [Bool.not_true, cond_false]
  rw [h18]
  simp only [Res.bind_ok, bT_bool]
  cases hfn : fewN n with
  | false => rfl
  | true =>
  simp only [Bool.not_true, cond_false]
  have k1 := few_len hf
  have k2 := few_news hfn
  have z1 := applyE_len t n
  have o1 := applyE_ok hs hn
  have g1 := f21_room (M := k) (t := t) (n := n) (by omega) (by omega) hs hn k2.2
  have g2 := f19_ok (M := k) (l := t) (x := x) (by omega) hl hs hx
  have g3 := f19_ok (M := k) (l := applyE t n) (x := x) (by omega) (by omega) o1 hx
  have g4 := f31_ok (M := k) (l := n.m) (x := x) (by omega) hn.ml hn.m hx
  have g5 := f31_ok (M := k) (l := n.g) (x := x) (by omega) hn.gl hn.g hx
  have g6 := f32_ok (M := k) (x := x) hx (by omega)
  have g7 := f33_ok (M := k) (p := n.p) hn.p (by omega)
  have g8 := f28_ok (M := k) (l := applyE t n) (by omega) (by omega) o1
  simp only [Nw.t, Px.t] at g1 g2 g3 g4 g5 g6
  rw [g1]
  simp only [Res.bind_ok, compT, List.getElem?_cons_zero, List.getElem?_cons_succ]
  rw [g2]
  simp only [Res.bind_ok, compT, List.getElem?_cons_zero, List.getElem?_cons_succ, pa_cells, pa_tup, List.length_cons, List.length_nil]
  rw [g3]
  simp only [Res.bind_ok, compT, List.getElem?_cons_zero, List.getElem?_cons_succ, pa_cells, pa_tup, List.length_cons, List.length_nil]
  rw [g4, g5, g6, g8, sane_apply, pa_part, g7]
  have hc : ∀ {β : Type} (r : Res β), chk (match (0 + 1 + 1 + 1 + 1 == 4) with | false => false | true => !false) r = r := fun r => rfl
  simp only [hc, Res.bind_ok, bT_bool, Bool.not_true, cond_false, cond_true, eqLs_bool]
  by_cases htold : Told n.p n.m x
  · have hget := told_get (t := t) htold
    obtain ⟨q1, q2, q3⟩ := htold
    rw [in_iff.2 q1, q2, q3, hget]
    simp only [cond_true, Option.isSome, Option.getD]
    rw [f25_ok (by omega) hn.p hn.p, samePa_refl]
    rfl
  · have h25 := fun p => f25_ok (M := k) (p := p) (q := p) (by omega)
    have hfin : (bif (n.g.any fun y => eqPx y x) then Res.ok (T.bool !(getE (applyE t n) x).isSome)
        else bif (getE (applyE t n) x).isSome == (getE t x).isSome then
          Res.bind (callP env (k + 1) 25 [((getE (applyE t n) x).getD Pa.none).t, ((getE t x).getD Pa.none).t]) fun x => Res.ok x
        else Res.ok (T.bool false)) = Res.ok (.bool true) := by
      cases hg : n.g.any fun y => eqPx y x with
      | true => rw [gone_get (in_iff.1 hg) htold]; rfl
      | false =>
        rw [rest_get (fun h => by rw [in_iff.2 h] at hg; cases hg) htold, cond_false, beq_self_eq_true, cond_true, h25 _ (get_ok hs) (get_ok hs), samePa_refl]
        rfl
    cases h1 : n.m.any fun y => eqPx y x with
    | false => simp only [cond_false, cond_true]; exact hfin
    | true =>
    cases h2 : psane x with
    | false => simp only [cond_false, cond_true]; exact hfin
    | true =>
    cases h3 : asane n.p with
    | false => simp only [cond_false, cond_true]; exact hfin
    | true => exact absurd ⟨in_iff.1 h1, h2, h3⟩ htold
end Go.Sim

/- The law of layer 18 on what is unlike, walked. -/
namespace Go.Sim
open Go.RowKit Go.Proofs
set_option linter.unusedVariables false
set_option linter.unusedSimpArgs false
set_option maxRecDepth 100000

def S8s (a b : List En) (gs : List Px) (ms cur : List En) (i : Nat) : St := ⟨slots 95 [(0, .t (.sl 6 (a.map En.t))), (1, .t (.sl 6 (b.map En.t))), (5, .t (.bool true)), (6, .t (.sl 2 (gs.map Px.t))), (7, .t (.sl 6 (ms.map En.t))), (8, .t (.sl 6 (cur.map En.t))), (9, .t (.bool true)), (10, .t (i64 (i : Int)))], []⟩
def X8s (a b : List En) (gs : List Px) (ms cur : List En) : St := ⟨slots 95 [(0, .t (.sl 6 (a.map En.t))), (1, .t (.sl 6 (b.map En.t))), (5, .t (.bool true)), (6, .t (.sl 2 (gs.map Px.t))), (7, .t (.sl 6 (ms.map En.t))), (8, .t (.sl 6 (cur.map En.t))), (9, .t (.bool true))], []⟩
theorem none_ok : Pa.none.ok := ⟨by decide, by simp [Pa.none], by simp [Pa.none], by decide, by decide⟩
theorem one_ok {e : En} (he : e.ok) : (⟨[], e.p, [e.x]⟩ : Nw).ok := ⟨by simp, by simp, he.p, by simpa using he.x, by simp [big_val]⟩
theorem b8_step {m : Nat} {a b : List En} {gs : List Px} {ms cur : List En} {j : Nat} {e : En} (hM : big + 20 ≤ m) (hx : ms[j]? = some e) (hj : j ≤ 1000) (he : e.ok) (hc : cur.length ≤ 900) (hs : ∀ e ∈ cur, e.ok) :
    bodyL env (m + 1) 8 0 7 (S8s a b gs ms cur j) = .ok (.norm, S8s a b gs ms (stepD cur e) (j + 1)) := by
  have hbg := big_val
  have hlt : j < ms.length := (List.getElem?_eq_some_iff.1 hx).1
  have g := f21_room (M := m) (t := cur) (n := ⟨[], e.p, [e.x]⟩) (by omega) hc hs (one_ok he) (by simp)
  unfold S8s
  rw [b8_7, decide_eq_true (show (j : Int) < ((ms.map En.t).length : Int) by rw [List.length_map]; omega)]
  simp only [cond_true, atT_get (map_get hx), en_px, en_pa, pa_cells, List.length_cons, List.length_nil]
  have e1 : T.agg [T.sl 2 [], T.cell (Pa.t e.p) 0, T.cell (Pa.t e.p) 1, T.cell (Pa.t e.p) 2, T.cell (Pa.t e.p) 3, T.sl 2 [Px.t e.x]] = Nw.t ⟨[], e.p, [e.x]⟩ := rfl
  rw [e1, g]
  simp only [Res.bind_ok, compT, List.getElem?_cons_zero, List.getElem?_cons_succ, bT_bool, cond_true, wrap_succ (show j ≤ big by omega), chkAll, okE_px]
  rfl
theorem b8_exit {m : Nat} {a b : List En} {gs : List Px} {ms cur : List En} : bodyL env (m + 1) 8 0 7 (S8s a b gs ms cur ms.length) = .ok (.exit 0, X8s a b gs ms cur) := by
  unfold S8s X8s
  rw [b8_7, decide_eq_false (by rw [List.length_map]; omega)]
  simp only [cond_false]
theorem t8_end {k : Nat} {a b : List En} (hM : big + 40 ≤ k) (hta : tsane a = true) (htb : tsane b = true) (k1 : a.length ≤ 40) (k2 : b.length ≤ 40) (hs : ∀ e ∈ a, e.ok) (hs' : ∀ e ∈ b, e.ok) (n1 : (goneD a b).length ≤ 40) (n2 : (moreD a b).length ≤ 40) :
    tailL env (k + 1) 8 0 7 (outK env 8) (.exit 0) (X8s a b (goneD a b) (moreD a b) b) = .ok (.bool true) := by
  have hbg := big_val
  have g1 := f26_ok (M := k) (l := b) (l' := b) (by omega) (by omega) (by omega) hs' hs'
  have g2 := f30_ok (M := k) (l := a) (l' := b) (by omega) (by omega) (by omega) hs hs'
  unfold X8s
  rw [t8_7_exit0, g1, g2, sameE_refl]
  simp only [Res.bind_ok, bT_bool, cond_true, List.length_map, eqLs_bool]
  have h3 : IntKind.i64.wrap (((goneD a b).length : Int) + ((moreD a b).length : Int)) = (((goneD a b).length + (moreD a b).length : Nat) : Int) := by rw [wrap64 (by omega)]; omega
  rw [h3]
  have h4 : ((((goneD a b).length + (moreD a b).length : Nat) : Int) == 0) = sameE a b := by
    rw [Bool.eq_iff_iff, beq_iff_eq, sameE_iff, ← unlike_law hta htb]; omega
  rw [h4, beq_self_eq_true]
theorem f8_ok {M : Nat} {a b : List En} (hM : big + 70 ≤ M) (hl : a.length ≤ big) (hl' : b.length ≤ big) (hs : ∀ e ∈ a, e.ok) (hs' : ∀ e ∈ b, e.ok) :
    callP env (M + 1) 8 [.sl 6 (a.map En.t), .sl 6 (b.map En.t)] = .ok (.bool true) := by
  have hbg := big_val
  obtain ⟨k, rfl⟩ : ∃ k, M = k + 1 := ⟨M - 1, by omega⟩
  have hw := wfs2 (wf_sl (k := 6) hl fun e he => (hs e he).wf) (wf_sl (k := 6) hl' fun e he => (hs' e he).wf)
  obtain ⟨q, hq⟩ : ∃ q, k + 1 = q + 40 := ⟨k + 1 - 40, by omega⟩
  have h16 : callP env (k + 1) 16 [] = .ok (.bool true) := by rw [hq]; exact awake18 q
  rw [e8, hw, h16, f17_ok (by omega) hl hs, f17_ok (by omega) hl' hs', f28_ok (by omega) hl hs, f28_ok (by omega) hl' hs']
  simp only [cond_true, Res.bind_ok, bT_bool]
  cases hf : fewE a with
  | false => rfl
  | true =>
  cases hf' : fewE b with
  | false => rfl
  | true =>
  cases hta : tsane a with
  | false => rfl
  | true =>
  cases htb : tsane b with
  | false => rfl
  | true =>
  simp only [Bool.not_true, cond_false]
  have k1 := few_len hf
  have k2 := few_len hf'
  have n1 : (goneD a b).length ≤ 40 := by
    have := List.length_filter_le (fun e => !(getE b e.x).isSome) (known a)
    have := known_len a
    unfold goneD; rw [List.length_map]; omega
  have n2 : (moreD a b).length ≤ 40 := by
    have := List.length_filter_le (unlike a) (known b)
    have := known_len b
    unfold moreD; omega
  have hgo : (⟨goneD a b, Pa.none, []⟩ : Nw).ok := ⟨fun x hx => by
      obtain ⟨e, he, rfl⟩ := List.mem_map.1 hx
      exact (hs e (known_sub (List.mem_filter.1 he).1)).x, by show (goneD a b).length ≤ big; omega, none_ok, by simp, by simp⟩
  have hmo : ∀ e ∈ moreD a b, e.ok := fun e he => hs' e (known_sub (List.mem_filter.1 he).1)
  rw [f23_ok (by omega) (by omega) (by omega) hs hs']
  simp only [Res.bind_ok, compT, List.getElem?_cons_zero, List.getElem?_cons_succ]
  have g := f21_room (M := k) (t := a) (n := ⟨goneD a b, Pa.none, []⟩) (by omega) (by omega) hs hgo (by simp)
  have e1 : T.agg [T.cell (T.sl 2 ((goneD a b).map Px.t)) 0, i64 0, T.sl 1 [], i64 0, i64 0, T.sl 2 []] = Nw.t ⟨goneD a b, Pa.none, []⟩ := rfl
  rw [e1, g]
  simp only [Res.bind_ok, compT, List.getElem?_cons_zero, List.getElem?_cons_succ]
  have z := applyE_len a ⟨goneD a b, Pa.none, []⟩
  simp only [List.length_nil] at z
  have l1 := (iter_fold (B := bodyL env (k + 1) 8 0 7) (S := fun cur i => S8s a b (goneD a b) (moreD a b) cur i) (X := fun cur => X8s a b (goneD a b) (moreD a b) cur) (id := 0) (fun cur j => cur.length ≤ 40 + j ∧ ∀ e ∈ cur, e.ok) stepD (moreD a b) (n := k + 1) (applyE a ⟨goneD a b, Pa.none, []⟩) (by omega)
    (fun cur j e hx hI => by
      have hlt : j < (moreD a b).length := (List.getElem?_eq_some_iff.1 hx).1
      have heo := hmo e (List.mem_of_getElem? hx)
      refine ⟨b8_step (by omega) hx (by omega) heo (by omega) hI.2, ?_, applyE_ok hI.2 (one_ok heo)⟩
      have := applyE_len cur ⟨[], e.p, [e.x]⟩
      simp only [List.length_cons, List.length_nil] at this
      exact Nat.le_trans this (by omega)) (fun cur _ => b8_exit) ⟨by omega, applyE_ok hs hgo⟩).1
  rw [leads_law hta htb] at l1
  have h8 : loopL env (k + 1) 8 7 (S8s a b (goneD a b) (moreD a b) (applyE a ⟨goneD a b, Pa.none, []⟩) 0) = .ok (.bool true) := by
    unfold loopL
    rw [l1, Res.bind_ok]
    exact t8_end (by omega) hta htb k1 k2 hs hs' n1 n2
  exact h8
end Go.Sim

/- What calls come to: printed by a program of ours (wip/tools/eqs.py): what the document says of layer 18. -/
namespace Go.Sim
open Go.RowKit Go.Proofs
set_option linter.unusedVariables false
set_option maxRecDepth 100000

theorem b88_3 (N : Nat) (r i : Int) : bodyL env N 88 0 3 ⟨slots 14 [(3, .t (i64 r)), (4, .t (i64 i))], []⟩ = bif decide (i < 32) then
  Res.ok
    (Ex.norm,
      {
        tmps :=
          slots 14
            [(3, PV.t (i64 (IntKind.wrap IntKind.i64 (r * 2)))),
              (4, PV.t (i64 (IntKind.wrap IntKind.i64 (i + 1))))],
        heap := [] })
 else Res.ok (Ex.exit 0, { tmps := slots 14 [(3, PV.t (i64 r))], heap := [] }) := by kernel_rfl
theorem t88_3_exit0 (N : Nat) (r : Int) : tailL env N 88 0 3 (outK env 88) (.exit 0) ⟨slots 14 [(3, .t (i64 r))], []⟩ = Res.ok (i64 r) := by kernel_rfl
theorem b51_2 (N : Nat) (o h c : Int) (s : List T) (i : Nat) : bodyL env N 51 0 2 ⟨slots 59 [(1, .ptr 0 0), (3, .t (i64 (i : Int)))], [.box 43 4 (.t (.agg [i64 o, .sl 1 s, i64 h, i64 c]))]⟩ = bif decide ((↑i : Int) < (↑(List.length s) : Int)) then
  atT s (↑i : Int) fun e =>
    iT IntKind.i64 e fun a =>
      bif decide (a < 1) then Res.ok (Ex.ret, { tmps := slots 59 [(2, PV.t (T.bool false))], heap := [] })
      else
        atT s (↑i : Int) fun e =>
          iT IntKind.i64 e fun a =>
            bif decide (a > 4294967295) then
              Res.ok (Ex.ret, { tmps := slots 59 [(2, PV.t (T.bool false))], heap := [] })
            else
              Res.ok
                (Ex.norm,
                  {
                    tmps :=
                      slots 59
                        [(1, PV.ptr 0 0),
                          (3, PV.t (i64 (IntKind.wrap IntKind.i64 ((↑i : Int) + 1))))],
                    heap :=
                      [AObj.box 43 4
                          (PV.t (T.agg [i64 o, T.sl 1 s, i64 h, i64 c]))] })
 else
  Res.ok
    (Ex.exit 0,
      { tmps := slots 59 [(1, PV.ptr 0 0)],
        heap :=
          [AObj.box 43 4 (PV.t (T.agg [i64 o, T.sl 1 s, i64 h, i64 c]))] }) := by kernel_rfl
theorem t51_2_exit0 (N : Nat) (o h c : Int) (s : List T) : tailL env N 51 0 2 (outK env 51) (.exit 0) ⟨slots 59 [(1, .ptr 0 0)], [.box 43 4 (.t (.agg [i64 o, .sl 1 s, i64 h, i64 c]))]⟩ = bif decide (o ≥ 0) then
  bif decide (o ≤ 2) then
    bif decide ((↑(List.length s) : Int) ≤ 255) then
      bif decide (h ≥ 1) then
        bif decide (h ≤ 4294967295) then
          bif decide (c ≥ 0) then Res.ok (T.bool (decide (c ≤ 4294967295))) else Res.ok (T.bool false)
        else Res.ok (T.bool false)
      else Res.ok (T.bool false)
    else Res.ok (T.bool false)
  else Res.ok (T.bool false)
 else Res.ok (T.bool false) := by kernel_rfl
theorem t51_2_ret (N : Nat)  : tailL env N 51 0 2 (outK env 51) (.ret) ⟨slots 59 [(2, .t (.bool false))], []⟩ = Res.ok (T.bool false) := by kernel_rfl
theorem b29_2 (N : Nat) (xs : List T) (i : Nat) : bodyL env N 29 0 2 ⟨slots 45 [(0, .t (.sl 6 xs)), (3, .t (i64 (i : Int)))], []⟩ = bif decide ((↑i : Int) < (↑(List.length xs) : Int)) then
  atT xs (↑i : Int) fun e =>
    Res.bind (callP env N 50 [T.partD e 0 2 true]) fun x =>
      bT x fun b =>
        bif
            (!(b)) then
          Res.ok (Ex.ret, { tmps := slots 45 [(2, PV.t (T.bool false))], heap := [] })
        else
          atT xs (↑i : Int) fun e =>
            Res.bind (callP env N 51 [T.partD e 2 4 true]) fun x =>
              bT x fun b =>
                bif
                    (!(b)) then
                  Res.ok (Ex.ret, { tmps := slots 45 [(2, PV.t (T.bool false))], heap := [] })
                else
                  bif decide ((↑i : Int) > 0) then
                    atT xs (IntKind.wrap IntKind.i64 ((↑i : Int) - 1)) fun e =>
                      atT xs (↑i : Int) fun e_1 =>
                        Res.bind (callP env N 58 [T.partD e 0 2 true, T.partD e_1 0 2 true]) fun x =>
                          iT IntKind.i64 x fun a =>
                            bif decide (a ≥ 0) then
                              Res.ok (Ex.ret, { tmps := slots 45 [(2, PV.t (T.bool false))], heap := [] })
                            else
                              Res.ok
                                (Ex.norm,
                                  {
                                    tmps :=
                                      slots 45
                                        [(0, PV.t (T.sl 6 xs)),
                                          (3,
                                            PV.t
                                              (i64
                                                (IntKind.wrap IntKind.i64 ((↑i : Int) + 1))))],
                                    heap := [] })
                  else
                    Res.ok
                      (Ex.norm,
                        {
                          tmps :=
                            slots 45
                              [(0, PV.t (T.sl 6 xs)),
                                (3, PV.t (i64 (IntKind.wrap IntKind.i64 ((↑i : Int) + 1))))],
                          heap := [] })
 else Res.ok (Ex.exit 0, { tmps := slots 45 [], heap := [] }) := by kernel_rfl
theorem t29_2_exit0 (N : Nat)  : tailL env N 29 0 2 (outK env 29) (.exit 0) ⟨slots 45 [], []⟩ = Res.ok (T.bool true) := by kernel_rfl
theorem t29_2_ret (N : Nat)  : tailL env N 29 0 2 (outK env 29) (.ret) ⟨slots 45 [(2, .t (.bool false))], []⟩ = Res.ok (T.bool false) := by kernel_rfl
theorem b20_3 (N : Nat) (xs : List T) (a n : Int) (i : Nat) : bodyL env N 20 0 3 ⟨slots 29 [(3, .ptr 0 0), (4, .ptr 1 0), (6, .t (.sl 6 xs)), (7, .t (i64 (i : Int)))], [.box 35 2 (.t (.agg [i64 a, i64 n])), .box 43 4 (.agg [.t (i64 0), .own 2, .t (i64 0), .t (i64 0)]), .row 3 1 []]⟩ = bif decide ((↑i : Int) < (↑(List.length xs) : Int)) then
  atT xs (↑i : Int) fun e =>
    match T.eqLs [0, 0] (T.cells (T.partD e 0 2 true)) [i64 a, i64 n] with
    | some b =>
      bif b then
        atT xs (↑i : Int) fun e =>
          chk
            (match List.length (T.cells (T.partD e 2 4 true)) == 4 with
            | false => false
            | true => true)
            (Res.ok
              (Ex.ret,
                { tmps := slots 29 [(4, PV.ptr 0 0), (5, PV.t (T.bool true))],
                  heap := [AObj.box 43 4 (PV.t (T.partD e 2 4 true))] }))
      else
        Res.ok
          (Ex.norm,
            {
              tmps :=
                slots 29
                  [(3, PV.ptr 0 0), (4, PV.ptr 1 0), (6, PV.t (T.sl 6 xs)),
                    (7, PV.t (i64 (IntKind.wrap IntKind.i64 ((↑i : Int) + 1))))],
              heap :=
                [AObj.box 35 2 (PV.t (T.agg [i64 a, i64 n])),
                  AObj.box 43 4
                    (PV.agg
                      [PV.t (i64 (0)), PV.own 2,
                        PV.t (i64 (0)), PV.t (i64 (0))]),
                  AObj.row 3 1 []] })
    | none => Res.stuck
 else
  Res.ok
    (Ex.exit 0,
      { tmps := slots 29 [(4, PV.ptr 0 0)],
        heap :=
          [AObj.box 43 4
              (PV.agg
                [PV.t (i64 (0)), PV.own 1, PV.t (i64 (0)),
                  PV.t (i64 (0))]),
            AObj.row 3 1 []] }) := by kernel_rfl
theorem b49_3 (N : Nat) (xs ys : List T) (a n : Int) (i : Nat) : bodyL env N 49 0 3 ⟨slots 28 [(0, .t (.sl 6 xs)), (3, .ptr 0 0), (5, .own 1), (6, .t (i64 (i : Int)))], [.box 35 2 (.t (.agg [i64 a, i64 n])), .row 64 6 ys]⟩ = bif decide ((↑i : Int) < (↑(List.length xs) : Int)) then
  atT xs (↑i : Int) fun e =>
    match T.eqLs [0, 0] (T.cells (T.partD e 0 2 true)) [i64 a, i64 n] with
    | some b =>
      bif
          (!(b)) then
        atT xs (↑i : Int) fun e =>
          chkAll (T.okE 6) [e]
            (chk (decide ((List.length ys + 1) * (63 + 1) ≤ big))
              (Res.ok
                (Ex.norm,
                  {
                    tmps :=
                      slots 28
                        [(0, PV.t (T.sl 6 xs)), (3, PV.ptr 0 0), (5, PV.own 1),
                          (6, PV.t (i64 (IntKind.wrap IntKind.i64 ((↑i : Int) + 1))))],
                    heap :=
                      [AObj.box 35 2 (PV.t (T.agg [i64 a, i64 n])),
                        AObj.row 64 6 (ys ++ [e])] })))
      else
        Res.ok
          (Ex.norm,
            {
              tmps :=
                slots 28
                  [(0, PV.t (T.sl 6 xs)), (3, PV.ptr 0 0), (5, PV.own 1),
                    (6, PV.t (i64 (IntKind.wrap IntKind.i64 ((↑i : Int) + 1))))],
              heap := [AObj.box 35 2 (PV.t (T.agg [i64 a, i64 n])), AObj.row 64 6 ys] })
    | none => Res.stuck
 else Res.ok (Ex.exit 0, { tmps := slots 28 [(5, PV.own 0)], heap := [AObj.row 64 6 ys] }) := by kernel_rfl
theorem t49_3_exit0 (N : Nat) (ys : List T) : tailL env N 49 0 3 (outK env 49) (.exit 0) ⟨slots 28 [(5, .own 0)], [.row 64 6 ys]⟩ = Res.ok (T.sl 6 ys) := by kernel_rfl
theorem b52_4 (N : Nat) (xs ys : List T) (a n o h c : Int) (s : List T) (d : Bool) (i : Nat) : bodyL env N 52 0 4 ⟨slots 45 [(0, .t (.sl 6 xs)), (3, .ptr 0 0), (5, .own 1), (6, .t (.bool d)), (7, .t (i64 (i : Int)))], [.box 64 6 (.t (.agg [i64 a, i64 n, i64 o, .sl 1 s, i64 h, i64 c])), .row 64 6 ys]⟩ = bif decide ((↑i : Int) < (↑(List.length xs) : Int)) then
  bif
      (!(d)) then
    atT xs (↑i : Int) fun e =>
      Res.bind
        (callP env N 58
          [T.agg
              (List.take 2
                (List.drop 0
                  [i64 a, i64 n, i64 o, T.sl 1 s, i64 h,
                    i64 c])),
            T.partD e 0 2 true])
        fun x =>
        iT IntKind.i64 x fun a_1 =>
          bif decide (a_1 < 0) then
            chkAll (T.okE 6)
              [T.agg
                  [i64 a, i64 n, i64 o, T.sl 1 s, i64 h,
                    i64 c]]
              (chk
                (decide
                  ((List.length ys + 1) * (63 + 1) ≤
                    big))
                (atT xs (↑i : Int) fun e =>
                  chkAll (T.okE 6) [e]
                    (chk
                      (decide
                        ((List.length (ys ++ [T.agg [i64 a, i64 n, i64 o, T.sl 1 s, i64 h, i64 c]]) + 1) *
                            (63 + 1) ≤
                          big))
                      (Res.ok
                        (Ex.norm,
                          {
                            tmps :=
                              slots 45
                                [(0, PV.t (T.sl 6 xs)), (3, PV.ptr 0 0), (5, PV.own 1), (6, PV.t (T.bool true)),
                                  (7, PV.t (i64 (IntKind.wrap IntKind.i64 ((↑i : Int) + 1))))],
                            heap :=
                              [AObj.box 64 6
                                  (PV.t
                                    (T.agg
                                      [i64 a, i64 n, i64 o, T.sl 1 s,
                                        i64 h, i64 c])),
                                AObj.row 64 6
                                  (ys ++
                                      [T.agg
                                          [i64 a, i64 n, i64 o, T.sl 1 s,
                                            i64 h, i64 c]] ++
                                    [e])] })))))
          else
            atT xs (↑i : Int) fun e =>
              chkAll (T.okE 6) [e]
                (chk (decide ((List.length ys + 1) * (63 + 1) ≤ big))
                  (Res.ok
                    (Ex.norm,
                      {
                        tmps :=
                          slots 45
                            [(0, PV.t (T.sl 6 xs)), (3, PV.ptr 0 0), (5, PV.own 1), (6, PV.t (T.bool d)),
                              (7, PV.t (i64 (IntKind.wrap IntKind.i64 ((↑i : Int) + 1))))],
                        heap :=
                          [AObj.box 64 6
                              (PV.t
                                (T.agg
                                  [i64 a, i64 n, i64 o, T.sl 1 s,
                                    i64 h, i64 c])),
                            AObj.row 64 6 (ys ++ [e])] })))
  else
    atT xs (↑i : Int) fun e =>
      chkAll (T.okE 6) [e]
        (chk (decide ((List.length ys + 1) * (63 + 1) ≤ big))
          (Res.ok
            (Ex.norm,
              {
                tmps :=
                  slots 45
                    [(0, PV.t (T.sl 6 xs)), (3, PV.ptr 0 0), (5, PV.own 1), (6, PV.t (T.bool d)),
                      (7, PV.t (i64 (IntKind.wrap IntKind.i64 ((↑i : Int) + 1))))],
                heap :=
                  [AObj.box 64 6
                      (PV.t
                        (T.agg
                          [i64 a, i64 n, i64 o, T.sl 1 s, i64 h,
                            i64 c])),
                    AObj.row 64 6 (ys ++ [e])] })))
 else
  Res.ok
    (Ex.exit 0,
      { tmps := slots 45 [(3, PV.ptr 0 0), (5, PV.own 1), (6, PV.t (T.bool d))],
        heap :=
          [AObj.box 64 6
              (PV.t
                (T.agg
                  [i64 a, i64 n, i64 o, T.sl 1 s, i64 h,
                    i64 c])),
            AObj.row 64 6 ys] }) := by kernel_rfl
theorem t52_4_exit0 (N : Nat) (ys : List T) (a n o h c : Int) (s : List T) (d : Bool) : tailL env N 52 0 4 (outK env 52) (.exit 0) ⟨slots 45 [(3, .ptr 0 0), (5, .own 1), (6, .t (.bool d))], [.box 64 6 (.t (.agg [i64 a, i64 n, i64 o, .sl 1 s, i64 h, i64 c])), .row 64 6 ys]⟩ = bif
    (!(d)) then
  chkAll (T.okE 6)
    [T.agg
        [i64 a, i64 n, i64 o, T.sl 1 s, i64 h,
          i64 c]]
    (chk
      (decide ((List.length ys + 1) * (63 + 1) ≤ big))
      (Res.ok
        (T.sl 6
          (ys ++
            [T.agg
                [i64 a, i64 n, i64 o, T.sl 1 s, i64 h,
                  i64 c]]))))
 else Res.ok (T.sl 6 ys) := by kernel_rfl
theorem b22_3 (N : Nat) (xs g m : List T) (o h c k : Int) (s : List T) (i : Nat) : bodyL env N 22 0 3 ⟨slots 66 [(2, .t (i64 k)), (4, .ptr 0 0), (8, .t (.sl 6 xs)), (9, .t (i64 (i : Int)))], [.box 45 6 (.t (.agg [.sl 2 g, i64 o, .sl 1 s, i64 h, i64 c, .sl 2 m]))]⟩ = bif decide ((↑i : Int) < (↑(List.length g) : Int)) then
  atT g (↑i : Int) fun e =>
    Res.bind (callP env N 49 [T.sl 6 xs, e]) fun x =>
      Res.ok
        (Ex.norm,
          {
            tmps :=
              slots 66
                [(2, PV.t (i64 k)), (4, PV.ptr 0 0), (8, PV.t x),
                  (9, PV.t (i64 (IntKind.wrap IntKind.i64 ((↑i : Int) + 1))))],
            heap :=
              [AObj.box 45 6
                  (PV.t
                    (T.agg
                      [T.sl 2 g, i64 o, T.sl 1 s, i64 h, i64 c,
                        T.sl 2 m]))] })
 else
  Res.ok
    (Ex.exit 0,
      { tmps := slots 66 [(2, PV.t (i64 k)), (4, PV.ptr 0 0), (8, PV.t (T.sl 6 xs))],
        heap :=
          [AObj.box 45 6
              (PV.t
                (T.agg
                  [T.sl 2 g, i64 o, T.sl 1 s, i64 h, i64 c, T.sl 2 m]))] }) := by kernel_rfl
theorem t22_3_exit0 (N : Nat) (xs g m : List T) (o h c k : Int) (s : List T) : tailL env N 22 0 3 (outK env 22) (.exit 0) ⟨slots 66 [(2, .t (i64 k)), (4, .ptr 0 0), (8, .t (.sl 6 xs))], [.box 45 6 (.t (.agg [.sl 2 g, i64 o, .sl 1 s, i64 h, i64 c, .sl 2 m]))]⟩ = loopL env N 22 7
  {
    tmps :=
      slots 66
        [(2, PV.t (i64 k)), (4, PV.ptr 0 0), (8, PV.t (T.sl 6 xs)),
          (10, PV.t (i64 (0)))],
    heap :=
      [AObj.box 45 6
          (PV.t
            (T.agg [T.sl 2 g, i64 o, T.sl 1 s, i64 h, i64 c, T.sl 2 m]))] } := by kernel_rfl
theorem b22_7 (N : Nat) (xs g m : List T) (o h c k : Int) (s : List T) (i : Nat) : bodyL env N 22 0 7 ⟨slots 66 [(2, .t (i64 k)), (4, .ptr 0 0), (8, .t (.sl 6 xs)), (10, .t (i64 (i : Int)))], [.box 45 6 (.t (.agg [.sl 2 g, i64 o, .sl 1 s, i64 h, i64 c, .sl 2 m]))]⟩ = bif decide ((↑i : Int) < (↑(List.length m) : Int)) then
  atT m (↑i : Int) fun e =>
    Res.bind (callP env N 50 [e]) fun x =>
      bT x fun b =>
        bif b then
          Res.bind
            (callP env N 51
              [T.agg
                  (List.take 4
                    (List.drop 1
                      [T.sl 2 g, i64 o, T.sl 1 s, i64 h, i64 c, T.sl 2 m]))])
            fun x =>
            bT x fun v =>
              bif v then
                atT m (↑i : Int) fun e =>
                  Res.bind (callP env N 49 [T.sl 6 xs, e]) fun x =>
                    atT m (↑i : Int) fun e =>
                      chk
                        (match List.length (T.cells e) == 2 with
                        | false => false
                        | true =>
                          (!(T.isTup e)))
                        (Res.bind
                          (callP env N 52
                            [x,
                              T.agg
                                [T.cell e 0, T.cell e 1, i64 o, T.sl 1 s, i64 h,
                                  i64 c]])
                          fun x =>
                          Res.ok
                            (Ex.norm,
                              {
                                tmps :=
                                  slots 66
                                    [(2, PV.t (i64 k)), (4, PV.ptr 0 0), (8, PV.t x),
                                      (10,
                                        PV.t
                                          (i64 (IntKind.wrap IntKind.i64 ((↑i : Int) + 1))))],
                                heap :=
                                  [AObj.box 45 6
                                      (PV.t
                                        (T.agg
                                          [T.sl 2 g, i64 o, T.sl 1 s, i64 h,
                                            i64 c, T.sl 2 m]))] }))
              else
                Res.ok
                  (Ex.norm,
                    {
                      tmps :=
                        slots 66
                          [(2, PV.t (i64 k)), (4, PV.ptr 0 0), (8, PV.t (T.sl 6 xs)),
                            (10, PV.t (i64 (IntKind.wrap IntKind.i64 ((↑i : Int) + 1))))],
                      heap :=
                        [AObj.box 45 6
                            (PV.t
                              (T.agg
                                [T.sl 2 g, i64 o, T.sl 1 s, i64 h, i64 c,
                                  T.sl 2 m]))] })
        else
          Res.ok
            (Ex.norm,
              {
                tmps :=
                  slots 66
                    [(2, PV.t (i64 k)), (4, PV.ptr 0 0), (8, PV.t (T.sl 6 xs)),
                      (10, PV.t (i64 (IntKind.wrap IntKind.i64 ((↑i : Int) + 1))))],
                heap :=
                  [AObj.box 45 6
                      (PV.t
                        (T.agg
                          [T.sl 2 g, i64 o, T.sl 1 s, i64 h, i64 c,
                            T.sl 2 m]))] })
 else Res.ok (Ex.exit 2, { tmps := slots 66 [(2, PV.t (i64 k)), (8, PV.t (T.sl 6 xs))], heap := [] }) := by kernel_rfl
theorem t22_7_exit2 (N : Nat) (xs : List T) (k : Int) : tailL env N 22 0 7 (outK env 22) (.exit 2) ⟨slots 66 [(2, .t (i64 k)), (8, .t (.sl 6 xs))], []⟩ = bif decide ((↑(List.length xs) : Int) > k) then Res.ok (T.tup [T.sl 6 [], T.bool false])
 else Res.ok (T.tup [T.sl 6 xs, T.bool true]) := by kernel_rfl
theorem b27_4 (N : Nat) (xs ys : List T) (i : Nat) : bodyL env N 27 0 4 ⟨slots 26 [(0, .t (.sl 2 xs)), (1, .t (.sl 2 ys)), (5, .t (i64 (i : Int)))], []⟩ = bif decide ((↑i : Int) < (↑(List.length xs) : Int)) then
  atT xs (↑i : Int) fun e =>
    atT ys (↑i : Int) fun e_1 =>
      match T.eqLs [0, 0] (T.cells e) (T.cells e_1) with
      | some b =>
        bif
            (!(b)) then
          Res.ok (Ex.ret, { tmps := slots 26 [(4, PV.t (T.bool false))], heap := [] })
        else
          Res.ok
            (Ex.norm,
              {
                tmps :=
                  slots 26
                    [(0, PV.t (T.sl 2 xs)), (1, PV.t (T.sl 2 ys)),
                      (5, PV.t (i64 (IntKind.wrap IntKind.i64 ((↑i : Int) + 1))))],
                heap := [] })
      | none => Res.stuck
 else Res.ok (Ex.exit 0, { tmps := slots 26 [], heap := [] }) := by kernel_rfl
theorem t27_4_exit0 (N : Nat)  : tailL env N 27 0 4 (outK env 27) (.exit 0) ⟨slots 26 [], []⟩ = Res.ok (T.bool true) := by kernel_rfl
theorem t27_4_ret (N : Nat)  : tailL env N 27 0 4 (outK env 27) (.ret) ⟨slots 26 [(4, .t (.bool false))], []⟩ = Res.ok (T.bool false) := by kernel_rfl
theorem b24_6 (N : Nat) (xs ys gs ms : List T) (i : Nat) : bodyL env N 24 0 6 ⟨slots 83 [(6, .t (.sl 6 xs)), (7, .t (.sl 6 ys)), (8, .own 0), (9, .own 1), (10, .t (i64 (i : Int)))], [.row 35 2 gs, .row 64 6 ms]⟩ = bif decide ((↑i : Int) < (↑(List.length xs) : Int)) then
  atT xs (↑i : Int) fun e =>
    Res.bind (callP env N 20 [T.sl 6 ys, T.partD e 0 2 true]) fun x =>
      compT x 0 fun y =>
        compT x 1 fun y_1 =>
          chk
            (match List.length (T.cells y) == 4 with
            | false => false
            | true =>
              (!(T.isTup y)))
            (bT y_1 fun b =>
              bif
                  (!(b)) then
                atT xs (↑i : Int) fun e =>
                  chkAll (T.okE 2) [T.partD e 0 2 true]
                    (chk
                      (decide
                        ((List.length gs +
                              1) *
                            (15 + 1) ≤
                          big))
                      (Res.ok
                        (Ex.norm,
                          {
                            tmps :=
                              slots 83
                                [(6, PV.t (T.sl 6 xs)), (7, PV.t (T.sl 6 ys)), (8, PV.own 0), (9, PV.own 1),
                                  (10, PV.t (i64 (IntKind.wrap IntKind.i64 ((↑i : Int) + 1))))],
                            heap := [AObj.row 35 2 (gs ++ [T.partD e 0 2 true]), AObj.row 64 6 ms] })))
              else
                Res.ok
                  (Ex.norm,
                    {
                      tmps :=
                        slots 83
                          [(6, PV.t (T.sl 6 xs)), (7, PV.t (T.sl 6 ys)), (8, PV.own 0), (9, PV.own 1),
                            (10, PV.t (i64 (IntKind.wrap IntKind.i64 ((↑i : Int) + 1))))],
                      heap := [AObj.row 35 2 gs, AObj.row 64 6 ms] }))
 else
  Res.ok
    (Ex.exit 0,
      { tmps := slots 83 [(6, PV.t (T.sl 6 xs)), (7, PV.t (T.sl 6 ys)), (8, PV.own 0), (9, PV.own 1)],
        heap := [AObj.row 35 2 gs, AObj.row 64 6 ms] }) := by kernel_rfl
theorem t24_6_exit0 (N : Nat) (xs ys gs ms : List T) : tailL env N 24 0 6 (outK env 24) (.exit 0) ⟨slots 83 [(6, .t (.sl 6 xs)), (7, .t (.sl 6 ys)), (8, .own 0), (9, .own 1)], [.row 35 2 gs, .row 64 6 ms]⟩ = loopL env N 24 12
  {
    tmps :=
      slots 83
        [(6, PV.t (T.sl 6 xs)), (7, PV.t (T.sl 6 ys)), (8, PV.own 0), (9, PV.own 1),
          (13, PV.t (i64 (0)))],
    heap := [AObj.row 35 2 gs, AObj.row 64 6 ms] } := by kernel_rfl
theorem b24_12 (N : Nat) (xs ys gs ms : List T) (i : Nat) : bodyL env N 24 0 12 ⟨slots 83 [(6, .t (.sl 6 xs)), (7, .t (.sl 6 ys)), (8, .own 0), (9, .own 1), (13, .t (i64 (i : Int)))], [.row 35 2 gs, .row 64 6 ms]⟩ = bif decide ((↑i : Int) < (↑(List.length ys) : Int)) then
  atT ys (↑i : Int) fun e =>
    Res.bind (callP env N 20 [T.sl 6 xs, T.partD e 0 2 true]) fun x =>
      compT x 0 fun y =>
        compT x 1 fun y_1 =>
          chk
            (match List.length (T.cells y) == 4 with
            | false => false
            | true =>
              (!(T.isTup y)))
            (bT y_1 fun b =>
              bif
                  (!(b)) then
                atT ys (↑i : Int) fun e =>
                  chkAll (T.okE 6) [e]
                    (chk (decide ((List.length ms + 1) * (63 + 1) ≤ big))
                      (Res.ok
                        (Ex.norm,
                          {
                            tmps :=
                              slots 83
                                [(6, PV.t (T.sl 6 xs)), (7, PV.t (T.sl 6 ys)), (8, PV.own 0), (9, PV.own 1),
                                  (13, PV.t (i64 (IntKind.wrap IntKind.i64 ((↑i : Int) + 1))))],
                            heap := [AObj.row 35 2 gs, AObj.row 64 6 (ms ++ [e])] })))
              else
                atT ys (↑i : Int) fun e =>
                  Res.bind (callP env N 25 [y, T.partD e 2 4 true]) fun x =>
                    bT x fun b =>
                      bif
                          (!(b)) then
                        atT ys (↑i : Int) fun e =>
                          chkAll (T.okE 6) [e]
                            (chk (decide ((List.length ms + 1) * (63 + 1) ≤ big))
                              (Res.ok
                                (Ex.norm,
                                  {
                                    tmps :=
                                      slots 83
                                        [(6, PV.t (T.sl 6 xs)), (7, PV.t (T.sl 6 ys)), (8, PV.own 0), (9, PV.own 1),
                                          (13,
                                            PV.t
                                              (i64
                                                (IntKind.wrap IntKind.i64 ((↑i : Int) + 1))))],
                                    heap := [AObj.row 35 2 gs, AObj.row 64 6 (ms ++ [e])] })))
                      else
                        Res.ok
                          (Ex.norm,
                            {
                              tmps :=
                                slots 83
                                  [(6, PV.t (T.sl 6 xs)), (7, PV.t (T.sl 6 ys)), (8, PV.own 0), (9, PV.own 1),
                                    (13,
                                      PV.t (i64 (IntKind.wrap IntKind.i64 ((↑i : Int) + 1))))],
                              heap := [AObj.row 35 2 gs, AObj.row 64 6 ms] }))
 else
  Res.ok (Ex.exit 2, { tmps := slots 83 [(8, PV.own 0), (9, PV.own 1)], heap := [AObj.row 35 2 gs, AObj.row 64 6 ms] }) := by kernel_rfl
theorem t24_12_exit2 (N : Nat) (gs ms : List T) : tailL env N 24 0 12 (outK env 24) (.exit 2) ⟨slots 83 [(8, .own 0), (9, .own 1)], [.row 35 2 gs, .row 64 6 ms]⟩ = Res.ok (T.tup [T.sl 2 gs, T.sl 6 ms]) := by kernel_rfl
theorem t20_3_exit0 (N : Nat) : tailL env N 20 0 3 (outK env 20) (.exit 0) ⟨slots 29 [(4, .ptr 0 0)], [.box 43 4 (.agg [.t (i64 0), .own 1, .t (i64 0), .t (i64 0)]), .row 3 1 []]⟩ = Res.ok
  (T.tup
    [T.agg
        [i64 (0), T.sl 1 [], i64 (0), i64 (0)],
      T.bool false])

 := by kernel_rfl
theorem t20_3_ret (N : Nat) (v : T) : tailL env N 20 0 3 (outK env 20) (.ret) ⟨slots 29 [(4, .ptr 0 0), (5, .t (.bool true))], [.box 43 4 (.t v)]⟩ = Res.ok (T.tup [v, T.bool true]) := by kernel_rfl
theorem e5 (N : Nat) (xs ys g m : List T) (o h c a n k : Int) (s : List T) : callP env (N + 1) 5 [.sl 6 xs, .sl 6 ys, .agg [.sl 2 g, i64 o, .sl 1 s, i64 h, i64 c, .sl 2 m], .agg [i64 a, i64 n], i64 k] = bif T.wfs [.sl 6 xs, .sl 6 ys, .agg [.sl 2 g, i64 o, .sl 1 s, i64 h, i64 c, .sl 2 m], .agg [i64 a, i64 n], i64 k] then (Res.bind (callP env N 16 []) fun x =>
  Res.bind (callP env N 17 [T.sl 6 xs]) fun x_1 =>
    bT x_1 fun b =>
      bif
          (!(b)) then
        Res.ok x
      else
        Res.bind (callP env N 17 [T.sl 6 ys]) fun x_2 =>
          bT x_2 fun b =>
            bif
                (!(b)) then
              Res.ok x
            else
              Res.bind
                (callP env N 18
                  [T.agg [T.sl 2 g, i64 o, T.sl 1 s, i64 h, i64 c, T.sl 2 m]])
                fun x_3 =>
                bT x_3 fun b =>
                  bif
                      (!(b)) then
                    Res.ok x
                  else
                    Res.bind (callP env N 19 [T.sl 6 xs, T.agg [i64 a, i64 n]]) fun x_4 =>
                      compT x_4 0 fun y =>
                        compT x_4 1 fun y_1 =>
                          chk
                            (match List.length (T.cells y) == 4 with
                            | false => false
                            | true =>
                              (!(T.isTup y)))
                            (Res.bind (callP env N 20 [T.sl 6 xs, T.agg [i64 a, i64 n]])
                              fun x_5 =>
                              compT x_5 0 fun y_2 =>
                                compT x_5 1 fun y_3 =>
                                  chk
                                    (match List.length (T.cells y_2) == 4 with
                                    | false => false
                                    | true =>
                                      (!(T.isTup y_2)))
                                    (Res.bind
                                      (callP env N 21
                                        [T.sl 6 xs,
                                          T.agg
                                            [T.sl 2 g, i64 o, T.sl 1 s, i64 h,
                                              i64 c, T.sl 2 m],
                                          i64 k])
                                      fun x_6 =>
                                      compT x_6 0 fun y_4 =>
                                        compT x_6 1 fun y_5 =>
                                          Res.bind
                                            (callP env N 22
                                              [T.sl 6 xs,
                                                T.agg
                                                  [T.sl 2 g, i64 o, T.sl 1 s, i64 h,
                                                    i64 c, T.sl 2 m],
                                                i64 k])
                                            fun x_7 =>
                                            compT x_7 0 fun y_6 =>
                                              compT x_7 1 fun y_7 =>
                                                Res.bind (callP env N 23 [T.sl 6 xs, T.sl 6 ys]) fun x_8 =>
                                                  compT x_8 0 fun y_8 =>
                                                    compT x_8 1 fun y_9 =>
                                                      Res.bind (callP env N 24 [T.sl 6 xs, T.sl 6 ys]) fun x_9 =>
                                                        compT x_9 0 fun y_10 =>
                                                          compT x_9 1 fun y_11 =>
                                                            match T.eqLs [1] [y_1] [y_3] with
                                                            | some b =>
                                                              bif
                                                                  (!(b)) then
                                                                Res.ok (T.bool false)
                                                              else
                                                                Res.bind (callP env N 25 [y, y_2]) fun x_10 =>
                                                                  bT x_10 fun b =>
                                                                    bif
                                                                        (!(b)) then
                                                                      Res.ok (T.bool false)
                                                                    else
                                                                      match T.eqLs [1] [y_5] [y_7] with
                                                                      | some b =>
                                                                        bif
                                                                            (!(b)) then
                                                                          Res.ok (T.bool false)
                                                                        else
                                                                          Res.bind (callP env N 26 [y_4, y_6])
                                                                            fun x_11 =>
                                                                            bT x_11 fun b =>
                                                                              bif
                                                                                  (!(b)) then
                                                                                Res.ok (T.bool false)
                                                                              else
                                                                                Res.bind (callP env N 27 [y_8, y_10])
                                                                                  fun x_12 =>
                                                                                  bT x_12 fun b =>
                                                                                    bif
                                                                                        (!(b)) then
                                                                                      Res.ok (T.bool false)
                                                                                    else
                                                                                      Res.bind
                                                                                        (callP env N 26 [y_9, y_11])
                                                                                        fun x_13 =>
                                                                                        bT x_13 fun b =>
                                                                                          bif
                                                                                              (!(b)) then
                                                                                            Res.ok (T.bool false)
                                                                                          else
                                                                                            bT x fun b =>
                                                                                              bif b then
                                                                                                Res.bind
                                                                                                  (callP env N 28
                                                                                                    [T.sl 6 xs])
                                                                                                  fun x =>
                                                                                                  Res.bind
                                                                                                    (callP env N 29
                                                                                                      [T.sl 6 xs])
                                                                                                    fun x_14 =>
                                                                                                    match
                                                                                                      T.eqLs [1] [x]
                                                                                                        [x_14] with
                                                                                                    | some b =>
                                                                                                      bif b then
                                                                                                        Res.bind
                                                                                                          (callP env N
                                                                                                            30
                                                                                                            [T.sl 6 xs,
                                                                                                              T.sl 6
                                                                                                                ys])
                                                                                                          fun x =>
                                                                                                          Res.bind
                                                                                                            (callP env N
                                                                                                              26
                                                                                                              [T.sl 6
                                                                                                                  xs,
                                                                                                                T.sl 6
                                                                                                                  ys])
                                                                                                            fun x_15 =>
                                                                                                            match
                                                                                                              T.eqLs [1]
                                                                                                                [x]
                                                                                                                [x_15] with
                                                                                                            | some b =>
                                                                                                              Res.ok
                                                                                                                (T.bool
                                                                                                                  b)
                                                                                                            | none =>
                                                                                                              Res.stuck
                                                                                                      else
                                                                                                        Res.ok
                                                                                                          (T.bool false)
                                                                                                    | none => Res.stuck
                                                                                              else Res.ok (T.bool false)
                                                                      | none => Res.stuck
                                                            | none => Res.stuck))) else .absurd := by kernel_rfl
end Go.Sim

/- What the document's own functions of layers 2, 7 and 18 answer. -/
namespace Go.Sim
open Go.RowKit Go.Proofs
set_option linter.unusedVariables false
set_option linter.unusedSimpArgs false
set_option maxRecDepth 100000

theorem seekI_iff {p : Nat → Bool} {i k : Nat} : seekI p i k = none ↔ ∀ j, i ≤ j → j < i + k → p j = false := by
  constructor
  · exact seekI_none
  · intro h
    cases hk : seekI p i k with
    | none => rfl
    | some j =>
      obtain ⟨a, b, c⟩ := seekI_some hk
      rw [h j a b] at c; cases c
/-! ### size, mask -/
theorem pow_pos2 (k : Nat) : (1 : Int) ≤ 2 ^ k := by
  have h : 0 < 2 ^ k := Nat.two_pow_pos k
  have hc : (2 : Int) ^ k = ((2 ^ k : Nat) : Int) := by simp
  rw [hc]; omega
theorem pow_le2 {a b : Nat} (h : a ≤ b) : (2 : Int) ^ a ≤ 2 ^ b := by
  have h2 : 2 ^ a ≤ 2 ^ b := Nat.pow_le_pow_right (by omega) h
  have hc : ∀ k : Nat, (2 : Int) ^ k = ((2 ^ k : Nat) : Int) := fun k => by simp
  rw [hc, hc]; omega
theorem mul_le2 {a b : Int} (ha : 0 ≤ a) (hb : 1 ≤ b) : a ≤ a * b := by
  have := Int.mul_le_mul_of_nonneg_left hb ha
  rwa [Int.mul_one] at this
theorem max0_eq (b : Int) : minmax true [0] b = max 0 b := by
  simp only [minmax, cond_true]
  split <;> omega
def S88 (r i : Int) : St := ⟨slots 14 [(3, .t (i64 r)), (4, .t (i64 i))], []⟩
theorem loop88 {M : Nat} : ∀ (k n : Nat) (r i : Int), k < n → (i < 32 → (k : Int) = 32 - i) → (32 ≤ i → k = 0) → 0 ≤ i → 0 ≤ r → r * 2 ^ k ≤ 4294967296 → iterR (bodyL env M 88 0 3) n (S88 r i) = .ok (.exit 0, ⟨slots 14 [(3, .t (i64 (r * 2 ^ k)))], []⟩)
  | 0, n + 1, r, i, _, h1, h2, _, _, _ => by
    have : ¬ i < 32 := fun h => by have := h1 h; omega
    refine iterR_exit ?_
    unfold S88
    rw [b88_3, decide_eq_false this]
    simp
  | k + 1, n + 1, r, i, hk, h1, h2, hi, hr, hle => by
    have hlt : i < 32 := Int.lt_of_not_ge fun h => by have := h2 h; omega
    have hp : (1 : Int) ≤ 2 ^ k := pow_pos2 k
    have he : r * 2 ^ (k + 1) = (r * 2) * 2 ^ k := by rw [Int.pow_succ, Int.mul_comm (2 ^ k) 2, Int.mul_assoc]
    have hb : r * 2 ≤ 4294967296 := by
      rw [he] at hle
      have := mul_le2 (a := r * 2) (b := 2 ^ k) (by omega) hp
      omega
    have hs : bodyL env M 88 0 3 (S88 r i) = .ok (.norm, S88 (r * 2) (i + 1)) := by
      unfold S88
      rw [b88_3, decide_eq_true hlt, wrap64 (show -9223372036854775808 ≤ r * 2 ∧ r * 2 ≤ 9223372036854775807 by omega), wrap64 (show -9223372036854775808 ≤ i + 1 ∧ i + 1 ≤ 9223372036854775807 by omega)]
      rfl
    rw [iterR_step hs, he]
    exact loop88 k n (r * 2) (i + 1) (by omega) (fun h => by have := h1 hlt; omega) (fun h => by have := h1 hlt; omega) (by omega) (by omega) (by rw [← he]; exact hle)
def sizeI (b : Int) : Int := 2 ^ (32 - (max 0 b).toNat)
theorem f88_ok {M : Nat} {b : Int} (hM : 40 ≤ M) (hb : ok64 b = true) : callP env (M + 1) 88 [i64 b] = .ok (i64 (sizeI b)) := by
  have h2 : (2 : Int) ^ (32 - (max 0 b).toNat) ≤ 2 ^ 32 := pow_le2 (by omega)
  have := loop88 (M := M) (32 - (max 0 b).toNat) M 1 (max 0 b) (by omega) (fun h => by omega) (fun h => by omega) (by omega) (by omega) (by rw [Int.one_mul]; exact h2)
  rw [Int.one_mul] at this
  rw [e88, wfs1 (wf_int hb), max0_eq]
  simp only [cond_true, loopL]
  rw [show (⟨slots 14 [(3, .t (i64 1)), (4, .t (i64 (max 0 b)))], []⟩ : St) = S88 1 (max 0 b) from rfl, this, Res.bind_ok]
  exact t88_3_exit0 M _
def maskR (a b : Int) : Int := IntKind.i64.wrap (IntKind.i64.wrap ((BitVec.toNat (BitVec.ofInt 64 a &&& BitVec.ofInt 64 4294967295) : Nat) : Int) - Int.tmod (IntKind.i64.wrap ((BitVec.toNat (BitVec.ofInt 64 a &&& BitVec.ofInt 64 4294967295) : Nat) : Int)) (sizeI b))
theorem sizeI_pos (b : Int) : 1 ≤ sizeI b := pow_pos2 _
theorem f80_ok {M : Nat} {a b : Int} (hM : 50 ≤ M) (ha : ok64 a = true) (hb : ok64 b = true) : callP env (M + 1) 80 [i64 a, i64 b] = .ok (i64 (maskR a b)) := by
  obtain ⟨m, rfl⟩ : ∃ m, M = m + 1 := ⟨M - 1, by omega⟩
  rw [e80, wfs2 (wf_int ha) (wf_int hb), f88_ok (by omega) hb]
  have : (sizeI b == 0) = false := beq_eq_false_iff_ne.2 (by have := sizeI_pos b; omega)
  simp only [cond_true, Res.bind_ok, iT_int, this, Bool.not_false, chk]
  rfl
theorem and32 (a : Int) : BitVec.toNat (BitVec.ofInt 64 a &&& BitVec.ofInt 64 4294967295) ≤ 4294967295 := by
  rw [BitVec.toNat_and]
  refine Nat.le_trans Nat.and_le_right ?_
  decide
theorem mask_eq {a b : Int} (h0 : 0 ≤ b) (h1 : b ≤ 32) : maskR a b = maskI a b ∧ 0 ≤ maskI a b ∧ maskI a b ≤ 4294967295 := by
  have hA := and32 a
  unfold maskR maskI sizeI
  rw [shiftI_eq]
  generalize BitVec.toNat (BitVec.ofInt 64 a &&& BitVec.ofInt 64 4294967295) = A at hA
  have e1 : IntKind.i64.wrap (A : Int) = A := wrap64 (by omega)
  have e2 : min (Int.toNat (32 - max 0 (min b 32))) 64 = 32 - (max 0 b).toNat := by omega
  rw [e1, e2]
  generalize 32 - (max 0 b).toNat = k
  have hp : 0 < 2 ^ k := Nat.two_pow_pos k
  have hc : (2 : Int) ^ k = ((2 ^ k : Nat) : Int) := by simp
  rw [hc]
  generalize 2 ^ k = d at hp
  have f1 : Int.fdiv (A : Int) (d : Int) = ((A / d : Nat) : Int) := by rw [Int.fdiv_eq_ediv_of_nonneg _ (by omega)]; rfl
  have f2 : Int.tmod (A : Int) (d : Int) = ((A % d : Nat) : Int) := rfl
  have f3 : A / d * d + A % d = A := by rw [Nat.mul_comm]; exact Nat.div_add_mod A d
  have f4 : ((A / d : Nat) : Int) * (d : Int) = ((A / d * d : Nat) : Int) := by simp
  rw [f1, f2, f4]
  generalize A / d * d = q at f3
  generalize A % d = r at f3
  have g1 : (A : Int) - (r : Int) = (q : Int) := by omega
  rw [g1, wrap64 (by omega)]
  exact ⟨rfl, by omega, by omega⟩
theorem f50_ok {M : Nat} {x : Px} (hM : 60 ≤ M) (h : x.ok) : callP env (M + 1) 50 [x.t] = .ok (.bool (psane x)) := by
  obtain ⟨m, rfl⟩ : ∃ m, M = m + 1 := ⟨M - 1, by omega⟩
  have hw := wfs1 h.wf
  simp only [Px.t] at hw ⊢
  rw [e50, hw, f80_ok (by omega) h.a h.n]
  simp only [cond_true, Res.bind_ok, iT_int, psane]
  cases h1 : decide (x.n ≥ 0) with
  | false => rfl
  | true =>
  cases h2 : decide (x.n ≤ 32) with
  | false => rfl
  | true =>
    obtain ⟨g1, g2, g3⟩ := mask_eq (a := x.a) (of_decide_eq_true h1) (of_decide_eq_true h2)
    rw [g1]
    cases h3 : decide (x.a ≥ 0) with
    | false =>
      have : (x.a == maskI x.a x.n) = false := beq_eq_false_iff_ne.2 (by have := of_decide_eq_false h3; omega)
      rw [this]; rfl
    | true =>
    cases h4 : decide (x.a ≤ 4294967295) with
    | false =>
      have : (x.a == maskI x.a x.n) = false := beq_eq_false_iff_ne.2 (by have := of_decide_eq_false h4; omega)
      rw [this]; rfl
    | true =>
      simp only [cond_true, Bool.true_and]
      rw [show (maskI x.a x.n == x.a) = (x.a == maskI x.a x.n) from Bool.beq_comm ..]

def S51 (p : Pa) (i : Nat) : St := ⟨slots 59 [(1, .ptr 0 0), (3, .t (i64 (i : Int)))], [.box 43 4 (.t (.agg [i64 p.o, .sl 1 (ints p.s), i64 p.h, i64 p.c]))]⟩
def X51 (p : Pa) : St := ⟨slots 59 [(1, .ptr 0 0)], [.box 43 4 (.t (.agg [i64 p.o, .sl 1 (ints p.s), i64 p.h, i64 p.c]))]⟩
theorem f51_ok {M : Nat} {p : Pa} (hM : big + 1 ≤ M) (h : p.ok) : callP env (M + 1) 51 [p.t] = .ok (.bool (asane p)) := by
  have hw := wfs1 h.wf
  have hi : (ints p.s).length = p.s.length := by simp [ints]
  have hl := h.l
  simp only [Pa.t] at hw ⊢
  rw [e51, hw]
  simp only [cond_true, loopL]
  have := iter_any (B := bodyL env M 51 0 2) (S := S51 p) (R := ⟨slots 59 [(2, .t (.bool false))], []⟩) (X := X51 p) (id := 0) bad63 p.s (n := M) (by omega)
    (fun j a hx => by
      have hj : j < p.s.length := (List.getElem?_eq_some_iff.1 hx).1
      unfold S51
      rw [b51_2, decide_eq_true (show (j : Int) < ((ints p.s).length : Int) by rw [hi]; omega)]
      simp only [cond_true, atT_get (ints_get hx), iT_int, wrap_succ (show j ≤ big by omega), bad63]
      cases decide (a < 1) <;> cases decide (a > 4294967295) <;> rfl)
    (by unfold S51 X51; rw [b51_2, decide_eq_false (by rw [hi]; omega)]; simp only [cond_false])
  rw [show (⟨slots 59 [(1, .ptr 0 0), (3, .t (i64 0))], [.box 43 4 (.t (.agg [i64 p.o, .sl 1 (ints p.s), i64 p.h, i64 p.c]))]⟩ : St) = S51 p 0 from rfl, this]
  unfold asane
  cases p.s.any bad63 with
  | true => rw [cond_true, Res.bind_ok, t51_2_ret]; rfl
  | false =>
    rw [cond_false, Res.bind_ok]
    unfold X51
    rw [t51_2_exit0, hi]
    have : decide (p.h ≥ 1) = decide (p.h > 0) := by rw [decide_eq_decide]; omega
    rw [this]
    cases decide (p.o ≥ 0) <;> cases decide (p.o ≤ 2) <;> cases decide ((p.s.length : Int) ≤ 255) <;> cases decide (p.h > 0) <;> cases decide (p.h ≤ 4294967295) <;> cases decide (p.c ≥ 0) <;> rfl
theorem f58_ok {M : Nat} {x y : Px} (hx : x.ok) (hy : y.ok) : callP env (M + 1) 58 [x.t, y.t] = .ok (i64 (cmpP x y)) := by
  have hw := wfs2 hx.wf hy.wf
  simp only [Px.t] at hw ⊢
  rw [e58, hw]
  simp only [cond_true, cmpP, orI, cmpI]
  rcases Int.lt_trichotomy x.a y.a with h | h | h
  · rw [decide_eq_true h]; rfl
  · rw [h, decide_eq_false (Int.lt_irrefl _), beq_self_eq_true]
    rcases Int.lt_trichotomy x.n y.n with g | g | g
    · rw [decide_eq_true g]; rfl
    · rw [g, decide_eq_false (Int.lt_irrefl _), beq_self_eq_true]; rfl
    · rw [decide_eq_false (show ¬ x.n < y.n by omega), decide_eq_true (show x.n > y.n from g), beq_eq_false_iff_ne.2 (show x.n ≠ y.n by omega)]; rfl
  · rw [decide_eq_false (show ¬ x.a < y.a by omega), decide_eq_true (show x.a > y.a from h), beq_eq_false_iff_ne.2 (show x.a ≠ y.a by omega)]; rfl

/-! ### Sane, As, Get -/
def badR (l : List En) (i : Nat) : Bool := match l[i]? with | some e => ebad e || (decide ((i : Int) > 0) && upE l i) | none => false
theorem f29_ok {M : Nat} {l : List En} (hM : big + 5 ≤ M) (hl : l.length ≤ big) (hs : ∀ e ∈ l, e.ok) : callP env (M + 1) 29 [.sl 6 (l.map En.t)] = .ok (.bool (tsane l)) := by
  have hbg := big_val
  obtain ⟨m, rfl⟩ : ∃ m, M = m + 1 := ⟨M - 1, by omega⟩
  have hln : (l.map En.t).length = l.length := by simp
  rw [e29, wfs1 (wf_sl hl fun e he => (hs e he).wf)]
  simp only [cond_true, loopL]
  have hstep : ∀ (j : Nat) e, l[j]? = some e → bodyL env (m + 1) 29 0 2 ⟨slots 45 [(0, .t (.sl 6 (l.map En.t))), (3, .t (i64 (j : Int)))], []⟩ =
      bif badR l j then .ok (.ret, ⟨slots 45 [(2, .t (.bool false))], []⟩) else .ok (.norm, ⟨slots 45 [(0, .t (.sl 6 (l.map En.t))), (3, .t (i64 ((j + 1 : Nat) : Int)))], []⟩) := fun j e hx => by
    have hj : j < l.length := (List.getElem?_eq_some_iff.1 hx).1
    have heo := hs e (List.mem_of_getElem? hx)
    rw [b29_2, decide_eq_true (show (j : Int) < ((l.map En.t).length : Int) by rw [hln]; omega)]
    simp only [cond_true, atT_get (map_get hx), en_px, en_pa]
    rw [f50_ok (by omega) heo.x, f51_ok (by omega) heo.p]
    simp only [Res.bind_ok, bT_bool, wrap_succ (show j ≤ big by omega), badR, hx, ebad]
    cases psane e.x with
    | false => rfl
    | true =>
    cases asane e.p with
    | false => rfl
    | true =>
    cases hd : decide ((j : Int) > 0) with
    | false => rfl
    | true =>
      have hj0 : 0 < j := by have := of_decide_eq_true hd; omega
      have hw : IntKind.i64.wrap ((j : Int) - 1) = ((j - 1 : Nat) : Int) := by rw [wrap64 (by omega)]; omega
      have g1 : l[j - 1]? = some l[j - 1] := List.getElem?_eq_getElem (by omega)
      simp only [Bool.not_true, cond_false, cond_true, hw, atT_get (map_get g1), en_px, Bool.false_or, Bool.true_and]
      rw [f58_ok (hs _ (List.getElem_mem _)).x heo.x]
      simp only [Res.bind_ok, iT_int, upE, g1, hx]
  have := iter_seek (B := bodyL env (m + 1) 29 0 2) (S := fun i => ⟨slots 45 [(0, .t (.sl 6 (l.map En.t))), (3, .t (i64 (i : Int)))], []⟩) (R := fun i => ⟨slots 45 [(2, .t (.bool false))], []⟩) (X := ⟨slots 45 [], []⟩) (id := 0)
    (badR l) l.length 0 (m + 1) (by omega) (fun j _ hj hp => by
      rw [hstep j _ (List.getElem?_eq_getElem (by omega)), hp]; rfl) (fun j _ hj hp => by
      rw [hstep j _ (List.getElem?_eq_getElem (by omega)), hp]; rfl) (by rw [b29_2, decide_eq_false (by rw [hln]; omega)]; rfl)
  rw [i64z, this]
  have hts : tsane l = (seekI (badR l) 0 l.length).isNone := by
    rw [Bool.eq_iff_iff, Option.isNone_iff_eq_none, seekI_iff]
    unfold tsane risesE
    rw [Bool.and_eq_true, Bool.not_eq_true', List.any_eq_false, Option.isNone_iff_eq_none, seekI_iff]
    constructor
    · rintro ⟨h1, h2⟩ j _ hj
      have g : l[j]? = some l[j] := List.getElem?_eq_getElem (by omega)
      simp only [badR, g, Bool.or_eq_false_iff, Bool.and_eq_false_iff]
      refine ⟨by simpa using h1 l[j] (List.getElem_mem _), ?_⟩
      rcases Nat.eq_zero_or_pos j with h0 | h0
      · exact .inl (decide_eq_false (by omega))
      · exact .inr (h2 j h0 (by omega))
    · intro h
      refine ⟨fun e he => ?_, fun j hj hj2 => ?_⟩
      · obtain ⟨i, hi⟩ := List.getElem?_of_mem he
        have hlt := (List.getElem?_eq_some_iff.1 hi).1
        have := h i (by omega) (by omega)
        simp only [badR, hi, Bool.or_eq_false_iff] at this
        simp [this.1]
      · have := h j (by omega) (by omega)
        have g : l[j]? = some l[j] := List.getElem?_eq_getElem (by omega)
        simp only [badR, g, Bool.or_eq_false_iff, Bool.and_eq_false_iff] at this
        rcases this.2 with h3 | h3
        · have := of_decide_eq_false h3; omega
        · exact h3
  rw [hts]
  cases seekI (badR l) 0 l.length with
  | none => simp only [Res.bind_ok, t29_2_exit0, Option.isNone]
  | some j => simp only [Res.bind_ok, t29_2_ret, Option.isNone]
theorem f45_ok {M : Nat} {l : List En} (hM : big + 7 ≤ M) (hl : l.length ≤ big) (hs : ∀ e ∈ l, e.ok) : callP env (M + 1) 45 [.sl 6 (l.map En.t)] = .ok (.sl 6 ((known l).map En.t)) := by
  obtain ⟨m, rfl⟩ : ∃ m, M = m + 1 := ⟨M - 1, by omega⟩
  rw [e45, wfs1 (wf_sl hl fun e he => (hs e he).wf), f29_ok (by omega) hl hs]
  simp only [cond_true, Res.bind_ok, bT_bool, known]
  cases tsane l <;> rfl
def S20 (k : List En) (x : Px) (i : Nat) : St := ⟨slots 29 [(3, .ptr 0 0), (4, .ptr 1 0), (6, .t (.sl 6 (k.map En.t))), (7, .t (i64 (i : Int)))], [.box 35 2 (.t (.agg [i64 x.a, i64 x.n])), .box 43 4 (.agg [.t (i64 0), .own 2, .t (i64 0), .t (i64 0)]), .row 3 1 []]⟩
theorem iter_find {α : Type} {B : St → Res (Ex × St)} {S : Nat → St} {R : α → St} {X : St} {id : Nat} (q : α → Bool) (l : List α) {n : Nat} (hn : l.length < n)
    (h : ∀ j x, l[j]? = some x → B (S j) = bif q x then .ok (.ret, R x) else .ok (.norm, S (j + 1))) (hx : B (S l.length) = .ok (.exit id, X)) :
    iterR B n (S 0) = match l.find? q with | some x => .ok (.ret, R x) | none => .ok (.exit id, X) := by
  have main : ∀ (r p : List α) (n : Nat), l = p ++ r → r.length < n → iterR B n (S p.length) = match r.find? q with | some x => .ok (.ret, R x) | none => .ok (.exit id, X) := by
    intro r
    induction r with
    | nil =>
      intro p n hp hn
      obtain ⟨n, rfl⟩ : ∃ m, n = m + 1 := ⟨n - 1, by omega⟩
      have : p.length = l.length := by rw [hp]; simp
      rw [this, iterR_exit hx]; rfl
    | cons x r ih =>
      intro p n hp hn
      obtain ⟨n, rfl⟩ : ∃ m, n = m + 1 := ⟨n - 1, by omega⟩
      have hs := h p.length x (by rw [hp]; simp)
      cases hq : q x with
      | true => rw [hq, cond_true] at hs; rw [iterR_ret hs, List.find?_cons_of_pos hq]
      | false =>
        rw [hq, cond_false] at hs
        have := ih (p ++ [x]) n (by rw [hp]; simp) (by simp at hn; omega)
        rw [List.length_append] at this
        rw [iterR_step hs, List.find?_cons_of_neg (by simp [hq])]; exact this
  exact main l [] n rfl hn
theorem f20_ok {M : Nat} {l : List En} {x : Px} (hM : big + 9 ≤ M) (hl : l.length ≤ big) (hs : ∀ e ∈ l, e.ok) (hx : x.ok) :
    callP env (M + 1) 20 [.sl 6 (l.map En.t), x.t] = .ok (.tup [((getE l x).getD Pa.none).t, .bool (getE l x).isSome]) := by
  obtain ⟨m, rfl⟩ : ∃ m, M = m + 1 := ⟨M - 1, by omega⟩
  have hw := wfs2 (wf_sl (k := 6) hl fun e he => (hs e he).wf) hx.wf
  have h45 := f45_ok (M := m) (l := l) (by omega) hl hs
  have hkl := known_len l
  simp only [Px.t] at hw ⊢
  rw [e20, hw, h45]
  simp only [cond_true, Res.bind_ok, loopL]
  have := iter_find (B := bodyL env (m + 1) 20 0 3) (S := S20 (known l) x) (R := fun e => ⟨slots 29 [(4, .ptr 0 0), (5, .t (.bool true))], [.box 43 4 (.t e.p.t)]⟩) (X := ⟨slots 29 [(4, .ptr 0 0)], [.box 43 4 (.agg [.t (i64 0), .own 1, .t (i64 0), .t (i64 0)]), .row 3 1 []]⟩) (id := 0)
    (fun e => eqPx e.x x) (known l) (n := m + 1) (by omega)
    (fun j e he => by
      have hj : j < (known l).length := (List.getElem?_eq_some_iff.1 he).1
      unfold S20
      rw [b20_3, decide_eq_true (show (j : Int) < (((known l).map En.t).length : Int) by rw [List.length_map]; omega)]
      have c1 : T.cells (T.partD (En.t e) 0 2 true) = [i64 e.x.a, i64 e.x.n] := rfl
      simp only [cond_true, atT_get (map_get he), c1, eqLs_px, en_pa, pa_cells, List.length_cons, List.length_nil, wrap_succ (show j ≤ big by omega)]
      cases eqPx e.x x <;> rfl)
    (by unfold S20; rw [b20_3, decide_eq_false (by rw [List.length_map]; omega)]; simp only [cond_false])
  rw [show (⟨slots 29 [(3, .ptr 0 0), (4, .ptr 1 0), (6, .t (.sl 6 ((known l).map En.t))), (7, .t (i64 0))], [.box 35 2 (.t (.agg [i64 x.a, i64 x.n])), .box 43 4 (.agg [.t (i64 0), .own 2, .t (i64 0), .t (i64 0)]), .row 3 1 []]⟩ : St) = S20 (known l) x 0 from rfl, this]
  unfold getE
  cases (known l).find? fun e => eqPx e.x x with
  | none =>
    simp only [Res.bind_ok, t20_3_exit0]
    rfl
  | some e =>
    simp only [Res.bind_ok, t20_3_ret]
    rfl
end Go.Sim

/- The document's Apply and Diff, and the law on what is said. -/
namespace Go.Sim
open Go.RowKit Go.Proofs
set_option linter.unusedVariables false
set_option linter.unusedSimpArgs false
set_option maxRecDepth 100000

/-! ### drop, put -/
def S49 (l : List En) (x : Px) (ys : List En) (i : Nat) : St := ⟨slots 28 [(0, .t (.sl 6 (l.map En.t))), (3, .ptr 0 0), (5, .own 1), (6, .t (i64 (i : Int)))], [.box 35 2 (.t (.agg [i64 x.a, i64 x.n])), .row 64 6 (ys.map En.t)]⟩
def X49 (ys : List En) : St := ⟨slots 28 [(5, .own 0)], [.row 64 6 (ys.map En.t)]⟩
theorem f49_gen {M : Nat} {l : List En} {x : Px} (hM : big + 1 ≤ M) (hl : l.length ≤ 1000) (hs : ∀ e ∈ l, e.ok) (hx : x.ok) :
    callP env (M + 1) 49 [.sl 6 (l.map En.t), x.t] = .ok (.sl 6 ((l.filter fun e => !eqPx e.x x).map En.t)) := by
  have hbg := big_val
  have hw := wfs2 (wf_sl (k := 6) (show l.length ≤ big by omega) fun e he => (hs e he).wf) hx.wf
  simp only [Px.t] at hw ⊢
  rw [e49, hw]
  simp only [cond_true]
  have l1 := (iter_fold (B := bodyL env M 49 0 3) (S := fun ys i => S49 l x ys i) (X := X49) (id := 0) (fun ys j => ys.length ≤ j) (fun ys e => bif !eqPx e.x x then ys ++ [e] else ys) l (n := M) [] (by omega)
    (fun ys j e hx hI => by
      have hlt : j < l.length := (List.getElem?_eq_some_iff.1 hx).1
      refine ⟨?_, Nat.le_trans (pick_len (fun e : En => !eqPx e.x x) (fun e => e) ys e) (by omega)⟩
      unfold S49
      rw [b49_3, decide_eq_true (show (j : Int) < ((l.map En.t).length : Int) by rw [List.length_map]; omega)]
      have c1 : T.cells (T.partD (En.t e) 0 2 true) = [i64 e.x.a, i64 e.x.n] := rfl
      simp only [cond_true, atT_get (map_get hx), c1, eqLs_px, wrap_succ (show j ≤ big by omega)]
      cases eqPx e.x x with
      | true => rfl
      | false =>
        simp only [Bool.not_false, cond_true, chkAll, okE_en, chk, List.map_append, List.map_cons, List.map_nil]
        rw [decide_eq_true (show ((ys.map En.t).length + 1) * (63 + 1) ≤ big by rw [List.length_map]; omega)]
        rfl)
    (fun ys _ => by unfold S49 X49; rw [b49_3, decide_eq_false (by rw [List.length_map]; omega)]; simp only [cond_false]) (Nat.zero_le _)).1
  rw [foldl_pick (fun e : En => !eqPx e.x x) (fun e => e), List.nil_append, List.map_id'] at l1
  rw [show (⟨slots 28 [(0, .t (.sl 6 (l.map En.t))), (3, .ptr 0 0), (5, .own 1), (6, .t (i64 0))], [.box 35 2 (.t (.agg [i64 x.a, i64 x.n])), .row 64 6 []]⟩ : St) = S49 l x [] 0 from rfl]
  unfold loopL
  rw [l1, Res.bind_ok]
  show tailL env M 49 0 3 (outK env 49) (.exit 0) (X49 (l.filter fun e => !eqPx e.x x)) = _
  unfold X49
  rw [t49_3_exit0]
theorem drop_gone {l : List En} (h : Rise l) (x : Px) : l.filter (fun e => !eqPx e.x x) = goneE l x := by
  refine rise_ext (List.Pairwise.sublist List.filter_sublist h) (rise_gone h x) fun e => ?_
  rw [List.mem_filter, mem_gone h]
  have : (!eqPx e.x x) = true ↔ e.x ≠ x := by
    rw [Bool.not_eq_true', ← Bool.not_eq_true, eqPx_iff]
  rw [this]
theorem f49_ok {M : Nat} {l : List En} {x : Px} (hM : big + 1 ≤ M) (hl : l.length ≤ 1000) (hs : ∀ e ∈ l, e.ok) (hx : x.ok) (hr : Rise l) :
    callP env (M + 1) 49 [.sl 6 (l.map En.t), x.t] = .ok (.sl 6 ((goneE l x).map En.t)) := by rw [f49_gen hM hl hs hx, drop_gone hr]

def putF (e : En) (b : List En × Bool) (y : En) : List En × Bool := bif !b.2 && decide (cmpP e.x y.x < 0) then (b.1 ++ [e] ++ [y], true) else (b.1 ++ [y], b.2)
def insR (e : En) : List En → List En
  | [] => [e]
  | y :: r => bif decide (cmpP e.x y.x < 0) then e :: y :: r else y :: insR e r
theorem putF_true (e : En) : ∀ (l acc : List En), l.foldl (putF e) (acc, true) = (acc ++ l, true)
  | [], acc => by simp
  | y :: l, acc => by
    rw [List.foldl_cons, show putF e (acc, true) y = (acc ++ [y], true) from rfl, putF_true e l]
    simp
theorem putF_end (e : En) : ∀ (l acc : List En), (bif !(l.foldl (putF e) (acc, false)).2 then (l.foldl (putF e) (acc, false)).1 ++ [e] else (l.foldl (putF e) (acc, false)).1) = acc ++ insR e l
  | [], acc => by simp [insR]
  | y :: l, acc => by
    rw [List.foldl_cons]
    unfold putF insR
    cases hc : decide (cmpP e.x y.x < 0) with
    | true =>
      simp only [Bool.not_false, Bool.and_self, cond_true]
      have := putF_true e l (acc ++ [e] ++ [y])
      unfold putF at this
      rw [this]
      simp
    | false =>
      simp only [Bool.not_false, Bool.and_false, cond_false]
      have := putF_end e l (acc ++ [y])
      unfold putF at this
      rw [this]
      simp
theorem mem_insR {e f : En} : ∀ {l : List En}, f ∈ insR e l ↔ f = e ∨ f ∈ l
  | [] => by simp [insR]
  | y :: l => by
    unfold insR
    cases decide (cmpP e.x y.x < 0) with
    | true => simp
    | false =>
      simp only [cond_false, List.mem_cons, mem_insR (l := l)]
      constructor
      · rintro (h | h | h)
        · exact .inr (.inl h)
        · exact .inl h
        · exact .inr (.inr h)
      · rintro (h | h | h)
        · exact .inr (.inl h)
        · exact .inl h
        · exact .inr (.inr h)
theorem rise_insR {e : En} : ∀ {l : List En}, Rise l → (∀ y ∈ l, y.x ≠ e.x) → Rise (insR e l)
  | [], _, _ => List.pairwise_cons.2 ⟨fun _ h => (by cases h), List.Pairwise.nil⟩
  | y :: l, h, hn => by
    obtain ⟨h1, h2⟩ := List.pairwise_cons.1 h
    unfold insR
    cases hc : decide (cmpP e.x y.x < 0) with
    | true =>
      have hlt := cmpP_lt.1 (of_decide_eq_true hc)
      exact List.pairwise_cons.2 ⟨fun z hz => (List.mem_cons.1 hz).elim (fun q => q ▸ hlt) fun q => ltP_trans hlt (h1 z q), h⟩
    | false =>
      have hge : ¬ ltP e.x y.x := fun q => of_decide_eq_false hc (cmpP_lt.2 q)
      have hlt : ltP y.x e.x := Classical.byContradiction fun q => hn y List.mem_cons_self (ltP_total q hge)
      refine List.pairwise_cons.2 ⟨fun z hz => ?_, rise_insR h2 fun z hz => hn z (List.mem_cons_of_mem _ hz)⟩
      rcases mem_insR.1 hz with rfl | hz
      · exact hlt
      · exact h1 z hz
theorem put_new {p : Pa} {l : List En} {x : Px} (h : Rise l) (h1 : psane x = true) (h2 : asane p = true) : insR ⟨x, p⟩ (goneE l x) = newE p l x := by
  refine rise_ext (rise_insR (rise_gone h x) fun y hy => ((mem_gone h).1 hy).2) (rise_new h) fun e => ?_
  rw [mem_insR, mem_gone h, mem_new h]
  simp only [h1, h2, true_and]
def S52 (l : List En) (e : En) (b : List En × Bool) (i : Nat) : St := ⟨slots 45 [(0, .t (.sl 6 (l.map En.t))), (3, .ptr 0 0), (5, .own 1), (6, .t (.bool b.2)), (7, .t (i64 (i : Int)))], [.box 64 6 (.t (.agg [i64 e.x.a, i64 e.x.n, i64 e.p.o, .sl 1 (ints e.p.s), i64 e.p.h, i64 e.p.c])), .row 64 6 (b.1.map En.t)]⟩
def X52 (e : En) (b : List En × Bool) : St := ⟨slots 45 [(3, .ptr 0 0), (5, .own 1), (6, .t (.bool b.2))], [.box 64 6 (.t (.agg [i64 e.x.a, i64 e.x.n, i64 e.p.o, .sl 1 (ints e.p.s), i64 e.p.h, i64 e.p.c])), .row 64 6 (b.1.map En.t)]⟩
theorem putF_len (e : En) (b : List En × Bool) (y : En) : (putF e b y).1.length ≤ b.1.length + 2 := by
  unfold putF; cases (!b.2 && decide (cmpP e.x y.x < 0)) <;> simp
theorem en_head (e : En) : T.agg (List.take 2 (List.drop 0 [i64 e.x.a, i64 e.x.n, i64 e.p.o, T.sl 1 (ints e.p.s), i64 e.p.h, i64 e.p.c])) = e.x.t := rfl
theorem en_agg (e : En) : T.agg [i64 e.x.a, i64 e.x.n, i64 e.p.o, T.sl 1 (ints e.p.s), i64 e.p.h, i64 e.p.c] = e.t := rfl
theorem b52_step {M : Nat} {l : List En} {e y : En} {b : List En × Bool} {j : Nat} (hx : l[j]? = some y) (hl : l.length ≤ 1000) (hI : b.1.length ≤ 2 * j) (he : e.ok) (hy : y.ok) :
    bodyL env (M + 1) 52 0 4 (S52 l e b j) = .ok (.norm, S52 l e (putF e b y) (j + 1)) := by
  have hbg := big_val
  have hlt : j < l.length := (List.getElem?_eq_some_iff.1 hx).1
  have hj : j ≤ big := by omega
  have h58 := f58_ok (M := M) he.x hy.x
  unfold S52
  rw [b52_4, decide_eq_true (show (j : Int) < ((l.map En.t).length : Int) by rw [List.length_map]; omega)]
  have d1 : decide (((b.1.map En.t).length + 1) * (63 + 1) ≤ big) = true := decide_eq_true (by rw [List.length_map]; omega)
  have d2 : decide (((b.1.map En.t ++ [T.agg [i64 e.x.a, i64 e.x.n, i64 e.p.o, T.sl 1 (ints e.p.s), i64 e.p.h, i64 e.p.c]]).length + 1) * (63 + 1) ≤ big) = true := decide_eq_true (by rw [List.length_append, List.length_map]; simp; omega)
  rw [d1, d2]
  simp only [cond_true, atT_get (map_get hx), en_px, en_head, en_agg]
  rw [h58]
  simp only [Res.bind_ok, iT_int, chkAll, okE_en, chk, cond_true, wrap_succ hj]
  unfold putF
  obtain ⟨ys, d⟩ := b
  cases d with
  | true => simp only [Bool.not_true, cond_false, cond_true, Bool.false_and, List.map_append, List.map_cons, List.map_nil]
  | false =>
    cases decide (cmpP e.x y.x < 0) with
    | true => simp only [Bool.not_false, cond_true, Bool.and_self, List.map_append, List.map_cons, List.map_nil]
    | false => simp only [Bool.not_false, cond_true, cond_false, Bool.and_false, List.map_append, List.map_cons, List.map_nil]
theorem f52_ok {M : Nat} {l : List En} {e : En} (hM : big + 5 ≤ M) (hl : l.length ≤ 1000) (hs : ∀ e ∈ l, e.ok) (he : e.ok) :
    callP env (M + 1) 52 [.sl 6 (l.map En.t), e.t] = .ok (.sl 6 ((insR e l).map En.t)) := by
  have hbg := big_val
  obtain ⟨m, rfl⟩ : ∃ m, M = m + 1 := ⟨M - 1, by omega⟩
  have hw := wfs2 (wf_sl (k := 6) (show l.length ≤ big by omega) fun e he => (hs e he).wf) he.wf
  simp only [En.t] at hw ⊢
  rw [e52]
  have hw' : T.wfs [T.sl 6 (l.map En.t), T.agg [i64 e.x.a, i64 e.x.n, i64 e.p.o, T.sl 1 (ints e.p.s), i64 e.p.h, i64 e.p.c]] = true := hw
  rw [hw']
  simp only [cond_true]
  have l1 := iter_fold (B := bodyL env (m + 1) 52 0 4) (S := fun b i => S52 l e b i) (X := X52 e) (id := 0) (fun b j => b.1.length ≤ 2 * j) (putF e) l (n := m + 1) ([], false) (by omega)
    (fun b j y hx hI => ⟨b52_step hx hl hI he (hs y (List.mem_of_getElem? hx)), Nat.le_trans (putF_len e b y) (by omega)⟩)
    (fun b _ => by unfold S52 X52; rw [b52_4, decide_eq_false (by rw [List.length_map]; omega)]; simp only [cond_false]) (Nat.zero_le _)
  rw [show (⟨slots 45 [(0, .t (.sl 6 (l.map En.t))), (3, .ptr 0 0), (5, .own 1), (6, .t (.bool false)), (7, .t (i64 0))], [.box 64 6 (.t (.agg [i64 e.x.a, i64 e.x.n, i64 e.p.o, .sl 1 (ints e.p.s), i64 e.p.h, i64 e.p.c])), .row 64 6 []]⟩ : St) = S52 l e ([], false) 0 from rfl]
  unfold loopL
  rw [l1.1, Res.bind_ok]
  show tailL env (m + 1) 52 0 4 (outK env 52) (.exit 0) (X52 e (l.foldl (putF e) ([], false))) = _
  have hend := putF_end e l []
  rw [List.nil_append] at hend
  have hlen := l1.2
  generalize l.foldl (putF e) ([], false) = b at hend hlen
  unfold X52
  rw [t52_4_exit0, ← hend]
  have d1 : decide (((b.1.map En.t).length + 1) * (63 + 1) ≤ big) = true := decide_eq_true (by rw [List.length_map]; omega)
  rw [d1]
  simp only [en_agg, chkAll, okE_en, chk, cond_true]
  obtain ⟨ys, d⟩ := b
  cases d with
  | true => rfl
  | false => simp only [Bool.not_false, cond_true, List.map_append, List.map_cons, List.map_nil]
end Go.Sim

/- The document's Apply and Diff; the law of layer 18 on what is said. -/
namespace Go.Sim
open Go.RowKit Go.Proofs
set_option linter.unusedVariables false
set_option linter.unusedSimpArgs false
set_option maxRecDepth 100000

/-! ### Apply -/
def S22a (l : List En) (n : Nw) (k : Int) (i : Nat) : St := ⟨slots 66 [(2, .t (i64 k)), (4, .ptr 0 0), (8, .t (.sl 6 (l.map En.t))), (9, .t (i64 (i : Int)))], [hN n]⟩
def X22a (l : List En) (n : Nw) (k : Int) : St := ⟨slots 66 [(2, .t (i64 k)), (4, .ptr 0 0), (8, .t (.sl 6 (l.map En.t)))], [hN n]⟩
def S22b (l : List En) (n : Nw) (k : Int) (i : Nat) : St := ⟨slots 66 [(2, .t (i64 k)), (4, .ptr 0 0), (8, .t (.sl 6 (l.map En.t))), (10, .t (i64 (i : Int)))], [hN n]⟩
def X22b (l : List En) (k : Int) : St := ⟨slots 66 [(2, .t (i64 k)), (8, .t (.sl 6 (l.map En.t)))], []⟩
def tab (l : List En) (j : Nat) : Prop := Rise l ∧ (∀ e ∈ l, e.ok) ∧ l.length ≤ 100 + j
theorem b22a {M : Nat} {l : List En} {n : Nw} {k : Int} {x : Px} (hM : big + 9 ≤ M) {j : Nat} (hx : n.g[j]? = some x) (hg : n.g.length ≤ 40) (hn : n.ok) (hI : tab l 0) :
    bodyL env (M + 1) 22 0 3 (S22a l n k j) = .ok (.norm, S22a (goneE l x) n k (j + 1)) := by
  obtain ⟨h1, h2, h3⟩ := hI
  have hbg := big_val
  have hlt : j < n.g.length := (List.getElem?_eq_some_iff.1 hx).1
  have hxo := hn.g x (List.mem_of_getElem? hx)
  have hj : j ≤ big := by omega
  unfold S22a hN
  rw [b22_3, decide_eq_true (show (j : Int) < ((n.g.map Px.t).length : Int) by rw [List.length_map]; omega)]
  simp only [cond_true, atT_get (map_get hx)]
  rw [f49_ok (by omega) (by omega) h2 hxo h1]
  simp only [Res.bind_ok, wrap_succ hj]
theorem b22a_exit {M : Nat} {l : List En} {n : Nw} {k : Int} : bodyL env (M + 1) 22 0 3 (S22a l n k n.g.length) = .ok (.exit 0, X22a l n k) := by
  unfold S22a X22a hN
  rw [b22_3, decide_eq_false (by rw [List.length_map]; omega)]
  simp only [cond_false]
theorem b22b {M : Nat} {l : List En} {n : Nw} {k : Int} {x : Px} (hM : big + 9 ≤ M) {j : Nat} (hx : n.m[j]? = some x) (hg : n.m.length ≤ 40) (hn : n.ok) (hI : tab l j) :
    bodyL env (M + 1) 22 0 7 (S22b l n k j) = .ok (.norm, S22b (newE n.p l x) n k (j + 1)) := by
  obtain ⟨h1, h2, h3⟩ := hI
  have hbg := big_val
  have hlt : j < n.m.length := (List.getElem?_eq_some_iff.1 hx).1
  have hxo := hn.m x (List.mem_of_getElem? hx)
  have hj : j ≤ big := by omega
  have hgl := goneE_len l x
  have h50 := f50_ok (M := M) (x := x) (by omega) hxo
  have h51 := f51_ok (M := M) (p := n.p) (by omega) hn.p
  have h49 := f49_ok (M := M) (l := l) (x := x) (by omega) (by omega) h2 hxo h1
  have h52 := f52_ok (M := M) (l := goneE l x) (e := ⟨x, n.p⟩) (by omega) (by omega) (goneE_ok h2) ⟨hxo, hn.p⟩
  have c1 : T.cells (Px.t x) = [i64 x.a, i64 x.n] := rfl
  have c2 : T.isTup (Px.t x) = false := rfl
  have c3 : T.agg [T.cell (Px.t x) 0, T.cell (Px.t x) 1, i64 n.p.o, T.sl 1 (ints n.p.s), i64 n.p.h, i64 n.p.c] = En.t ⟨x, n.p⟩ := rfl
  have hnot : (psane x && asane n.p) = false → newE n.p l x = l := fun h => by unfold newE; rw [h]; rfl
  unfold S22b hN
  rw [b22_7, decide_eq_true (show (j : Int) < ((n.m.map Px.t).length : Int) by rw [List.length_map]; omega)]
  simp only [cond_true, atT_get (map_get hx)]
  rw [h50, pa_part, h51]
  simp only [Res.bind_ok, bT_bool, wrap_succ hj]
  cases h4 : psane x with
  | false => rw [hnot (by rw [h4]; rfl)]; simp only [cond_false]
  | true =>
  cases h5 : asane n.p with
  | false => rw [hnot (by rw [h4, h5]; rfl)]; simp only [cond_false, cond_true]
  | true =>
    simp only [cond_true]
    rw [h49]
    simp only [Res.bind_ok, c1, c2, List.length_cons, List.length_nil]
    rw [c3, h52, put_new h1 h4 h5]
    rfl
theorem b22b_exit {M : Nat} {l : List En} {n : Nw} {k : Int} : bodyL env (M + 1) 22 0 7 (S22b l n k n.m.length) = .ok (.exit 2, X22b l k) := by
  unfold S22b X22b hN
  rw [b22_7, decide_eq_false (by rw [List.length_map]; omega)]
  simp only [cond_false]
theorem f22_ok {M : Nat} {t : List En} {n : Nw} {k : Int} (hM : big + 20 ≤ M) (hl : t.length ≤ 100) (hs : ∀ e ∈ t, e.ok) (hn : n.ok) (hg : n.g.length ≤ 40) (hm : n.m.length ≤ 40) (hk : ok64 k = true) :
    callP env (M + 1) 22 [.sl 6 (t.map En.t), n.t, i64 k] = .ok (bif decide (((applyE t n).length : Int) > k) then .tup [.sl 6 [], .bool false] else .tup [.sl 6 ((applyE t n).map En.t), .bool true]) := by
  have hbg := big_val
  obtain ⟨m, rfl⟩ : ∃ m, M = m + 1 := ⟨M - 1, by omega⟩
  have hw := wfs3 (wf_sl (k := 6) (show t.length ≤ big by omega) fun e he => (hs e he).wf) hn.wf (wf_int hk)
  have h45 := f45_ok (M := m) (l := t) (by omega) (by omega) hs
  have hkl := known_len t
  have hks : ∀ e ∈ known t, e.ok := fun e he => hs e (known_sub he)
  simp only [Nw.t] at hw ⊢
  rw [e22, hw, h45]
  simp only [cond_true, Res.bind_ok]
  have l1 := iter_fold (B := bodyL env (m + 1) 22 0 3) (S := fun l i => S22a l n k i) (X := fun l => X22a l n k) (id := 0) (fun l _ => tab l 0) goneE n.g (n := m + 1) (known t) (by omega)
    (fun l j x hx hI => ⟨b22a (by omega) hx hg hn hI, rise_gone hI.1 x, goneE_ok hI.2.1, Nat.le_trans (goneE_len l x) hI.2.2⟩)
    (fun l _ => b22a_exit) ⟨rise_known t, hks, by omega⟩
  rw [show (⟨slots 66 [(2, .t (i64 k)), (4, .ptr 0 0), (8, .t (.sl 6 ((known t).map En.t))), (9, .t (i64 0))], [.box 45 6 (.t (.agg [.sl 2 (n.g.map Px.t), i64 n.p.o, .sl 1 (ints n.p.s), i64 n.p.h, i64 n.p.c, .sl 2 (n.m.map Px.t)]))]⟩ : St) = S22a (known t) n k 0 from rfl]
  unfold loopL
  rw [l1.1, Res.bind_ok]
  show tailL env (m + 1) 22 0 3 (outK env 22) (.exit 0) (X22a (n.g.foldl goneE (known t)) n k) = _
  have l2 := iter_fold (B := bodyL env (m + 1) 22 0 7) (S := fun l i => S22b l n k i) (X := fun l => X22b l k) (id := 2) tab (newE n.p) n.m (n := m + 1) (n.g.foldl goneE (known t)) (by omega)
    (fun l j x hx hI => ⟨b22b (by omega) hx hm hn hI, rise_new hI.1, newE_ok hI.2.1 hn.p (hn.m x (List.mem_of_getElem? hx)), Nat.le_trans (newE_len n.p l x) (by have := hI.2.2; omega)⟩)
    (fun l _ => b22b_exit) l1.2
  unfold X22a hN
  rw [t22_3_exit0]
  rw [show (⟨slots 66 [(2, .t (i64 k)), (4, .ptr 0 0), (8, .t (.sl 6 ((n.g.foldl goneE (known t)).map En.t))), (10, .t (i64 0))], [.box 45 6 (.t (.agg [.sl 2 (n.g.map Px.t), i64 n.p.o, .sl 1 (ints n.p.s), i64 n.p.h, i64 n.p.c, .sl 2 (n.m.map Px.t)]))]⟩ : St) = S22b (n.g.foldl goneE (known t)) n k 0 from rfl]
  unfold loopL
  rw [l2.1, Res.bind_ok]
  show tailL env (m + 1) 22 0 7 (outK env 22) (.exit 2) (X22b (applyE t n) k) = _
  unfold X22b
  rw [t22_7_exit2, List.length_map]
  cases decide (((applyE t n).length : Int) > k) <;> rfl

/-! ### Same, of places; Diff -/
def S27 (l l' : List Px) (i : Nat) : St := ⟨slots 26 [(0, .t (.sl 2 (l.map Px.t))), (1, .t (.sl 2 (l'.map Px.t))), (5, .t (i64 (i : Int)))], []⟩
theorem f27_same {M : Nat} {l : List Px} (hM : big + 1 ≤ M) (hl : l.length ≤ big) (hs : ∀ x ∈ l, x.ok) : callP env (M + 1) 27 [.sl 2 (l.map Px.t), .sl 2 (l.map Px.t)] = .ok (.bool true) := by
  have hw := wfs2 (wf_sl (k := 2) hl fun e he => (hs e he).wf) (wf_sl (k := 2) hl fun e he => (hs e he).wf)
  rw [e27, hw]
  simp only [cond_true, bne_self_eq_false, cond_false]
  have l1 := iter_any (B := bodyL env M 27 0 4) (S := S27 l l) (R := ⟨slots 26 [(4, .t (.bool false))], []⟩) (X := ⟨slots 26 [], []⟩) (id := 0) (fun _ => false) l (n := M) (by omega)
    (fun j x hx => by
      have hlt : j < l.length := (List.getElem?_eq_some_iff.1 hx).1
      unfold S27
      rw [b27_4, decide_eq_true (show (j : Int) < ((l.map Px.t).length : Int) by rw [List.length_map]; omega)]
      have c1 : T.cells (Px.t x) = [i64 x.a, i64 x.n] := rfl
      simp only [cond_true, atT_get (map_get hx), c1, eqLs_px, eqPx_iff.2 rfl, wrap_succ (show j ≤ big by omega), Bool.not_true, cond_false])
    (by unfold S27; rw [b27_4, decide_eq_false (by rw [List.length_map]; omega)]; simp only [cond_false])
  rw [any_none, cond_false] at l1
  rw [show (⟨slots 26 [(0, .t (.sl 2 (l.map Px.t))), (1, .t (.sl 2 (l.map Px.t))), (5, .t (i64 0))], []⟩ : St) = S27 l l 0 from rfl]
  unfold loopL
  rw [l1, Res.bind_ok]
  exact t27_4_exit0 M
def S24a (x y : List En) (gs : List Px) (i : Nat) : St := ⟨slots 83 [(6, .t (.sl 6 (x.map En.t))), (7, .t (.sl 6 (y.map En.t))), (8, .own 0), (9, .own 1), (10, .t (i64 (i : Int)))], [.row 35 2 (gs.map Px.t), .row 64 6 []]⟩
def X24a (x y : List En) (gs : List Px) : St := ⟨slots 83 [(6, .t (.sl 6 (x.map En.t))), (7, .t (.sl 6 (y.map En.t))), (8, .own 0), (9, .own 1)], [.row 35 2 (gs.map Px.t), .row 64 6 []]⟩
def S24b (x y : List En) (gs : List Px) (ms : List En) (i : Nat) : St := ⟨slots 83 [(6, .t (.sl 6 (x.map En.t))), (7, .t (.sl 6 (y.map En.t))), (8, .own 0), (9, .own 1), (13, .t (i64 (i : Int)))], [.row 35 2 (gs.map Px.t), .row 64 6 (ms.map En.t)]⟩
def X24b (gs : List Px) (ms : List En) : St := ⟨slots 83 [(8, .own 0), (9, .own 1)], [.row 35 2 (gs.map Px.t), .row 64 6 (ms.map En.t)]⟩
theorem known_known (l : List En) : known (known l) = known l := by
  cases h : tsane l with
  | true => rw [known_sane h, known_sane h]
  | false => unfold known; rw [h]; rfl
theorem getE_known (l : List En) (x : Px) : getE (known l) x = getE l x := by unfold getE; rw [known_known]
theorem b24a {m : Nat} {a b : List En} {gs : List Px} {j : Nat} {e : En} (hM : big + 20 ≤ m) (hx : (known a)[j]? = some e) (hj : j ≤ 1000) (hg : gs.length ≤ 1000) (he : e.ok) (hb : b.length ≤ 1000) (hs : ∀ e ∈ b, e.ok) :
    bodyL env (m + 1) 24 0 6 (S24a (known a) (known b) gs j) = .ok (.norm, S24a (known a) (known b) (bif !(getE b e.x).isSome then gs ++ [e.x] else gs) (j + 1)) := by
  have hbg := big_val
  have hlt : j < (known a).length := (List.getElem?_eq_some_iff.1 hx).1
  have hkl := known_len b
  have h20 := f20_ok (M := m) (l := known b) (x := e.x) (by omega) (by omega) (fun f hf => hs f (known_sub hf)) he.x
  rw [getE_known] at h20
  unfold S24a
  rw [b24_6, decide_eq_true (show (j : Int) < (((known a).map En.t).length : Int) by rw [List.length_map]; omega)]
  simp only [cond_true, atT_get (map_get hx), en_px]
  rw [h20]
  simp only [Res.bind_ok, compT, List.getElem?_cons_zero, List.getElem?_cons_succ, bT_bool, pa_cells, pa_tup, List.length_cons, List.length_nil, wrap_succ (show j ≤ big by omega)]
  cases h : (getE b e.x).isSome with
  | true => rfl
  | false =>
    simp only [Bool.not_false, cond_true, chkAll, okE_px, List.map_append, List.map_cons, List.map_nil]
    rw [decide_eq_true (show ((gs.map Px.t).length + 1) * (15 + 1) ≤ big by rw [List.length_map]; omega)]
    rfl
theorem b24a_exit {m : Nat} {a b : List En} {gs : List Px} : bodyL env (m + 1) 24 0 6 (S24a a b gs a.length) = .ok (.exit 0, X24a a b gs) := by
  unfold S24a X24a
  rw [b24_6, decide_eq_false (by rw [List.length_map]; omega)]
  simp only [cond_false]
theorem eqPa_same (p q : Pa) : eqPa p q = samePa p q := by rw [Bool.eq_iff_iff, eqPa_iff, samePa_iff]
theorem b24b {m : Nat} {a b : List En} {gs : List Px} {ms : List En} {j : Nat} {e : En} (hM : big + 20 ≤ m) (hx : (known b)[j]? = some e) (hj : j ≤ 1000) (hg : ms.length ≤ 1000) (he : e.ok) (hb : a.length ≤ 1000) (hs : ∀ e ∈ a, e.ok) :
    bodyL env (m + 1) 24 0 12 (S24b (known a) (known b) gs ms j) = .ok (.norm, S24b (known a) (known b) gs (bif unlike a e then ms ++ [e] else ms) (j + 1)) := by
  have hbg := big_val
  have hlt : j < (known b).length := (List.getElem?_eq_some_iff.1 hx).1
  have hkl := known_len a
  have h20 := f20_ok (M := m) (l := known a) (x := e.x) (by omega) (by omega) (fun f hf => hs f (known_sub hf)) he.x
  rw [getE_known] at h20
  have h25 := f25_ok (M := m) (p := (getE a e.x).getD Pa.none) (q := e.p) (by omega) (get_ok hs) he.p
  have hd := decide_eq_true (show ((ms.map En.t).length + 1) * (63 + 1) ≤ big by rw [List.length_map]; omega)
  unfold S24b
  rw [b24_12, decide_eq_true (show (j : Int) < (((known b).map En.t).length : Int) by rw [List.length_map]; omega)]
  simp only [cond_true, atT_get (map_get hx), en_px, en_pa]
  rw [h20]
  simp only [Res.bind_ok, compT, List.getElem?_cons_zero, List.getElem?_cons_succ, bT_bool, pa_cells, pa_tup, List.length_cons, List.length_nil, wrap_succ (show j ≤ big by omega)]
  rw [h25]
  unfold unlike
  rw [eqPa_same]
  simp only [Res.bind_ok, bT_bool]
  cases h : (getE a e.x).isSome with
  | false =>
    simp only [Bool.not_false, cond_true, chkAll, okE_en, List.map_append, List.map_cons, List.map_nil]
    rw [hd]; rfl
  | true =>
    cases samePa ((getE a e.x).getD Pa.none) e.p with
    | true => rfl
    | false =>
      simp only [Bool.not_false, Bool.not_true, cond_true, cond_false, chkAll, okE_en, List.map_append, List.map_cons, List.map_nil]
      rw [hd]; rfl
theorem b24b_exit {m : Nat} {a b : List En} {gs : List Px} {ms : List En} : bodyL env (m + 1) 24 0 12 (S24b a b gs ms b.length) = .ok (.exit 2, X24b gs ms) := by
  unfold S24b X24b
  rw [b24_12, decide_eq_false (by rw [List.length_map]; omega)]
  simp only [cond_false]
theorem f24_ok {M : Nat} {a b : List En} (hM : big + 40 ≤ M) (ha : a.length ≤ 900) (hb : b.length ≤ 900) (hs : ∀ e ∈ a, e.ok) (hs' : ∀ e ∈ b, e.ok) :
    callP env (M + 1) 24 [.sl 6 (a.map En.t), .sl 6 (b.map En.t)] = .ok (.tup [.sl 2 ((goneD a b).map Px.t), .sl 6 ((moreD a b).map En.t)]) := by
  have hbg := big_val
  obtain ⟨m, rfl⟩ : ∃ m, M = m + 1 := ⟨M - 1, by omega⟩
  have hw := wfs2 (wf_sl (k := 6) (show a.length ≤ big by omega) fun e he => (hs e he).wf) (wf_sl (k := 6) (show b.length ≤ big by omega) fun e he => (hs' e he).wf)
  have h1 := f45_ok (M := m) (l := a) (by omega) (by omega) hs
  have h2 := f45_ok (M := m) (l := b) (by omega) (by omega) hs'
  have k1 := known_len a
  have k2 := known_len b
  rw [e24, hw, h1, h2]
  simp only [cond_true, Res.bind_ok]
  have l1 := (iter_fold (B := bodyL env (m + 1) 24 0 6) (S := fun gs i => S24a (known a) (known b) gs i) (X := fun gs => X24a (known a) (known b) gs) (id := 0) (fun gs j => gs.length ≤ j) (fun gs e => bif !(getE b e.x).isSome then gs ++ [e.x] else gs) (known a) (n := m + 1) [] (by omega)
    (fun gs j e hx hI => by
      have hlt : j < (known a).length := (List.getElem?_eq_some_iff.1 hx).1
      refine ⟨b24a (by omega) hx (by omega) (by omega) (hs _ (known_sub (List.mem_of_getElem? hx))) (by omega) hs', ?_⟩
      exact Nat.le_trans (pick_len (fun e : En => !(getE b e.x).isSome) (·.x) gs e) (by omega)) (fun gs _ => b24a_exit) (Nat.zero_le _)).1
  rw [foldl_pick (fun e : En => !(getE b e.x).isSome) (·.x), List.nil_append] at l1
  rw [show (⟨slots 83 [(6, .t (.sl 6 ((known a).map En.t))), (7, .t (.sl 6 ((known b).map En.t))), (8, .own 0), (9, .own 1), (10, .t (i64 0))], [.row 35 2 [], .row 64 6 []]⟩ : St) = S24a (known a) (known b) [] 0 from rfl]
  unfold loopL
  rw [l1, Res.bind_ok]
  show tailL env (m + 1) 24 0 6 (outK env 24) (.exit 0) (X24a (known a) (known b) (goneD a b)) = _
  unfold X24a
  rw [t24_6_exit0]
  have l2 := (iter_fold (B := bodyL env (m + 1) 24 0 12) (S := fun ms i => S24b (known a) (known b) (goneD a b) ms i) (X := fun ms => X24b (goneD a b) ms) (id := 2) (fun ms j => ms.length ≤ j) (fun ms e => bif unlike a e then ms ++ [e] else ms) (known b) (n := m + 1) [] (by omega)
    (fun ms j e hx hI => by
      have hlt : j < (known b).length := (List.getElem?_eq_some_iff.1 hx).1
      refine ⟨b24b (by omega) hx (by omega) (by omega) (hs' _ (known_sub (List.mem_of_getElem? hx))) (by omega) hs, ?_⟩
      exact Nat.le_trans (pick_len (unlike a) (fun e => e) ms e) (by omega)) (fun ms _ => b24b_exit) (Nat.zero_le _)).1
  rw [foldl_pick (unlike a) (fun e => e), List.nil_append, List.map_id'] at l2
  rw [show (⟨slots 83 [(6, .t (.sl 6 ((known a).map En.t))), (7, .t (.sl 6 ((known b).map En.t))), (8, .own 0), (9, .own 1), (13, .t (i64 0))], [.row 35 2 ((goneD a b).map Px.t), .row 64 6 []]⟩ : St) = S24b (known a) (known b) (goneD a b) [] 0 from rfl]
  unfold loopL
  rw [l2, Res.bind_ok]
  show tailL env (m + 1) 24 0 12 (outK env 24) (.exit 2) (X24b (goneD a b) (moreD a b)) = _
  unfold X24b
  rw [t24_12_exit2]

/-! ### the law -/
theorem f5_ok {M : Nat} {a b : List En} {n : Nw} {x : Px} {c : Int} (hM : big + 90 ≤ M) (hl : a.length ≤ big) (hl' : b.length ≤ big) (hs : ∀ e ∈ a, e.ok) (hs' : ∀ e ∈ b, e.ok) (hn : n.ok) (hx : x.ok) (hc : ok64 c = true) :
    callP env (M + 1) 5 [.sl 6 (a.map En.t), .sl 6 (b.map En.t), n.t, x.t, i64 c] = .ok (.bool true) := by
  have hbg := big_val
  obtain ⟨k, rfl⟩ : ∃ k, M = k + 1 := ⟨M - 1, by omega⟩
  have hw : T.wfs [.sl 6 (a.map En.t), .sl 6 (b.map En.t), n.t, x.t, i64 c] = true := by
    have h1 := wf_sl (k := 6) hl fun e he => (hs e he).wf
    have h2 := wf_sl (k := 6) hl' fun e he => (hs' e he).wf
    simp only [T.wfs, h1, h2, hn.wf, hx.wf, wf_int hc, Bool.and_self]
  obtain ⟨q, hq⟩ : ∃ q, k + 1 = q + 40 := ⟨k + 1 - 40, by omega⟩
  have h16 : callP env (k + 1) 16 [] = .ok (.bool true) := by rw [hq]; exact awake18 q
  have h17 := f17_ok (M := k) (l := a) (by omega) hl hs
  have h17' := f17_ok (M := k) (l := b) (by omega) hl' hs'
  have h18 := f18_ok (M := k) hn
  simp only [Nw.t, Px.t] at hw h18 ⊢
  rw [e5, hw, h16, h17, h17']
  simp only [cond_true, Res.bind_ok, bT_bool]
  cases hf : fewE a with
  | false => rfl
  | true =>
  cases hf' : fewE b with
  | false => rfl
  | true =>
  simp only [Bool.not_true, cond_false]
  rw [h18]
  simp only [Res.bind_ok, bT_bool]
  cases hfn : fewN n with
  | false => rfl
  | true =>
  simp only [Bool.not_true, cond_false]
  have k1 := few_len hf
  have k1' := few_len hf'
  have k2 := few_news hfn
  have hlen : (a.length + n.m.length + 1) * 64 ≤ big := by omega
  have g1 := f19_ok (M := k) (l := a) (x := x) (by omega) hl hs hx
  have g2 := f20_ok (M := k) (l := a) (x := x) (by omega) hl hs hx
  have g3 := f21_ok (M := k) (k := c) (by omega) hlen hs hn hc
  have g4 := f22_ok (M := k) (t := a) (k := c) (by omega) (by omega) hs hn k2.1 k2.2 hc
  have g5 := f23_ok (M := k) (a := a) (b := b) (by omega) (by omega) (by omega) hs hs'
  have g6 := f24_ok (M := k) (a := a) (b := b) (by omega) (by omega) (by omega) hs hs'
  have g7 := f25_ok (M := k) (p := (getE a x).getD Pa.none) (q := (getE a x).getD Pa.none) (by omega) (get_ok hs) (get_ok hs)
  have z1 := applyE_len a n
  have o1 := applyE_ok hs hn
  have g8 := f26_ok (M := k) (l := applyE a n) (l' := applyE a n) (by omega) (by omega) (by omega) o1 o1
  have g8' := f26_ok (M := k) (l := []) (l' := []) (by omega) (by simp) (by simp) (by simp) (by simp)
  have n1 : (goneD a b).length ≤ 40 := by
    have := List.length_filter_le (fun e => !(getE b e.x).isSome) (known a)
    have := known_len a
    unfold goneD; rw [List.length_map]; omega
  have n2 : (moreD a b).length ≤ 40 := by
    have := List.length_filter_le (unlike a) (known b)
    have := known_len b
    unfold moreD; omega
  have hgo : ∀ x ∈ goneD a b, x.ok := fun x hx => by
    obtain ⟨e, he, rfl⟩ := List.mem_map.1 hx
    exact (hs e (known_sub (List.mem_filter.1 he).1)).x
  have hmo : ∀ e ∈ moreD a b, e.ok := fun e he => hs' e (known_sub (List.mem_filter.1 he).1)
  have g9 := f27_same (M := k) (l := goneD a b) (by omega) (by omega) hgo
  have g10 := f26_ok (M := k) (l := moreD a b) (l' := moreD a b) (by omega) (by omega) (by omega) hmo hmo
  have g11 := f28_ok (M := k) (l := a) (by omega) hl hs
  have g12 := f29_ok (M := k) (l := a) (by omega) hl hs
  have g13 := f30_ok (M := k) (l := a) (l' := b) (by omega) hl hl' hs hs'
  have g14 := f26_ok (M := k) (l := a) (l' := b) (by omega) hl hl' hs hs'
  simp only [Nw.t, Px.t] at g1 g2 g3 g4
  rw [g1]
  simp only [Res.bind_ok, compT, List.getElem?_cons_zero, List.getElem?_cons_succ, pa_cells, pa_tup, List.length_cons, List.length_nil]
  rw [g2]
  simp only [Res.bind_ok, compT, List.getElem?_cons_zero, List.getElem?_cons_succ, pa_cells, pa_tup, List.length_cons, List.length_nil]
  rw [g3]
  rw [g4]
  have hend : ∀ (u : List T) (v : Bool), (u = [.sl 6 [], .bool v] ∨ u = [.sl 6 ((applyE a n).map En.t), .bool v]) → True := fun _ _ _ => trivial
  cases decide (((applyE a n).length : Int) > c) with
  | true =>
    simp only [cond_true, Res.bind_ok, compT, List.getElem?_cons_zero, List.getElem?_cons_succ]
    rw [g5]
    simp only [Res.bind_ok, compT, List.getElem?_cons_zero, List.getElem?_cons_succ]
    rw [g6]
    simp only [Res.bind_ok, compT, List.getElem?_cons_zero, List.getElem?_cons_succ, eqLs_bool, beq_self_eq_true, Bool.not_true, cond_false]
    rw [g7, samePa_refl]
    simp only [Res.bind_ok, bT_bool, Bool.not_true, cond_false]
    rw [show (T.sl 6 ([] : List T)) = .sl 6 (([] : List En).map En.t) from rfl, g8', sameE_refl]
    simp only [Res.bind_ok, bT_bool, Bool.not_true, cond_false]
    rw [g9]
    simp only [Res.bind_ok, bT_bool, Bool.not_true, cond_false]
    rw [g10, sameE_refl]
    simp only [Res.bind_ok, bT_bool, Bool.not_true, cond_false, cond_true]
    rw [g11, g12]
    simp only [Res.bind_ok, eqLs_bool, beq_self_eq_true, cond_true]
    rw [g13, g14]
    simp only [Res.bind_ok, eqLs_bool, beq_self_eq_true]
    rfl
  | false =>
    simp only [cond_false, Res.bind_ok, compT, List.getElem?_cons_zero, List.getElem?_cons_succ]
    rw [g5]
    simp only [Res.bind_ok, compT, List.getElem?_cons_zero, List.getElem?_cons_succ]
    rw [g6]
    simp only [Res.bind_ok, compT, List.getElem?_cons_zero, List.getElem?_cons_succ, eqLs_bool, beq_self_eq_true, Bool.not_true, cond_false]
    rw [g7, samePa_refl]
    simp only [Res.bind_ok, bT_bool, Bool.not_true, cond_false]
    rw [g8, sameE_refl]
    simp only [Res.bind_ok, bT_bool, Bool.not_true, cond_false]
    rw [g9]
    simp only [Res.bind_ok, bT_bool, Bool.not_true, cond_false]
    rw [g10, sameE_refl]
    simp only [Res.bind_ok, bT_bool, Bool.not_true, cond_false, cond_true]
    rw [g11, g12]
    simp only [Res.bind_ok, eqLs_bool, beq_self_eq_true, cond_true]
    rw [g13, g14]
    simp only [Res.bind_ok, eqLs_bool, beq_self_eq_true]
    rfl
end Go.Sim
