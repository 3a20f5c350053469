/- The texts of a proof, one behind the other: an interpreter and its soundness, what the functions of the program answer, and plain laws on that. -/
import Derived.Test.YtmidmdabmalhgaaL1
/- What calls come to: printed by a program of ours (wip/tools/eqs.py): laws of layer 18. -/
namespace Go.Sim
open Go.RowKit Go.Proofs
set_option linter.unusedVariables false
set_option maxRecDepth 100000

theorem t10_7_exit0 (N : Nat) (xs g g' m m' : List T) (o h c o' h' c' : Int) (s s' : List T) (u : T) : tailL env N 10 0 7 (outK env 10) (.exit 0) ⟨slots 100 [(0, .t (.sl 6 xs)), (4, .ptr 0 0), (5, .ptr 1 0), (7, .t u)], [.box 45 6 (.t (.agg [.sl 2 g, i64 o, .sl 1 s, i64 h, i64 c, .sl 2 m])), .box 45 6 (.t (.agg [.sl 2 g', i64 o', .sl 1 s', i64 h', i64 c', .sl 2 m']))]⟩ = Res.bind
  (callP env N 21
    [T.sl 6 xs, T.agg [T.sl 2 g, i64 o, T.sl 1 s, i64 h, i64 c, T.sl 2 m],
      i64 (1000)])
  fun x =>
  compT x 0 fun y =>
    compT x 1 fun y_1 =>
      Res.bind
        (callP env N 21
          [y, T.agg [T.sl 2 g', i64 o', T.sl 1 s', i64 h', i64 c', T.sl 2 m'],
            i64 (1000)])
        fun x =>
        compT x 0 fun y =>
          compT x 1 fun y_2 =>
            Res.bind
              (callP env N 21
                [T.sl 6 xs,
                  T.agg
                    [T.sl 2 g', i64 o', T.sl 1 s', i64 h', i64 c', T.sl 2 m'],
                  i64 (1000)])
              fun x =>
              compT x 0 fun y_3 =>
                compT x 1 fun y_4 =>
                  Res.bind
                    (callP env N 21
                      [y_3,
                        T.agg
                          [T.sl 2 g, i64 o, T.sl 1 s, i64 h, i64 c, T.sl 2 m],
                        i64 (1000)])
                    fun x =>
                    compT x 0 fun y_5 =>
                      compT x 1 fun y_6 =>
                        bT u fun b =>
                          bif b then
                            bT y_2 fun b =>
                              bif b then
                                bT y_6 fun b =>
                                  bif b then Res.bind (callP env N 26 [y, y_5]) fun x => Res.ok x
                                  else Res.ok (T.bool false)
                              else Res.ok (T.bool false)
                          else Res.ok (T.bool false) := by kernel_rfl
theorem t10_7_ret (N : Nat) (u : T) : tailL env N 10 0 7 (outK env 10) (.ret) ⟨slots 100 [(6, .t u)], []⟩ = Res.ok u := by kernel_rfl
theorem e9 (N : Nat) (xs g g' m m' : List T) (o h c o' h' c' : Int) (s s' : List T) : callP env (N + 1) 9 [.sl 6 xs, .agg [.sl 2 g, i64 o, .sl 1 s, i64 h, i64 c, .sl 2 m], .agg [.sl 2 g', i64 o', .sl 1 s', i64 h', i64 c', .sl 2 m']] = bif T.wfs [.sl 6 xs, .agg [.sl 2 g, i64 o, .sl 1 s, i64 h, i64 c, .sl 2 m], .agg [.sl 2 g', i64 o', .sl 1 s', i64 h', i64 c', .sl 2 m']] then (Res.bind (callP env N 16 []) fun x =>
  Res.bind (callP env N 17 [T.sl 6 xs]) fun x_1 =>
    bT x_1 fun b =>
      bif
          (!(b)) then
        Res.ok x
      else
        Res.bind
          (callP env N 18
            [T.agg [T.sl 2 g, i64 o, T.sl 1 s, i64 h, i64 c, T.sl 2 m]])
          fun x_2 =>
          bT x_2 fun b =>
            bif
                (!(b)) then
              Res.ok x
            else
              Res.bind
                (callP env N 18
                  [T.agg
                      [T.sl 2 g', i64 o', T.sl 1 s', i64 h', i64 c',
                        T.sl 2 m']])
                fun x_3 =>
                bT x_3 fun b =>
                  bif
                      (!(b)) then
                    Res.ok x
                  else
                    Res.bind
                      (callP env N 21
                        [T.sl 6 xs,
                          T.agg
                            [T.sl 2 g, i64 o, T.sl 1 s, i64 h, i64 c,
                              T.sl 2 m],
                          i64 (1000)])
                      fun x_4 =>
                      compT x_4 0 fun y =>
                        compT x_4 1 fun y_1 =>
                          Res.bind
                            (callP env N 21
                              [y,
                                T.agg
                                  [T.sl 2 g, i64 o, T.sl 1 s, i64 h, i64 c,
                                    T.sl 2 m],
                                i64 (1000)])
                            fun x_5 =>
                            compT x_5 0 fun y_2 =>
                              compT x_5 1 fun y_3 =>
                                Res.bind
                                  (callP env N 21
                                    [y_2,
                                      T.agg
                                        [T.sl 2 g', i64 o', T.sl 1 s', i64 h',
                                          i64 c', T.sl 2 m'],
                                      i64 (1000)])
                                  fun x_6 =>
                                  compT x_6 0 fun y_4 =>
                                    compT x_6 1 fun y_5 =>
                                      Res.bind (callP env N 26 [y, y_2]) fun x_7 =>
                                        bT x_7 fun b =>
                                          bif
                                              (!(b)) then
                                            Res.ok (T.bool false)
                                          else
                                            loopL env N 9 10
                                              {
                                                tmps :=
                                                  slots 126
                                                    [(5, PV.ptr 0 0), (7, PV.t x), (12, PV.t y_4),
                                                      (14, PV.t (i64 (0)))],
                                                heap :=
                                                  [AObj.box 45 6
                                                      (PV.t
                                                        (T.agg
                                                          [T.sl 2 g', i64 o', T.sl 1 s',
                                                            i64 h', i64 c', T.sl 2 m']))] }) else .absurd := by kernel_rfl
theorem b9_10 (N : Nat) (xs g' m' : List T) (o' h' c' : Int) (s' : List T) (u : T) (i : Nat) : bodyL env N 9 0 10 ⟨slots 126 [(5, .ptr 0 0), (7, .t u), (12, .t (.sl 6 xs)), (14, .t (i64 (i : Int)))], [.box 45 6 (.t (.agg [.sl 2 g', i64 o', .sl 1 s', i64 h', i64 c', .sl 2 m']))]⟩ = bif decide ((↑i : Int) < (↑(List.length g') : Int)) then
  atT g' (↑i : Int) fun e =>
    Res.bind (callP env N 19 [T.sl 6 xs, e]) fun x =>
      compT x 0 fun y =>
        compT x 1 fun y_1 =>
          chk
            (match List.length (T.cells y) == 4 with
            | false => false
            | true =>
              (!(T.isTup y)))
            (bT y_1 fun b =>
              bif b then
                atT g' (↑i : Int) fun e =>
                  Res.bind (callP env N 31 [T.sl 2 m', e]) fun x =>
                    bT x fun b =>
                      bif
                          (!(b)) then
                        Res.ok (Ex.ret, { tmps := slots 126 [(6, PV.t (T.bool false))], heap := [] })
                      else
                        Res.ok
                          (Ex.norm,
                            {
                              tmps :=
                                slots 126
                                  [(5, PV.ptr 0 0), (7, PV.t u), (12, PV.t (T.sl 6 xs)),
                                    (14,
                                      PV.t (i64 (IntKind.wrap IntKind.i64 ((↑i : Int) + 1))))],
                              heap :=
                                [AObj.box 45 6
                                    (PV.t
                                      (T.agg
                                        [T.sl 2 g', i64 o', T.sl 1 s', i64 h',
                                          i64 c', T.sl 2 m']))] })
              else
                Res.ok
                  (Ex.norm,
                    {
                      tmps :=
                        slots 126
                          [(5, PV.ptr 0 0), (7, PV.t u), (12, PV.t (T.sl 6 xs)),
                            (14, PV.t (i64 (IntKind.wrap IntKind.i64 ((↑i : Int) + 1))))],
                      heap :=
                        [AObj.box 45 6
                            (PV.t
                              (T.agg
                                [T.sl 2 g', i64 o', T.sl 1 s', i64 h', i64 c',
                                  T.sl 2 m']))] }))
else
  Res.ok
    (Ex.exit 0,
      { tmps := slots 126 [(5, PV.ptr 0 0), (7, PV.t u), (12, PV.t (T.sl 6 xs))],
        heap :=
          [AObj.box 45 6
              (PV.t
                (T.agg
                  [T.sl 2 g', i64 o', T.sl 1 s', i64 h', i64 c',
                    T.sl 2 m']))] }) := by kernel_rfl
theorem t9_10_exit0 (N : Nat) (xs g' m' : List T) (o' h' c' : Int) (s' : List T) (u : T) : tailL env N 9 0 10 (outK env 9) (.exit 0) ⟨slots 126 [(5, .ptr 0 0), (7, .t u), (12, .t (.sl 6 xs))], [.box 45 6 (.t (.agg [.sl 2 g', i64 o', .sl 1 s', i64 h', i64 c', .sl 2 m']))]⟩ = loopL env N 9 16
  {
    tmps :=
      slots 126 [(5, PV.ptr 0 0), (7, PV.t u), (12, PV.t (T.sl 6 xs)), (17, PV.t (i64 (0)))],
    heap :=
      [AObj.box 45 6
          (PV.t
            (T.agg
              [T.sl 2 g', i64 o', T.sl 1 s', i64 h', i64 c', T.sl 2 m']))] } := by kernel_rfl
theorem t9_10_ret (N : Nat) (u : T) : tailL env N 9 0 10 (outK env 9) (.ret) ⟨slots 126 [(6, .t u)], []⟩ = Res.ok u := by kernel_rfl
theorem t9_16_exit2 (N : Nat) (u : T) : tailL env N 9 0 16 (outK env 9) (.exit 2) ⟨slots 126 [(7, .t u)], []⟩ = Res.ok u := by kernel_rfl
theorem t9_16_ret (N : Nat) (u : T) : tailL env N 9 0 16 (outK env 9) (.ret) ⟨slots 126 [(6, .t u)], []⟩ = Res.ok u := by kernel_rfl
end Go.Sim

/- The law of layer 18 on news of others. -/
namespace Go.Sim
open Go.RowKit Go.Proofs
set_option linter.unusedVariables false
set_option linter.unusedSimpArgs false
set_option maxRecDepth 100000

theorem f21_room {M : Nat} {t : List En} {n : Nw} (hM : big + 13 ≤ M) (hl : t.length ≤ 900) (hs : ∀ e ∈ t, e.ok) (hn : n.ok) (hf : n.m.length ≤ 40) :
    callP env (M + 1) 21 [.sl 6 (t.map En.t), n.t, i64 1000] = .ok (.tup [.sl 6 ((applyE t n).map En.t), .bool true]) := by
  have hb := big_val
  have hlen : (t.length + n.m.length + 1) * 64 ≤ big := by omega
  have h := f21_ok (M := M) (k := 1000) hM hlen hs hn (by decide)
  have := applyE_len t n
  rw [decide_eq_false (show ¬ (((applyE t n).length : Int) > 1000) by omega)] at h
  exact h
theorem few_len {l : List En} (h : fewE l = true) : l.length ≤ 40 := by
  simp only [fewE, Bool.and_eq_true, decide_eq_true_eq] at h; omega
theorem few_news {n : Nw} (h : fewN n = true) : n.g.length ≤ 40 ∧ n.m.length ≤ 40 := by
  simp only [fewN, Bool.and_eq_true, decide_eq_true_eq] at h; omega

theorem swap_law {t : List En} {n m : Nw} (h : ∀ x, x ∈ n.g ∨ x ∈ n.m → x ∉ m.g ∧ x ∉ m.m) : applyE (applyE t n) m = applyE (applyE t m) n := by
  refine rise_ext (rise_apply _ _) (rise_apply _ _) fun e => ?_
  rw [mem_apply, mem_apply, known_apply, known_apply, mem_apply, mem_apply]
  have h1 := h e.x
  unfold Told
  by_cases a : e.x ∈ n.g <;> by_cases b : e.x ∈ n.m <;> by_cases c : e.x ∈ m.g <;> by_cases d : e.x ∈ m.m <;> simp_all

def hN (n : Nw) : AObj := .box 45 6 (.t (.agg [.sl 2 (n.g.map Px.t), i64 n.p.o, .sl 1 (ints n.p.s), i64 n.p.h, i64 n.p.c, .sl 2 (n.m.map Px.t)]))
def S10 (t : List En) (n m : Nw) (i : Nat) : St := ⟨slots 100 [(0, .t (.sl 6 (t.map En.t))), (4, .ptr 0 0), (5, .ptr 1 0), (7, .t (.bool true)), (8, .own 2), (9, .t (i64 (i : Int)))], [hN n, hN m, .row 35 2 ((n.g ++ n.m).map Px.t)]⟩
def X10 (t : List En) (n m : Nw) : St := ⟨slots 100 [(0, .t (.sl 6 (t.map En.t))), (4, .ptr 0 0), (5, .ptr 1 0), (7, .t (.bool true))], [hN n, hN m]⟩
theorem b10_step {k : Nat} {t : List En} {n m : Nw} {j : Nat} {x : Px} (hM : big + 60 ≤ k + 1) (hm : m.ok) (hx : (n.g ++ n.m)[j]? = some x) (hj2 : j ≤ big) (hxo : x.ok) :
    bodyL env (k + 1) 10 0 7 (S10 t n m j) = bif (m.g.any fun y => eqPx y x) || (m.m.any fun y => eqPx y x) then .ok (.ret, ⟨slots 100 [(6, .t (.bool true))], []⟩) else .ok (.norm, S10 t n m (j + 1)) := by
  have hj : j < (n.g ++ n.m).length := (List.getElem?_eq_some_iff.1 hx).1
  have hj3 : ((j : Int) < (((n.g ++ n.m).map Px.t).length : Int)) := by rw [List.length_map]; omega
  unfold S10 hN
  rw [b10_7, decide_eq_true hj3]
  simp only [cond_true, chk]
  rw [show List.getD ((n.g ++ n.m).map Px.t) (Int.toNat (j : Int)) T.nilp = x.t by rw [List.getD_eq_getElem?_getD, Int.toNat_natCast, map_get hx]; rfl]
  rw [f31_ok (by omega) hm.gl hm.g hxo, f31_ok (by omega) hm.ml hm.m hxo]
  simp only [Res.bind_ok, bT_bool, wrap_succ hj2]
  cases m.g.any fun y => eqPx y x <;> cases m.m.any fun y => eqPx y x <;> rfl
theorem b10_exit {k : Nat} {t : List En} {n m : Nw} : bodyL env (k + 1) 10 0 7 (S10 t n m (n.g ++ n.m).length) = .ok (.exit 0, X10 t n m) := by
  unfold S10 X10 hN
  rw [b10_7, decide_eq_false (by rw [List.length_map]; omega)]
  simp only [cond_false]
theorem t10 {k : Nat} {t : List En} {n m : Nw} (hM : big + 60 ≤ k + 1) (hs : ∀ e ∈ t, e.ok) (hn : n.ok) (hm : m.ok) (k1 : t.length ≤ 40) (k2 : n.m.length ≤ 40) (k3 : m.m.length ≤ 40) (hdis : ∀ x, x ∈ n.g ∨ x ∈ n.m → x ∉ m.g ∧ x ∉ m.m) :
    tailL env (k + 1) 10 0 7 (outK env 10) (.exit 0) (X10 t n m) = .ok (.bool true) := by
  have hb := big_val
  have z1 := applyE_len t n
  have z2 := applyE_len t m
  have g1 := f21_room (M := k) (t := t) (n := n) (by omega) (by omega) hs hn k2
  have g2 := f21_room (M := k) (t := applyE t n) (n := m) (by omega) (by omega) (applyE_ok hs hn) hm k3
  have g3 := f21_room (M := k) (t := t) (n := m) (by omega) (by omega) hs hm k3
  have g4 := f21_room (M := k) (t := applyE t m) (n := n) (by omega) (by omega) (applyE_ok hs hm) hn k2
  have z3 := applyE_len (applyE t n) m
  have g5 := f26_ok (M := k) (l := applyE (applyE t n) m) (l' := applyE (applyE t n) m) (by omega) (by omega) (by omega) (applyE_ok (applyE_ok hs hn) hm) (applyE_ok (applyE_ok hs hn) hm)
  rw [← swap_law hdis] at g4
  simp only [Nw.t] at g1 g2 g3 g4
  unfold X10 hN
  rw [t10_7_exit0, g1]
  simp only [Res.bind_ok, compT, List.getElem?_cons_zero, List.getElem?_cons_succ]
  rw [g2]
  simp only [Res.bind_ok, compT, List.getElem?_cons_zero, List.getElem?_cons_succ]
  rw [g3]
  simp only [Res.bind_ok, compT, List.getElem?_cons_zero, List.getElem?_cons_succ]
  rw [g4]
  simp only [Res.bind_ok, compT, List.getElem?_cons_zero, List.getElem?_cons_succ, bT_bool, cond_true]
  rw [g5, sameE_refl]
  rfl
theorem f10_ok {M : Nat} {t : List En} {n m : Nw} (hM : big + 60 ≤ M) (hl : t.length ≤ big) (hs : ∀ e ∈ t, e.ok) (hn : n.ok) (hm : m.ok) :
    callP env (M + 1) 10 [.sl 6 (t.map En.t), n.t, m.t] = .ok (.bool true) := by
  have hb := big_val
  obtain ⟨k, rfl⟩ : ∃ k, M = k + 1 := ⟨M - 1, by omega⟩
  have hw := wfs3 (wf_sl (k := 6) hl fun e he => (hs e he).wf) hn.wf hm.wf
  obtain ⟨q, hq⟩ : ∃ q, k + 1 = q + 40 := ⟨k + 1 - 40, by omega⟩
  have h16 : callP env (k + 1) 16 [] = .ok (.bool true) := by rw [hq]; exact awake18 q
  have h17 := f17_ok (M := k) (l := t) (by omega) hl hs
  have h18 := f18_ok (M := k) hn
  have h18' := f18_ok (M := k) hm
  simp only [Nw.t] at hw h18 h18' ⊢
  rw [e10, hw, h16, h17]
  simp only [cond_true, Res.bind_ok, bT_bool]
  cases hf : fewE t with
  | false => rfl
  | true =>
  simp only [Bool.not_true, cond_false]
  rw [h18]
  simp only [Res.bind_ok, bT_bool]
  cases hfn : fewN n with
  | false => rfl
  | true =>
  simp only [Bool.not_true, cond_false]
  rw [h18']
  simp only [Res.bind_ok, bT_bool]
  cases hfm : fewN m with
  | false => rfl
  | true =>
  simp only [Bool.not_true, cond_false, chkAll, chk, List.nil_append, List.length_map]
  have k1 := few_len hf
  have k2 := few_news hfn
  have k3 := few_news hfm
  rw [decide_eq_true (show (0 + n.g.length) * (15 + 1) ≤ big by omega), decide_eq_true (show (n.g.length + n.m.length) * (15 + 1) ≤ big by omega)]
  simp only [cond_true, loopL]
  rw [show n.g.map Px.t ++ n.m.map Px.t = (n.g ++ n.m).map Px.t by simp]
  have hall := iter_any (B := bodyL env (k + 1) 10 0 7) (S := S10 t n m) (R := ⟨slots 100 [(6, .t (.bool true))], []⟩) (X := X10 t n m) (id := 0) (fun x => (m.g.any fun y => eqPx y x) || (m.m.any fun y => eqPx y x)) (n.g ++ n.m) (n := k + 1) (by rw [List.length_append]; omega)
    (fun j x hx => by
      have hj : j < (n.g ++ n.m).length := (List.getElem?_eq_some_iff.1 hx).1
      have hj2 : j ≤ big := by rw [List.length_append] at hj; omega
      exact b10_step hM hm hx hj2 ((List.mem_append.1 (List.mem_of_getElem? hx)).elim (hn.g x) (hn.m x)))
    b10_exit
  rw [show (⟨slots 100 [(0, .t (.sl 6 (t.map En.t))), (4, .ptr 0 0), (5, .ptr 1 0), (7, .t (.bool true)), (8, .own 2), (9, .t (i64 0))], [.box 45 6 (.t (.agg [.sl 2 (n.g.map Px.t), i64 n.p.o, .sl 1 (ints n.p.s), i64 n.p.h, i64 n.p.c, .sl 2 (n.m.map Px.t)])), .box 45 6 (.t (.agg [.sl 2 (m.g.map Px.t), i64 m.p.o, .sl 1 (ints m.p.s), i64 m.p.h, i64 m.p.c, .sl 2 (m.m.map Px.t)])), .row 35 2 ((n.g ++ n.m).map Px.t)]⟩ : St) = S10 t n m 0 from rfl, hall]
  cases hany : (n.g ++ n.m).any fun x => (m.g.any fun y => eqPx y x) || (m.m.any fun y => eqPx y x) with
  | true => simp only [cond_true, Res.bind_ok, t10_7_ret]
  | false =>
    have hdis : ∀ x, x ∈ n.g ∨ x ∈ n.m → x ∉ m.g ∧ x ∉ m.m := fun x hx => by
      have := List.any_eq_false.1 hany x (List.mem_append.2 hx)
      simp only [Bool.or_eq_true, in_iff, not_or] at this
      exact this
    rw [cond_false, Res.bind_ok]
    exact t10 hM hs hn hm k1 k2.2 k3.2 hdis
end Go.Sim

/- What calls come to: printed by a program of ours (wip/tools/eqs.py): a round of a law of layer 18. -/
namespace Go.Sim
open Go.RowKit Go.Proofs
set_option linter.unusedVariables false
set_option maxRecDepth 100000

theorem b9_16 (N : Nat) (xs g' m' : List T) (o' h' c' : Int) (s' : List T) (u : T) (i : Nat) : bodyL env N 9 0 16 ⟨slots 126 [(5, .ptr 0 0), (7, .t u), (12, .t (.sl 6 xs)), (17, .t (i64 (i : Int)))], [.box 45 6 (.t (.agg [.sl 2 g', i64 o', .sl 1 s', i64 h', i64 c', .sl 2 m']))]⟩ = bif decide ((↑i : Int) < (↑(List.length m') : Int)) then
  atT m' (↑i : Int) fun e =>
    Res.bind (callP env N 19 [T.sl 6 xs, e]) fun x =>
      compT x 0 fun y =>
        compT x 1 fun y_1 =>
          chk
            (match List.length (T.cells y) == 4 with
            | false => false
            | true =>
              (!(T.isTup y)))
            (atT m' (↑i : Int) fun e =>
              Res.bind (callP env N 32 [e]) fun x =>
                bT x fun b =>
                  bif b then
                    Res.bind
                      (callP env N 33
                        [T.agg
                            (List.take 4
                              (List.drop 1
                                [T.sl 2 g', i64 o', T.sl 1 s', i64 h', i64 c',
                                  T.sl 2 m']))])
                      fun x =>
                      bT x fun b =>
                        bif b then
                          bT y_1 fun b =>
                            bif
                                (!(b)) then
                              Res.ok (Ex.ret, { tmps := slots 126 [(6, PV.t (T.bool false))], heap := [] })
                            else
                              Res.bind
                                (callP env N 25
                                  [y,
                                    T.agg
                                      (List.take 4
                                        (List.drop 1
                                          [T.sl 2 g', i64 o', T.sl 1 s', i64 h',
                                            i64 c', T.sl 2 m']))])
                                fun x =>
                                bT x fun b =>
                                  bif
                                      (!(b)) then
                                    Res.ok (Ex.ret, { tmps := slots 126 [(6, PV.t (T.bool false))], heap := [] })
                                  else
                                    Res.ok
                                      (Ex.norm,
                                        {
                                          tmps :=
                                            slots 126
                                              [(5, PV.ptr 0 0), (7, PV.t u), (12, PV.t (T.sl 6 xs)),
                                                (17,
                                                  PV.t
                                                    (i64
                                                      (IntKind.wrap IntKind.i64 ((↑i : Int) + 1))))],
                                          heap :=
                                            [AObj.box 45 6
                                                (PV.t
                                                  (T.agg
                                                    [T.sl 2 g', i64 o', T.sl 1 s', i64 h',
                                                      i64 c', T.sl 2 m']))] })
                        else
                          Res.ok
                            (Ex.norm,
                              {
                                tmps :=
                                  slots 126
                                    [(5, PV.ptr 0 0), (7, PV.t u), (12, PV.t (T.sl 6 xs)),
                                      (17,
                                        PV.t
                                          (i64 (IntKind.wrap IntKind.i64 ((↑i : Int) + 1))))],
                                heap :=
                                  [AObj.box 45 6
                                      (PV.t
                                        (T.agg
                                          [T.sl 2 g', i64 o', T.sl 1 s', i64 h',
                                            i64 c', T.sl 2 m']))] })
                  else
                    Res.ok
                      (Ex.norm,
                        {
                          tmps :=
                            slots 126
                              [(5, PV.ptr 0 0), (7, PV.t u), (12, PV.t (T.sl 6 xs)),
                                (17, PV.t (i64 (IntKind.wrap IntKind.i64 ((↑i : Int) + 1))))],
                          heap :=
                            [AObj.box 45 6
                                (PV.t
                                  (T.agg
                                    [T.sl 2 g', i64 o', T.sl 1 s', i64 h',
                                      i64 c', T.sl 2 m']))] }))
else Res.ok (Ex.exit 2, { tmps := slots 126 [(7, PV.t u)], heap := [] }) := by kernel_rfl
end Go.Sim

/- The law of layer 18 on the last news. -/
namespace Go.Sim
open Go.RowKit Go.Proofs
set_option linter.unusedVariables false
set_option linter.unusedSimpArgs false
set_option maxRecDepth 100000

theorem twice_law {t : List En} {n : Nw} : applyE (applyE t n) n = applyE t n := by
  refine rise_ext (rise_apply _ _) (rise_apply _ _) fun e => ?_
  rw [mem_apply, known_apply, mem_apply]
  by_cases a : e.x ∈ n.g <;> by_cases b : Told n.p n.m e.x <;> simp_all
theorem told_get {t : List En} {n : Nw} {x : Px} (h : Told n.p n.m x) : getE (applyE t n) x = some n.p := by
  rw [get_iff, known_apply, mem_apply]
  exact .inl ⟨h, rfl⟩
theorem gone_get {t : List En} {n : Nw} {x : Px} (h : x ∈ n.g) (h2 : ¬ Told n.p n.m x) : getE (applyE t n) x = none := by
  rw [get_none, known_apply]
  intro e he hx
  subst hx
  rcases mem_apply.1 he with ⟨h3, _⟩ | ⟨_, h3, _⟩
  · exact h2 h3
  · exact h3 h
theorem rest_get {t : List En} {n : Nw} {x : Px} (h : x ∉ n.g) (h2 : ¬ Told n.p n.m x) : getE (applyE t n) x = getE t x := by
  refine Option.ext fun p => ?_
  rw [get_iff, get_iff, known_apply, mem_apply]
  constructor
  · rintro (⟨h3, _⟩ | ⟨h3, _⟩)
    · exact absurd h3 h2
    · exact h3
  · exact fun h3 => .inr ⟨h3, h, h2⟩

def S9a (c : List En) (m : Nw) (i : Nat) : St := ⟨slots 126 [(5, .ptr 0 0), (7, .t (.bool true)), (12, .t (.sl 6 (c.map En.t))), (14, .t (i64 (i : Int)))], [hN m]⟩
def S9b (c : List En) (m : Nw) (i : Nat) : St := ⟨slots 126 [(5, .ptr 0 0), (7, .t (.bool true)), (12, .t (.sl 6 (c.map En.t))), (17, .t (i64 (i : Int)))], [hN m]⟩
def X9a (c : List En) (m : Nw) : St := ⟨slots 126 [(5, .ptr 0 0), (7, .t (.bool true)), (12, .t (.sl 6 (c.map En.t)))], [hN m]⟩
theorem pa_cells (p : Pa) : T.cells p.t = [i64 p.o, .sl 1 (ints p.s), i64 p.h, i64 p.c] := rfl
theorem pa_tup (p : Pa) : T.isTup p.t = false := rfl
theorem pa_part (n : Nw) : T.agg (List.take 4 (List.drop 1 [T.sl 2 (n.g.map Px.t), i64 n.p.o, T.sl 1 (ints n.p.s), i64 n.p.h, i64 n.p.c, T.sl 2 (n.m.map Px.t)])) = n.p.t := rfl
theorem b9a {k : Nat} {c : List En} {m : Nw} {j : Nat} {x : Px} (hM : big + 60 ≤ k) (hm : m.ok) (hx : m.g[j]? = some x) (hj : j ≤ big) (hl : c.length ≤ big) (hs : ∀ e ∈ c, e.ok) (hlaw : (getE c x).isSome = true → x ∈ m.m) :
    bodyL env (k + 1) 9 0 10 (S9a c m j) = .ok (.norm, S9a c m (j + 1)) := by
  have hlt : j < m.g.length := (List.getElem?_eq_some_iff.1 hx).1
  have hxo := hm.g x (List.mem_of_getElem? hx)
  unfold S9a hN
  rw [b9_10, decide_eq_true (show (j : Int) < ((m.g.map Px.t).length : Int) by rw [List.length_map]; omega)]
  simp only [cond_true, atT_get (map_get hx)]
  rw [f19_ok (by omega) hl hs hxo]
  simp only [Res.bind_ok, compT, List.getElem?_cons_zero, List.getElem?_cons_succ, bT_bool, pa_cells, pa_tup, List.length_cons, List.length_nil, wrap_succ hj]
  cases h : (getE c x).isSome with
  | false => rfl
  | true =>
    rw [f31_ok (by omega) hm.ml hm.m hxo, in_iff.2 (hlaw h)]
    rfl
theorem b9a_exit {k : Nat} {c : List En} {m : Nw} : bodyL env (k + 1) 9 0 10 (S9a c m m.g.length) = .ok (.exit 0, X9a c m) := by
  unfold S9a X9a hN
  rw [b9_10, decide_eq_false (by rw [List.length_map]; omega)]
  simp only [cond_false]
theorem b9b {k : Nat} {c : List En} {m : Nw} {j : Nat} {x : Px} (hM : big + 60 ≤ k) (hm : m.ok) (hx : m.m[j]? = some x) (hj : j ≤ big) (hl : c.length ≤ big) (hs : ∀ e ∈ c, e.ok) (hlaw : psane x = true → asane m.p = true → getE c x = some m.p) :
    bodyL env (k + 1) 9 0 16 (S9b c m j) = .ok (.norm, S9b c m (j + 1)) := by
  have hlt : j < m.m.length := (List.getElem?_eq_some_iff.1 hx).1
  have hxo := hm.m x (List.mem_of_getElem? hx)
  unfold S9b hN
  rw [b9_16, decide_eq_true (show (j : Int) < ((m.m.map Px.t).length : Int) by rw [List.length_map]; omega)]
  simp only [cond_true, atT_get (map_get hx)]
  rw [f19_ok (by omega) hl hs hxo]
  simp only [Res.bind_ok, compT, List.getElem?_cons_zero, List.getElem?_cons_succ, bT_bool, pa_cells, pa_tup, List.length_cons, List.length_nil, wrap_succ hj]
  rw [f32_ok hxo (by omega), pa_part, f33_ok hm.p (by omega)]
  simp only [Res.bind_ok, bT_bool]
  cases h1 : psane x with
  | false => rfl
  | true =>
  cases h2 : asane m.p with
  | false => rfl
  | true =>
    rw [hlaw h1 h2]
    simp only [Option.getD, Option.isSome, Bool.not_true, cond_true, cond_false]
    rw [f25_ok (by omega) hm.p hm.p, samePa_refl]
    rfl
theorem b9b_exit {k : Nat} {c : List En} {m : Nw} : bodyL env (k + 1) 9 0 16 (S9b c m m.m.length) = .ok (.exit 2, ⟨slots 126 [(7, .t (.bool true))], []⟩) := by
  unfold S9b hN
  rw [b9_16, decide_eq_false (by rw [List.length_map]; omega)]
  simp only [cond_false]
theorem any_none {α : Type} (l : List α) : (l.any fun _ => false) = false := by simp
theorem loop9b {k : Nat} {c : List En} {m : Nw} (hM : big + 60 ≤ k) (hm : m.ok) (hl : c.length ≤ big) (hs : ∀ e ∈ c, e.ok) (hlaw : ∀ x ∈ m.m, psane x = true → asane m.p = true → getE c x = some m.p) :
    loopL env (k + 1) 9 16 (S9b c m 0) = .ok (.bool true) := by
  have hml := hm.ml
  have := iter_any (B := bodyL env (k + 1) 9 0 16) (S := S9b c m) (R := ⟨slots 126 [(6, .t (.bool false))], []⟩) (id := 2) (fun _ => false) m.m (n := k + 1) (by omega)
    (fun j x hx => by
      have hlt : j < m.m.length := (List.getElem?_eq_some_iff.1 hx).1
      rw [cond_false]
      exact b9b hM hm hx (by omega) hl hs (hlaw x (List.mem_of_getElem? hx))) b9b_exit
  unfold loopL
  rw [this, any_none, cond_false, Res.bind_ok]
  exact t9_16_exit2 (k + 1) (.bool true)
theorem loop9a {k : Nat} {c : List En} {m : Nw} (hM : big + 60 ≤ k) (hm : m.ok) (hl : c.length ≤ big) (hs : ∀ e ∈ c, e.ok) (hlaw : ∀ x ∈ m.m, psane x = true → asane m.p = true → getE c x = some m.p) (hlaw2 : ∀ x ∈ m.g, (getE c x).isSome = true → x ∈ m.m) :
    loopL env (k + 1) 9 10 (S9a c m 0) = .ok (.bool true) := by
  have hgl := hm.gl
  have := iter_any (B := bodyL env (k + 1) 9 0 10) (S := S9a c m) (R := ⟨slots 126 [(6, .t (.bool false))], []⟩) (id := 0) (fun _ => false) m.g (n := k + 1) (by omega)
    (fun j x hx => by
      have hlt : j < m.g.length := (List.getElem?_eq_some_iff.1 hx).1
      rw [cond_false]
      exact b9a hM hm hx (by omega) hl hs (hlaw2 x (List.mem_of_getElem? hx))) b9a_exit
  unfold loopL
  rw [this, any_none, cond_false, Res.bind_ok]
  have h2 := loop9b hM hm hl hs hlaw
  show tailL env (k + 1) 9 0 10 (outK env 9) (.exit 0) (X9a c m) = _
  unfold X9a hN
  rw [t9_10_exit0]
  exact h2
theorem f9_ok {M : Nat} {t : List En} {n m : Nw} (hM : big + 70 ≤ M) (hl : t.length ≤ big) (hs : ∀ e ∈ t, e.ok) (hn : n.ok) (hm : m.ok) :
    callP env (M + 1) 9 [.sl 6 (t.map En.t), n.t, m.t] = .ok (.bool true) := by
  have hb := big_val
  obtain ⟨k, rfl⟩ : ∃ k, M = k + 1 := ⟨M - 1, by omega⟩
  have hw := wfs3 (wf_sl (k := 6) hl fun e he => (hs e he).wf) hn.wf hm.wf
  obtain ⟨q, hq⟩ : ∃ q, k + 1 = q + 40 := ⟨k + 1 - 40, by omega⟩
  have h16 : callP env (k + 1) 16 [] = .ok (.bool true) := by rw [hq]; exact awake18 q
  have h17 := f17_ok (M := k) (l := t) (by omega) hl hs
  have h18 := f18_ok (M := k) hn
  have h18' := f18_ok (M := k) hm
  simp only [Nw.t] at hw h18 h18' ⊢
  rw [e9, hw, h16, h17]
  simp only [cond_true, Res.bind_ok, bT_bool]
  cases hf : fewE t with
  | false => rfl
  | true =>
  simp only [Bool.not_true, cond_false]
  rw [h18]
  simp only [Res.bind_ok, bT_bool]
  cases hfn : fewN n with
  | false => rfl
  | true =>
  simp only [Bool.not_true, cond_false]
  rw [h18']
  simp only [Res.bind_ok, bT_bool]
  cases hfm : fewN m with
  | false => rfl
  | true =>
  simp only [Bool.not_true, cond_false]
  have k1 := few_len hf
  have k2 := few_news hfn
  have k3 := few_news hfm
  have z1 := applyE_len t n
  have z2 := applyE_len (applyE t n) m
  have o1 := applyE_ok hs hn
  have o2 := applyE_ok o1 hm
  have g1 := f21_room (M := k) (t := t) (n := n) (by omega) (by omega) hs hn k2.2
  have g2 := f21_room (M := k) (t := applyE t n) (n := n) (by omega) (by omega) o1 hn k2.2
  have g3 := f21_room (M := k) (t := applyE t n) (n := m) (by omega) (by omega) o1 hm k3.2
  have g4 := f26_ok (M := k) (l := applyE t n) (l' := applyE t n) (by omega) (by omega) (by omega) o1 o1
  rw [twice_law] at g2
  simp only [Nw.t] at g1 g2 g3
  rw [g1]
  simp only [Res.bind_ok, compT, List.getElem?_cons_zero, List.getElem?_cons_succ]
  rw [g2]
  simp only [Res.bind_ok, compT, List.getElem?_cons_zero, List.getElem?_cons_succ]
  rw [g3]
  simp only [Res.bind_ok, compT, List.getElem?_cons_zero, List.getElem?_cons_succ]
  rw [g4, sameE_refl]
  simp only [Res.bind_ok, bT_bool, Bool.not_true, cond_false]
  exact loop9a (by omega) hm (by omega) o2 (fun x hx h1 h2 => told_get ⟨hx, h1, h2⟩) fun x hx h1 => by
    refine Classical.byContradiction fun h2 => ?_
    rw [gone_get hx (fun h3 => h2 h3.1)] at h1
    cases h1
end Go.Sim

/- What calls come to: printed by a program of ours (wip/tools/eqs.py): a law of layer 18. -/
namespace Go.Sim
open Go.RowKit Go.Proofs
set_option linter.unusedVariables false
set_option maxRecDepth 100000

theorem e6 (N : Nat) (xs g m : List T) (o h c a n : Int) (s : List T) : callP env (N + 1) 6 [.sl 6 xs, .agg [.sl 2 g, i64 o, .sl 1 s, i64 h, i64 c, .sl 2 m], .agg [i64 a, i64 n]] = bif T.wfs [.sl 6 xs, .agg [.sl 2 g, i64 o, .sl 1 s, i64 h, i64 c, .sl 2 m], .agg [i64 a, i64 n]] then (Res.bind (callP env N 16 []) fun x =>
  Res.bind (callP env N 17 [T.sl 6 xs]) fun x_1 =>
    bT x_1 fun b =>
      bif
          (!(b)) then
        Res.ok x
      else
        Res.bind
          (callP env N 18
            [T.agg [T.sl 2 g, i64 o, T.sl 1 s, i64 h, i64 c, T.sl 2 m]])
          fun x_2 =>
          bT x_2 fun b =>
            bif
                (!(b)) then
              Res.ok x
            else
              Res.bind
                (callP env N 21
                  [T.sl 6 xs,
                    T.agg [T.sl 2 g, i64 o, T.sl 1 s, i64 h, i64 c, T.sl 2 m],
                    i64 (1000)])
                fun x_3 =>
                compT x_3 0 fun y =>
                  compT x_3 1 fun y_1 =>
                    Res.bind (callP env N 19 [T.sl 6 xs, T.agg [i64 a, i64 n]]) fun x_4 =>
                      compT x_4 0 fun y_2 =>
                        compT x_4 1 fun y_3 =>
                          chk
                            (match List.length (T.cells y_2) == 4 with
                            | false => false
                            | true =>
                              (!(T.isTup y_2)))
                            (Res.bind (callP env N 19 [y, T.agg [i64 a, i64 n]]) fun x_5 =>
                              compT x_5 0 fun y_4 =>
                                compT x_5 1 fun y_5 =>
                                  chk
                                    (match List.length (T.cells y_4) == 4 with
                                    | false => false
                                    | true =>
                                      (!(T.isTup y_4)))
                                    (Res.bind
                                      (callP env N 31 [T.sl 2 m, T.agg [i64 a, i64 n]])
                                      fun x_6 =>
                                      bT x_6 fun b =>
                                        bif b then
                                          Res.bind (callP env N 32 [T.agg [i64 a, i64 n]])
                                            fun x_7 =>
                                            bT x_7 fun b =>
                                              bif b then
                                                Res.bind
                                                  (callP env N 33
                                                    [T.agg
                                                        (List.take 4
                                                          (List.drop 1
                                                            [T.sl 2 g, i64 o, T.sl 1 s,
                                                              i64 h, i64 c, T.sl 2 m]))])
                                                  fun x_8 =>
                                                  bT y_1 fun b =>
                                                    bif
                                                        (!(b)) then
                                                      Res.ok (T.bool false)
                                                    else
                                                      Res.bind (callP env N 28 [y]) fun x_9 =>
                                                        bT x_9 fun b =>
                                                          bif
                                                              (!(b)) then
                                                            Res.ok (T.bool false)
                                                          else
                                                            bT x_8 fun v =>
                                                              bif v then
                                                                bT x fun b =>
                                                                  bif b then
                                                                    bT y_5 fun b =>
                                                                      bif b then
                                                                        Res.bind
                                                                          (callP env N 25
                                                                            [y_4,
                                                                              T.agg
                                                                                (List.take 4
                                                                                  (List.drop 1
                                                                                    [T.sl 2 g, i64 o,
                                                                                      T.sl 1 s, i64 h,
                                                                                      i64 c, T.sl 2 m]))])
                                                                          fun x => Res.ok x
                                                                      else Res.ok (T.bool false)
                                                                  else Res.ok (T.bool false)
                                                              else
                                                                Res.bind
                                                                  (callP env N 31
                                                                    [T.sl 2 g,
                                                                      T.agg [i64 a, i64 n]])
                                                                  fun x_10 =>
                                                                  bT x_10 fun v =>
                                                                    bif v then
                                                                      bT x fun b =>
                                                                        bif b then
                                                                          bT y_5 fun b =>
                                                                            Res.ok
                                                                              (T.bool
                                                                                ((!(b))))
                                                                        else Res.ok (T.bool false)
                                                                    else
                                                                      bT x fun b =>
                                                                        bif b then
                                                                          match T.eqLs [1] [y_5] [y_3] with
                                                                          | some b =>
                                                                            bif b then
                                                                              Res.bind (callP env N 25 [y_4, y_2])
                                                                                fun x => Res.ok x
                                                                            else Res.ok (T.bool false)
                                                                          | none => Res.stuck
                                                                        else Res.ok (T.bool false)
                                              else
                                                bT y_1 fun b =>
                                                  bif
                                                      (!(b)) then
                                                    Res.ok (T.bool false)
                                                  else
                                                    Res.bind (callP env N 28 [y]) fun x_8 =>
                                                      bT x_8 fun b =>
                                                        bif
                                                            (!(b)) then
                                                          Res.ok (T.bool false)
                                                        else
                                                          Res.bind
                                                            (callP env N 31
                                                              [T.sl 2 g,
                                                                T.agg [i64 a, i64 n]])
                                                            fun x_9 =>
                                                            bT x_9 fun v =>
                                                              bif v then
                                                                bT x fun b =>
                                                                  bif b then
                                                                    bT y_5 fun b =>
                                                                      Res.ok
                                                                        (T.bool
                                                                          ((!(b))))
                                                                  else Res.ok (T.bool false)
                                                              else
                                                                bT x fun b =>
                                                                  bif b then
                                                                    match T.eqLs [1] [y_5] [y_3] with
                                                                    | some b =>
                                                                      bif b then
                                                                        Res.bind (callP env N 25 [y_4, y_2]) fun x =>
                                                                          Res.ok x
                                                                      else Res.ok (T.bool false)
                                                                    | none => Res.stuck
                                                                  else Res.ok (T.bool false)
                                        else
                                          bT y_1 fun b =>
                                            bif
                                                (!(b)) then
                                              Res.ok (T.bool false)
                                            else
                                              Res.bind (callP env N 28 [y]) fun x_7 =>
                                                bT x_7 fun b =>
                                                  bif
                                                      (!(b)) then
                                                    Res.ok (T.bool false)
                                                  else
                                                    Res.bind
                                                      (callP env N 31
                                                        [T.sl 2 g, T.agg [i64 a, i64 n]])
                                                      fun x_8 =>
                                                      bT x_8 fun v =>
                                                        bif v then
                                                          bT x fun b =>
                                                            bif b then
                                                              bT y_5 fun b =>
                                                                Res.ok
                                                                  (T.bool
                                                                    ((!(b))))
                                                            else Res.ok (T.bool false)
                                                        else
                                                          bT x fun b =>
                                                            bif b then
                                                              match T.eqLs [1] [y_5] [y_3] with
                                                              | some b =>
                                                                bif b then
                                                                  Res.bind (callP env N 25 [y_4, y_2]) fun x => Res.ok x
                                                                else Res.ok (T.bool false)
                                                              | none => Res.stuck
                                                            else Res.ok (T.bool false)))) else .absurd := by kernel_rfl
end Go.Sim

/- The law of layer 18: news say what is. -/
namespace Go.Sim
open Go.RowKit Go.Proofs
set_option linter.unusedVariables false
set_option linter.unusedSimpArgs false
set_option maxRecDepth 100000

theorem eqLs_bool (a b : Bool) : T.eqLs [1] [.bool a] [.bool b] = some (a == b) := by cases a <;> cases b <;> rfl
theorem f6_ok {M : Nat} {t : List En} {n : Nw} {x : Px} (hM : big + 70 ≤ M) (hl : t.length ≤ big) (hs : ∀ e ∈ t, e.ok) (hn : n.ok) (hx : x.ok) :
    callP env (M + 1) 6 [.sl 6 (t.map En.t), n.t, x.t] = .ok (.bool true) := by
  have hb := big_val
  obtain ⟨k, rfl⟩ : ∃ k, M = k + 1 := ⟨M - 1, by omega⟩
  have hw := wfs3 (wf_sl (k := 6) hl fun e he => (hs e he).wf) hn.wf hx.wf
  obtain ⟨q, hq⟩ : ∃ q, k + 1 = q + 40 := ⟨k + 1 - 40, by omega⟩
  have h16 : callP env (k + 1) 16 [] = .ok (.bool true) := by rw [hq]; exact awake18 q
  have h17 := f17_ok (M := k) (l := t) (by omega) hl hs
  have h18 := f18_ok (M := k) hn
  simp only [Nw.t, Px.t] at hw h18 ⊢
  rw [e6, hw, h16, h17]
  simp only [cond_true, Res.bind_ok, bT_bool]
  cases hf : fewE t with
  | false => rfl
  | true =>
  simp only [Bool.not_true, cond_false]
  rw [h18]
  simp only [Res.bind_ok, bT_bool]
  cases hfn : fewN n with
  | false => rfl
  | true =>
  simp only [Bool.not_true, cond_false]
  have k1 := few_len hf
  have k2 := few_news hfn
  have z1 := applyE_len t n
  have o1 := applyE_ok hs hn
  have g1 := f21_room (M := k) (t := t) (n := n) (by omega) (by omega) hs hn k2.2
  have g2 := f19_ok (M := k) (l := t) (x := x) (by omega) hl hs hx
  have g3 := f19_ok (M := k) (l := applyE t n) (x := x) (by omega) (by omega) o1 hx
  have g4 := f31_ok (M := k) (l := n.m) (x := x) (by omega) hn.ml hn.m hx
  have g5 := f31_ok (M := k) (l := n.g) (x := x) (by omega) hn.gl hn.g hx
  have g6 := f32_ok (M := k) (x := x) hx (by omega)
  have g7 := f33_ok (M := k) (p := n.p) hn.p (by omega)
  have g8 := f28_ok (M := k) (l := applyE t n) (by omega) (by omega) o1
  simp only [Nw.t, Px.t] at g1 g2 g3 g4 g5 g6
  rw [g1]
  simp only [Res.bind_ok, compT, List.getElem?_cons_zero, List.getElem?_cons_succ]
  rw [g2]
  simp only [Res.bind_ok, compT, List.getElem?_cons_zero, List.getElem?_cons_succ, pa_cells, pa_tup, List.length_cons, List.length_nil]
  rw [g3]
  simp only [Res.bind_ok, compT, List.getElem?_cons_zero, List.getElem?_cons_succ, pa_cells, pa_tup, List.length_cons, List.length_nil]
  rw [g4, g5, g6, g8, sane_apply, pa_part, g7]
  have hc : ∀ {β : Type} (r : Res β), chk (match (0 + 1 + 1 + 1 + 1 == 4) with | false => false | true => !false) r = r := fun r => rfl
  simp only [hc, Res.bind_ok, bT_bool, Bool.not_true, cond_false, cond_true, eqLs_bool]
  by_cases htold : Told n.p n.m x
  · have hget := told_get (t := t) htold
    obtain ⟨q1, q2, q3⟩ := htold
    rw [in_iff.2 q1, q2, q3, hget]
    simp only [cond_true, Option.isSome, Option.getD]
    rw [f25_ok (by omega) hn.p hn.p, samePa_refl]
    rfl
  · have h25 := fun p => f25_ok (M := k) (p := p) (q := p) (by omega)
    have hfin : (bif (n.g.any fun y => eqPx y x) then Res.ok (T.bool !(getE (applyE t n) x).isSome)
        else bif (getE (applyE t n) x).isSome == (getE t x).isSome then
          Res.bind (callP env (k + 1) 25 [((getE (applyE t n) x).getD Pa.none).t, ((getE t x).getD Pa.none).t]) fun x => Res.ok x
        else Res.ok (T.bool false)) = Res.ok (.bool true) := by
      cases hg : n.g.any fun y => eqPx y x with
      | true => rw [gone_get (in_iff.1 hg) htold]; rfl
      | false =>
        rw [rest_get (fun h => by rw [in_iff.2 h] at hg; cases hg) htold, cond_false, beq_self_eq_true, cond_true, h25 _ (get_ok hs) (get_ok hs), samePa_refl]
        rfl
    cases h1 : n.m.any fun y => eqPx y x with
    | false => simp only [cond_false, cond_true]; exact hfin
    | true =>
    cases h2 : psane x with
    | false => simp only [cond_false, cond_true]; exact hfin
    | true =>
    cases h3 : asane n.p with
    | false => simp only [cond_false, cond_true]; exact hfin
    | true => exact absurd ⟨in_iff.1 h1, h2, h3⟩ htold
end Go.Sim

/- What calls come to: printed by a program of ours (wip/tools/eqs.py): Diff, and a law of layer 18. -/
namespace Go.Sim
open Go.RowKit Go.Proofs
set_option linter.unusedVariables false
set_option maxRecDepth 100000

theorem e8 (N : Nat) (xs ys : List T) : callP env (N + 1) 8 [.sl 6 xs, .sl 6 ys] = bif T.wfs [.sl 6 xs, .sl 6 ys] then (Res.bind (callP env N 16 []) fun x =>
  Res.bind (callP env N 17 [T.sl 6 xs]) fun x_1 =>
    bT x_1 fun b =>
      bif
          (!(b)) then
        Res.ok x
      else
        Res.bind (callP env N 17 [T.sl 6 ys]) fun x_2 =>
          bT x_2 fun b =>
            bif
                (!(b)) then
              Res.ok x
            else
              Res.bind (callP env N 28 [T.sl 6 xs]) fun x_3 =>
                bT x_3 fun b =>
                  bif
                      (!(b)) then
                    Res.ok x
                  else
                    Res.bind (callP env N 28 [T.sl 6 ys]) fun x_4 =>
                      bT x_4 fun b =>
                        bif
                            (!(b)) then
                          Res.ok x
                        else
                          Res.bind (callP env N 23 [T.sl 6 xs, T.sl 6 ys]) fun x_5 =>
                            compT x_5 0 fun y =>
                              compT x_5 1 fun y_1 =>
                                chk
                                  (match List.length (T.cells y) == 1 with
                                  | false => false
                                  | true =>
                                    (!(T.isTup y)))
                                  (Res.bind
                                    (callP env N 21
                                      [T.sl 6 xs,
                                        T.agg
                                          [T.cell y 0, i64 (0), T.sl 1 [],
                                            i64 (0), i64 (0),
                                            T.sl 2 []],
                                        i64 (1000)])
                                    fun x_6 =>
                                    compT x_6 0 fun y_2 =>
                                      compT x_6 1 fun y_3 =>
                                        loopL env N 8 7
                                          {
                                            tmps :=
                                              slots 95
                                                [(0, PV.t (T.sl 6 xs)), (1, PV.t (T.sl 6 ys)), (5, PV.t x), (6, PV.t y),
                                                  (7, PV.t y_1), (8, PV.t y_2), (9, PV.t y_3),
                                                  (10, PV.t (i64 (0)))],
                                            heap := [] })) else .absurd := by kernel_rfl
theorem b8_7 (N : Nat) (xs ys gs ms : List T) (u cur ok : T) (i : Nat) : bodyL env N 8 0 7 ⟨slots 95 [(0, .t (.sl 6 xs)), (1, .t (.sl 6 ys)), (5, .t u), (6, .t (.sl 2 gs)), (7, .t (.sl 6 ms)), (8, .t cur), (9, .t ok), (10, .t (i64 (i : Int)))], []⟩ = bif decide ((↑i : Int) < (↑(List.length ms) : Int)) then
  atT ms (↑i : Int) fun e =>
    atT ms (↑i : Int) fun e_1 =>
      chkAll (T.okE 2) [T.partD e_1 0 2 true]
        (chk
          (match List.length (T.cells (T.partD e 2 4 true)) == 4 with
          | false => false
          | true => true)
          (Res.bind
            (callP env N 21
              [cur,
                T.agg
                  [T.sl 2 [], T.cell (T.partD e 2 4 true) 0, T.cell (T.partD e 2 4 true) 1,
                    T.cell (T.partD e 2 4 true) 2, T.cell (T.partD e 2 4 true) 3, T.sl 2 [T.partD e_1 0 2 true]],
                i64 (1000)])
            fun x =>
            compT x 0 fun y =>
              compT x 1 fun y_1 =>
                bT ok fun b =>
                  bif b then
                    Res.ok
                      (Ex.norm,
                        {
                          tmps :=
                            slots 95
                              [(0, PV.t (T.sl 6 xs)), (1, PV.t (T.sl 6 ys)), (5, PV.t u), (6, PV.t (T.sl 2 gs)),
                                (7, PV.t (T.sl 6 ms)), (8, PV.t y), (9, PV.t y_1),
                                (10, PV.t (i64 (IntKind.wrap IntKind.i64 ((↑i : Int) + 1))))],
                          heap := [] })
                  else
                    Res.ok
                      (Ex.norm,
                        {
                          tmps :=
                            slots 95
                              [(0, PV.t (T.sl 6 xs)), (1, PV.t (T.sl 6 ys)), (5, PV.t u), (6, PV.t (T.sl 2 gs)),
                                (7, PV.t (T.sl 6 ms)), (8, PV.t y), (9, PV.t (T.bool false)),
                                (10, PV.t (i64 (IntKind.wrap IntKind.i64 ((↑i : Int) + 1))))],
                          heap := [] })))
else
  Res.ok
    (Ex.exit 0,
      {
        tmps :=
          slots 95
            [(0, PV.t (T.sl 6 xs)), (1, PV.t (T.sl 6 ys)), (5, PV.t u), (6, PV.t (T.sl 2 gs)), (7, PV.t (T.sl 6 ms)),
              (8, PV.t cur), (9, PV.t ok)],
        heap := [] }) := by kernel_rfl
theorem t23_4_exit0 (N : Nat) (xs ys gs ms : List T) : tailL env N 23 0 4 (outK env 23) (.exit 0) ⟨slots 68 [(0, .t (.sl 6 xs)), (1, .t (.sl 6 ys)), (6, .own 0), (7, .own 1)], [.row 35 2 gs, .row 64 6 ms]⟩ = Res.bind (callP env N 43 [T.sl 6 ys]) fun x =>
  sllT x fun n =>
    loopL env N 23 11
      {
        tmps :=
          slots 68
            [(0, PV.t (T.sl 6 xs)), (6, PV.own 0), (7, PV.own 1), (39, PV.t x), (40, PV.t (i64 n)),
              (41, PV.t (i64 (0)))],
        heap := [AObj.row 35 2 gs, AObj.row 64 6 ms] } := by kernel_rfl
theorem t23_11_exit2 (N : Nat) (gs ms : List T) : tailL env N 23 0 11 (outK env 23) (.exit 2) ⟨slots 68 [(6, .own 0), (7, .own 1)], [.row 35 2 gs, .row 64 6 ms]⟩ = Res.ok (T.tup [T.sl 2 gs, T.sl 6 ms]) := by kernel_rfl
theorem b23_11 (N : Nat) (xs ks gs ms : List T) (i : Nat) : bodyL env N 23 0 11 ⟨slots 68 [(0, .t (.sl 6 xs)), (6, .own 0), (7, .own 1), (39, .t (.sl 6 ks)), (40, .t (i64 (ks.length : Int))), (41, .t (i64 (i : Int)))], [.row 35 2 gs, .row 64 6 ms]⟩ = bif decide ((↑i : Int) < (↑(List.length ks) : Int)) then
  atT ks (↑i : Int) fun e =>
    chk
      (match List.length (T.cells e) == 6 with
      | false => false
      | true =>
        (!(T.isTup e)))
      (Res.bind (callP env N 19 [T.sl 6 xs, T.partD e 0 2 true]) fun x =>
        compT x 0 fun y =>
          compT x 1 fun y_1 =>
            chk
              (match List.length (T.cells y) == 4 with
              | false => false
              | true =>
                (!(T.isTup y)))
              (bT y_1 fun b =>
                bif
                    (!(b)) then
                  chkAll (T.okE 6) [e]
                    (chk (decide ((List.length ms + 1) * (63 + 1) ≤ big))
                      (Res.ok
                        (Ex.norm,
                          {
                            tmps :=
                              slots 68
                                [(0, PV.t (T.sl 6 xs)), (6, PV.own 0), (7, PV.own 1), (39, PV.t (T.sl 6 ks)),
                                  (40, PV.t (i64 (↑(List.length ks) : Int))),
                                  (41, PV.t (i64 (IntKind.wrap IntKind.i64 ((↑i : Int) + 1))))],
                            heap := [AObj.row 35 2 gs, AObj.row 64 6 (ms ++ [e])] })))
                else
                  Res.bind (callP env N 53 [y, T.partD e 2 4 true]) fun x =>
                    bT x fun b =>
                      bif
                          (!(b)) then
                        chkAll (T.okE 6) [e]
                          (chk (decide ((List.length ms + 1) * (63 + 1) ≤ big))
                            (Res.ok
                              (Ex.norm,
                                {
                                  tmps :=
                                    slots 68
                                      [(0, PV.t (T.sl 6 xs)), (6, PV.own 0), (7, PV.own 1), (39, PV.t (T.sl 6 ks)),
                                        (40, PV.t (i64 (↑(List.length ks) : Int))),
                                        (41,
                                          PV.t
                                            (i64 (IntKind.wrap IntKind.i64 ((↑i : Int) + 1))))],
                                  heap := [AObj.row 35 2 gs, AObj.row 64 6 (ms ++ [e])] })))
                      else
                        Res.ok
                          (Ex.norm,
                            {
                              tmps :=
                                slots 68
                                  [(0, PV.t (T.sl 6 xs)), (6, PV.own 0), (7, PV.own 1), (39, PV.t (T.sl 6 ks)),
                                    (40, PV.t (i64 (↑(List.length ks) : Int))),
                                    (41,
                                      PV.t (i64 (IntKind.wrap IntKind.i64 ((↑i : Int) + 1))))],
                              heap := [AObj.row 35 2 gs, AObj.row 64 6 ms] })))
else
  Res.ok (Ex.exit 2, { tmps := slots 68 [(6, PV.own 0), (7, PV.own 1)], heap := [AObj.row 35 2 gs, AObj.row 64 6 ms] }) := by kernel_rfl
theorem t8_7_exit0 (N : Nat) (xs ys gs ms : List T) (u cur ok : T) : tailL env N 8 0 7 (outK env 8) (.exit 0) ⟨slots 95 [(0, .t (.sl 6 xs)), (1, .t (.sl 6 ys)), (5, .t u), (6, .t (.sl 2 gs)), (7, .t (.sl 6 ms)), (8, .t cur), (9, .t ok)], []⟩ = bT u fun b =>
  bif b then
    bT ok fun b =>
      bif b then
        Res.bind (callP env N 26 [cur, T.sl 6 ys]) fun x =>
          bT x fun b =>
            bif b then
              Res.bind (callP env N 30 [T.sl 6 xs, T.sl 6 ys]) fun x =>
                match
                  T.eqLs [1]
                    [T.bool
                        (IntKind.wrap IntKind.i64 ((↑(List.length gs) : Int) + (↑(List.length ms) : Int)) ==
                          0)]
                    [x] with
                | some b => Res.ok (T.bool b)
                | none => Res.stuck
            else Res.ok (T.bool false)
      else Res.ok (T.bool false)
  else Res.ok (T.bool false) := by kernel_rfl
theorem b23_4 (N : Nat) (xs ys ks gs ms : List T) (i : Nat) : bodyL env N 23 0 4 ⟨slots 68 [(0, .t (.sl 6 xs)), (1, .t (.sl 6 ys)), (6, .own 0), (7, .own 1), (17, .t (.sl 6 ks)), (18, .t (i64 (ks.length : Int))), (19, .t (i64 (i : Int)))], [.row 35 2 gs, .row 64 6 ms]⟩ = bif decide ((↑i : Int) < (↑(List.length ks) : Int)) then
  atT ks (↑i : Int) fun e =>
    chk
      (match List.length (T.cells e) == 6 with
      | false => false
      | true =>
        (!(T.isTup e)))
      (Res.bind (callP env N 19 [T.sl 6 ys, T.partD e 0 2 true]) fun x =>
        compT x 0 fun y =>
          compT x 1 fun y_1 =>
            chk
              (match List.length (T.cells y) == 4 with
              | false => false
              | true =>
                (!(T.isTup y)))
              (bT y_1 fun b =>
                bif
                    (!(b)) then
                  chkAll (T.okE 2) [T.partD e 0 2 true]
                    (chk
                      (decide
                        ((List.length gs +
                              1) *
                            (15 + 1) ≤
                          big))
                      (Res.ok
                        (Ex.norm,
                          {
                            tmps :=
                              slots 68
                                [(0, PV.t (T.sl 6 xs)), (1, PV.t (T.sl 6 ys)), (6, PV.own 0), (7, PV.own 1),
                                  (17, PV.t (T.sl 6 ks)), (18, PV.t (i64 (↑(List.length ks) : Int))),
                                  (19, PV.t (i64 (IntKind.wrap IntKind.i64 ((↑i : Int) + 1))))],
                            heap := [AObj.row 35 2 (gs ++ [T.partD e 0 2 true]), AObj.row 64 6 ms] })))
                else
                  Res.ok
                    (Ex.norm,
                      {
                        tmps :=
                          slots 68
                            [(0, PV.t (T.sl 6 xs)), (1, PV.t (T.sl 6 ys)), (6, PV.own 0), (7, PV.own 1),
                              (17, PV.t (T.sl 6 ks)), (18, PV.t (i64 (↑(List.length ks) : Int))),
                              (19, PV.t (i64 (IntKind.wrap IntKind.i64 ((↑i : Int) + 1))))],
                        heap := [AObj.row 35 2 gs, AObj.row 64 6 ms] })))
else
  Res.ok
    (Ex.exit 0,
      { tmps := slots 68 [(0, PV.t (T.sl 6 xs)), (1, PV.t (T.sl 6 ys)), (6, PV.own 0), (7, PV.own 1)],
        heap := [AObj.row 35 2 gs, AObj.row 64 6 ms] }) := by kernel_rfl
end Go.Sim

/- The law of layer 18: what is unlike leads there. -/
namespace Go.Sim
open Go.RowKit Go.Proofs
set_option linter.unusedVariables false
set_option linter.unusedSimpArgs false
set_option maxRecDepth 100000

theorem foldl_pick {α β : Type} (c : α → Bool) (h : α → β) : ∀ (l : List α) (b : List β), l.foldl (fun b x => bif c x then b ++ [h x] else b) b = b ++ (l.filter c).map h
  | [], b => by simp
  | x :: l, b => by
    rw [List.foldl_cons, foldl_pick c h l, List.filter_cons]
    cases c x <;> simp
def goneD (a b : List En) : List Px := ((known a).filter fun e => !(getE b e.x).isSome).map (·.x)
def unlike (a : List En) (e : En) : Bool := bif !(getE a e.x).isSome then true else !eqPa ((getE a e.x).getD Pa.none) e.p
def moreD (a b : List En) : List En := (known b).filter (unlike a)
theorem unlike_iff {a : List En} {e : En} : unlike a e = false ↔ getE a e.x = some e.p := by
  unfold unlike
  cases h : getE a e.x with
  | none => simp
  | some p =>
    have : eqPa p e.p = false ↔ ¬ p = e.p := by rw [← eqPa_iff]; simp
    simp only [Option.isSome, Option.getD, Bool.not_true, cond_false, Bool.not_eq_eq_eq_not, Bool.not_false, eqPa_iff, Option.some.injEq]

/-! ### the program's walk -/
def S23a (a b k : List En) (gs : List Px) (i : Nat) : St := ⟨slots 68 [(0, .t (.sl 6 (a.map En.t))), (1, .t (.sl 6 (b.map En.t))), (6, .own 0), (7, .own 1), (17, .t (.sl 6 (k.map En.t))), (18, .t (i64 ((k.map En.t).length : Int))), (19, .t (i64 (i : Int)))], [.row 35 2 (gs.map Px.t), .row 64 6 []]⟩
def X23a (a b : List En) (gs : List Px) : St := ⟨slots 68 [(0, .t (.sl 6 (a.map En.t))), (1, .t (.sl 6 (b.map En.t))), (6, .own 0), (7, .own 1)], [.row 35 2 (gs.map Px.t), .row 64 6 []]⟩
def S23b (a k : List En) (gs : List Px) (ms : List En) (i : Nat) : St := ⟨slots 68 [(0, .t (.sl 6 (a.map En.t))), (6, .own 0), (7, .own 1), (39, .t (.sl 6 (k.map En.t))), (40, .t (i64 ((k.map En.t).length : Int))), (41, .t (i64 (i : Int)))], [.row 35 2 (gs.map Px.t), .row 64 6 (ms.map En.t)]⟩
def X23b (gs : List Px) (ms : List En) : St := ⟨slots 68 [(6, .own 0), (7, .own 1)], [.row 35 2 (gs.map Px.t), .row 64 6 (ms.map En.t)]⟩
theorem en_cells (e : En) : T.cells e.t = [i64 e.x.a, i64 e.x.n, i64 e.p.o, .sl 1 (ints e.p.s), i64 e.p.h, i64 e.p.c] := rfl
theorem en_tup (e : En) : T.isTup e.t = false := rfl
theorem en_px (e : En) : T.partD e.t 0 2 true = e.x.t := rfl
theorem en_pa (e : En) : T.partD e.t 2 4 true = e.p.t := rfl
theorem chk6 {β : Type} (r : Res β) : chk (match 0 + 1 + 1 + 1 + 1 + 1 + 1 == 6 with | false => false | true => !false) r = r := rfl
theorem chk4 {β : Type} (r : Res β) : chk (match 0 + 1 + 1 + 1 + 1 == 4 with | false => false | true => !false) r = r := rfl
theorem okE_px (x : Px) : T.okE 2 x.t = true := rfl
theorem b23a {m : Nat} {a b k : List En} {gs : List Px} {j : Nat} {e : En} (hM : big + 20 ≤ m) (hx : k[j]? = some e) (hj : j ≤ 1000) (hg : gs.length ≤ 1000) (he : e.ok) (hb : b.length ≤ 1000) (hs : ∀ e ∈ b, e.ok) :
    bodyL env (m + 1) 23 0 4 (S23a a b k gs j) = .ok (.norm, S23a a b k (bif !(getE b e.x).isSome then gs ++ [e.x] else gs) (j + 1)) := by
  have hbg := big_val
  have hlt : j < k.length := (List.getElem?_eq_some_iff.1 hx).1
  unfold S23a
  rw [b23_4, decide_eq_true (show (j : Int) < ((k.map En.t).length : Int) by rw [List.length_map]; omega)]
  simp only [cond_true, atT_get (map_get hx), en_cells, en_tup, en_px]
  rw [f19_ok (by omega) (by omega) hs he.x]
  simp only [Res.bind_ok, compT, List.getElem?_cons_zero, List.getElem?_cons_succ, bT_bool, pa_cells, pa_tup, List.length_cons, List.length_nil, wrap_succ (show j ≤ big by omega)]
  cases h : (getE b e.x).isSome with
  | true => rfl
  | false =>
    simp only [Bool.not_false, cond_true, chkAll, okE_px, List.map_append, List.map_cons, List.map_nil]
    rw [decide_eq_true (show ((gs.map Px.t).length + 1) * (15 + 1) ≤ big by rw [List.length_map]; omega)]
    rfl
theorem b23a_exit {m : Nat} {a b k : List En} {gs : List Px} : bodyL env (m + 1) 23 0 4 (S23a a b k gs k.length) = .ok (.exit 0, X23a a b gs) := by
  unfold S23a X23a
  rw [b23_4, decide_eq_false (by rw [List.length_map]; omega)]
  simp only [cond_false]
theorem b23b {m : Nat} {a k : List En} {gs : List Px} {ms : List En} {j : Nat} {e : En} (hM : big + 20 ≤ m) (hx : k[j]? = some e) (hj : j ≤ 1000) (hg : ms.length ≤ 1000) (he : e.ok) (hb : a.length ≤ 1000) (hs : ∀ e ∈ a, e.ok) :
    bodyL env (m + 1) 23 0 11 (S23b a k gs ms j) = .ok (.norm, S23b a k gs (bif unlike a e then ms ++ [e] else ms) (j + 1)) := by
  have hbg := big_val
  have hlt : j < k.length := (List.getElem?_eq_some_iff.1 hx).1
  unfold S23b
  rw [b23_11, decide_eq_true (show (j : Int) < ((k.map En.t).length : Int) by rw [List.length_map]; omega)]
  simp only [cond_true, atT_get (map_get hx), en_cells, en_tup, en_px, en_pa]
  rw [f19_ok (by omega) (by omega) hs he.x]
  simp only [Res.bind_ok, compT, List.getElem?_cons_zero, List.getElem?_cons_succ, bT_bool, pa_cells, pa_tup, List.length_cons, List.length_nil, wrap_succ (show j ≤ big by omega)]
  rw [f53_ok (by omega) (get_ok hs) he.p]
  have hd := decide_eq_true (show ((ms.map En.t).length + 1) * (63 + 1) ≤ big by rw [List.length_map]; omega)
  unfold unlike
  simp only [Res.bind_ok, bT_bool]
  cases h : (getE a e.x).isSome with
  | false =>
    simp only [Bool.not_false, cond_true, chkAll, okE_en, List.map_append, List.map_cons, List.map_nil]
    rw [hd]; rfl
  | true =>
    cases eqPa ((getE a e.x).getD Pa.none) e.p with
    | true => rfl
    | false =>
      simp only [Bool.not_false, Bool.not_true, cond_true, cond_false, chkAll, okE_en, List.map_append, List.map_cons, List.map_nil]
      rw [hd]; rfl
theorem b23b_exit {m : Nat} {a k : List En} {gs : List Px} {ms : List En} : bodyL env (m + 1) 23 0 11 (S23b a k gs ms k.length) = .ok (.exit 2, X23b gs ms) := by
  unfold S23b X23b
  rw [b23_11, decide_eq_false (by rw [List.length_map]; omega)]
  simp only [cond_false]
theorem pick_len {α β : Type} (c : α → Bool) (h : α → β) (b : List β) (x : α) : (bif c x then b ++ [h x] else b).length ≤ b.length + 1 := by cases c x <;> simp
theorem f23_ok {M : Nat} {a b : List En} (hM : big + 40 ≤ M) (ha : a.length ≤ 900) (hb : b.length ≤ 900) (hs : ∀ e ∈ a, e.ok) (hs' : ∀ e ∈ b, e.ok) :
    callP env (M + 1) 23 [.sl 6 (a.map En.t), .sl 6 (b.map En.t)] = .ok (.tup [.sl 2 ((goneD a b).map Px.t), .sl 6 ((moreD a b).map En.t)]) := by
  have hbg := big_val
  obtain ⟨m, rfl⟩ : ∃ m, M = m + 1 := ⟨M - 1, by omega⟩
  have hw := wfs2 (wf_sl (k := 6) (show a.length ≤ big by omega) fun e he => (hs e he).wf) (wf_sl (k := 6) (show b.length ≤ big by omega) fun e he => (hs' e he).wf)
  have h1 := f43_ok (M := m) (l := a) (by omega) (by omega) hs
  have h2 := f43_ok (M := m) (l := b) (by omega) (by omega) hs'
  have k1 := known_len a
  have k2 := known_len b
  rw [e23, hw, h1]
  simp only [cond_true, Res.bind_ok, sllT]
  have l1 := (iter_fold (B := bodyL env (m + 1) 23 0 4) (S := fun gs i => S23a a b (known a) gs i) (X := fun gs => X23a a b gs) (id := 0) (fun gs j => gs.length ≤ j) (fun gs e => bif !(getE b e.x).isSome then gs ++ [e.x] else gs) (known a) (n := m + 1) [] (by omega)
    (fun gs j e hx hI => by
      have hlt : j < (known a).length := (List.getElem?_eq_some_iff.1 hx).1
      refine ⟨b23a (by omega) hx (by omega) (by omega) (hs _ (known_sub (List.mem_of_getElem? hx))) (by omega) hs', ?_⟩
      have := pick_len (fun e : En => !(getE b e.x).isSome) (·.x) gs e
      exact Nat.le_trans this (by omega)) (fun gs _ => b23a_exit) (Nat.zero_le _)).1
  rw [foldl_pick (fun e : En => !(getE b e.x).isSome) (·.x), List.nil_append] at l1
  rw [show (⟨slots 68 [(0, .t (.sl 6 (a.map En.t))), (1, .t (.sl 6 (b.map En.t))), (6, .own 0), (7, .own 1), (17, .t (.sl 6 ((known a).map En.t))), (18, .t (i64 (((known a).map En.t).length : Int))), (19, .t (i64 0))], [.row 35 2 [], .row 64 6 []]⟩ : St) = S23a a b (known a) [] 0 from rfl]
  unfold loopL
  rw [l1, Res.bind_ok]
  show tailL env (m + 1) 23 0 4 (outK env 23) (.exit 0) (X23a a b (goneD a b)) = _
  unfold X23a
  rw [t23_4_exit0, h2]
  simp only [Res.bind_ok, sllT]
  have l2 := (iter_fold (B := bodyL env (m + 1) 23 0 11) (S := fun ms i => S23b a (known b) (goneD a b) ms i) (X := fun ms => X23b (goneD a b) ms) (id := 2) (fun ms j => ms.length ≤ j) (fun ms e => bif unlike a e then ms ++ [e] else ms) (known b) (n := m + 1) [] (by omega)
    (fun ms j e hx hI => by
      have hlt : j < (known b).length := (List.getElem?_eq_some_iff.1 hx).1
      refine ⟨b23b (by omega) hx (by omega) (by omega) (hs' _ (known_sub (List.mem_of_getElem? hx))) (by omega) hs, ?_⟩
      have := pick_len (unlike a) (fun e => e) ms e
      exact Nat.le_trans this (by omega)) (fun ms _ => b23b_exit) (Nat.zero_le _)).1
  rw [foldl_pick (unlike a) (fun e => e), List.nil_append, List.map_id'] at l2
  rw [show (⟨slots 68 [(0, .t (.sl 6 (a.map En.t))), (6, .own 0), (7, .own 1), (39, .t (.sl 6 ((known b).map En.t))), (40, .t (i64 (((known b).map En.t).length : Int))), (41, .t (i64 0))], [.row 35 2 ((goneD a b).map Px.t), .row 64 6 []]⟩ : St) = S23b a (known b) (goneD a b) [] 0 from rfl]
  unfold loopL
  rw [l2, Res.bind_ok]
  show tailL env (m + 1) 23 0 11 (outK env 23) (.exit 2) (X23b (goneD a b) (moreD a b)) = _
  unfold X23b
  rw [t23_11_exit2]

/-! ### the plain law -/
def stepD (t : List En) (e : En) : List En := applyE t ⟨[], e.p, [e.x]⟩
theorem mem_stepD {t : List En} (ht : known t = t) {e f : En} (he : psane e.x = true ∧ asane e.p = true) : f ∈ stepD t e ↔ f = e ∨ (f ∈ t ∧ f.x ≠ e.x) := by
  unfold stepD
  rw [mem_apply, ht]
  simp only [Told, List.mem_singleton, List.not_mem_nil, not_false_eq_true, true_and, he.2, and_true]
  constructor
  · rintro (⟨⟨h1, _⟩, h2⟩ | ⟨h1, h2⟩)
    · exact .inl (En.ext' h1 h2)
    · exact .inr ⟨h1, fun h => h2 ⟨h, h ▸ he.1⟩⟩
  · rintro (rfl | ⟨h1, h2⟩)
    · exact .inl ⟨⟨rfl, he.1⟩, rfl⟩
    · exact .inr ⟨h1, fun h => h2 h.1⟩
theorem mem_stepsD : ∀ (ms : List En) {t : List En}, known t = t → Rise ms → (∀ e ∈ ms, psane e.x = true ∧ asane e.p = true) → ∀ {f : En}, f ∈ ms.foldl stepD t ↔ f ∈ ms ∨ (f ∈ t ∧ ∀ e ∈ ms, e.x ≠ f.x)
  | [], t, _, _, _, f => by simp
  | e :: ms, t, ht, hr, hs, f => by
    obtain ⟨h1, h2⟩ := List.pairwise_cons.1 hr
    have hse := hs e List.mem_cons_self
    rw [List.foldl_cons, mem_stepsD ms (t := stepD t e) known_apply h2 (fun g hg => hs g (List.mem_cons_of_mem _ hg)), mem_stepD ht hse]
    constructor
    · rintro (h | ⟨rfl | ⟨h3, h4⟩, h5⟩)
      · exact .inl (List.mem_cons_of_mem _ h)
      · exact .inl List.mem_cons_self
      · refine .inr ⟨h3, fun g hg => ?_⟩
        rcases List.mem_cons.1 hg with rfl | hg
        · exact fun h => h4 h.symm
        · exact h5 g hg
    · rintro (h | ⟨h3, h4⟩)
      · rcases List.mem_cons.1 h with rfl | h
        · exact .inr ⟨.inl rfl, fun g hg h => ltP_irrefl _ (h ▸ h1 g hg)⟩
        · exact .inl h
      · exact .inr ⟨.inr ⟨h3, fun h => h4 e List.mem_cons_self h.symm⟩, fun g hg => h4 g (List.mem_cons_of_mem _ hg)⟩
theorem rise_more (a b : List En) : Rise (moreD a b) := List.Pairwise.sublist List.filter_sublist (rise_known b)
theorem rise_steps : ∀ (ms : List En) {t : List En}, Rise t → Rise (ms.foldl stepD t)
  | [], t, h => h
  | e :: ms, t, h => rise_steps ms (rise_apply _ _)
theorem leads_law {a b : List En} (ha : tsane a = true) (hb : tsane b = true) : (moreD a b).foldl stepD (applyE a ⟨goneD a b, Pa.none, []⟩) = b := by
  have ka := known_sane ha
  have kb := known_sane hb
  refine rise_ext (rise_steps _ (rise_apply _ _)) (tsane_iff.1 hb).1 fun f => ?_
  have hmem : ∀ e, e ∈ moreD a b ↔ e ∈ b ∧ getE a e.x ≠ some e.p := fun e => by
    unfold moreD
    rw [List.mem_filter, kb, ← Bool.not_eq_false, unlike_iff]
  have hgone : ∀ x, x ∈ goneD a b ↔ (∃ e ∈ a, e.x = x) ∧ getE b x = none := fun x => by
    unfold goneD
    rw [List.mem_map, ka]
    constructor
    · rintro ⟨e, he, rfl⟩
      rw [List.mem_filter] at he
      exact ⟨⟨e, he.1, rfl⟩, by simpa using he.2⟩
    · rintro ⟨⟨e, he, rfl⟩, h⟩
      exact ⟨e, List.mem_filter.2 ⟨he, by simp [h]⟩, rfl⟩
  rw [mem_stepsD _ known_apply (rise_more a b) (fun e he => (tsane_iff.1 hb).2 e ((hmem e).1 he).1), mem_apply, ka, hmem]
  have hnt : ¬ Told Pa.none [] f.x := fun h => by cases h.1
  constructor
  · rintro (h | ⟨⟨h, _⟩ | ⟨h1, h2, _⟩, h3⟩)
    · exact h.1
    · exact absurd h hnt
    · rw [hgone] at h2
      cases hg : getE b f.x with
      | none => exact absurd ⟨⟨f, h1, rfl⟩, hg⟩ h2
      | some p =>
        have hp := get_iff.1 hg
        rw [kb] at hp
        by_cases hq : getE a f.x = some p
        · have h4 := get_iff.1 hq
          rw [ka] at h4
          have := rise_inj (tsane_iff.1 ha).1 h1 h4 rfl
          rw [this]; exact hp
        · exact absurd rfl (h3 ⟨f.x, p⟩ ((hmem _).2 ⟨hp, hq⟩))
  · intro h
    have hfb : getE b f.x = some f.p := get_iff.2 (by rw [kb]; exact h)
    by_cases hq : getE a f.x = some f.p
    · have h4 := get_iff.1 hq
      rw [ka] at h4
      refine .inr ⟨.inr ⟨h4, fun h5 => ?_, hnt⟩, fun e he hx => ?_⟩
      · rw [hgone] at h5
        rw [hfb] at h5
        cases h5.2
      · have h6 := (hmem e).1 he
        have := rise_inj (tsane_iff.1 hb).1 h6.1 h hx
        subst this
        exact h6.2 hq
    · exact .inl ⟨h, hq⟩
theorem unlike_law {a b : List En} (ha : tsane a = true) (hb : tsane b = true) : ((goneD a b).length + (moreD a b).length = 0) ↔ a = b := by
  have ka := known_sane ha
  have kb := known_sane hb
  constructor
  · intro h
    have h1 : goneD a b = [] := List.eq_nil_of_length_eq_zero (by omega)
    have h2 : moreD a b = [] := List.eq_nil_of_length_eq_zero (by omega)
    have := leads_law ha hb
    rw [h1, h2] at this
    rw [← this]
    refine rise_ext (tsane_iff.1 ha).1 (rise_apply _ _) fun e => ?_
    rw [List.foldl_nil, mem_apply, ka]
    simp [Told]
  · rintro rfl
    have h1 : goneD a a = [] := by
      unfold goneD
      rw [List.map_eq_nil_iff, List.filter_eq_nil_iff]
      intro e he
      rw [get_iff.2 he]; simp
    have h2 : moreD a a = [] := by
      unfold moreD
      rw [List.filter_eq_nil_iff]
      intro e he
      rw [unlike_iff.2 (get_iff.2 he)]; simp
    rw [h1, h2]; rfl
end Go.Sim

/- The law of layer 18 on what is unlike, walked. -/
namespace Go.Sim
open Go.RowKit Go.Proofs
set_option linter.unusedVariables false
set_option linter.unusedSimpArgs false
set_option maxRecDepth 100000

def S8s (a b : List En) (gs : List Px) (ms cur : List En) (i : Nat) : St := ⟨slots 95 [(0, .t (.sl 6 (a.map En.t))), (1, .t (.sl 6 (b.map En.t))), (5, .t (.bool true)), (6, .t (.sl 2 (gs.map Px.t))), (7, .t (.sl 6 (ms.map En.t))), (8, .t (.sl 6 (cur.map En.t))), (9, .t (.bool true)), (10, .t (i64 (i : Int)))], []⟩
def X8s (a b : List En) (gs : List Px) (ms cur : List En) : St := ⟨slots 95 [(0, .t (.sl 6 (a.map En.t))), (1, .t (.sl 6 (b.map En.t))), (5, .t (.bool true)), (6, .t (.sl 2 (gs.map Px.t))), (7, .t (.sl 6 (ms.map En.t))), (8, .t (.sl 6 (cur.map En.t))), (9, .t (.bool true))], []⟩
theorem none_ok : Pa.none.ok := ⟨by decide, by simp [Pa.none], by simp [Pa.none], by decide, by decide⟩
theorem one_ok {e : En} (he : e.ok) : (⟨[], e.p, [e.x]⟩ : Nw).ok := ⟨by simp, by simp, he.p, by simpa using he.x, by simp [big_val]⟩
theorem b8_step {m : Nat} {a b : List En} {gs : List Px} {ms cur : List En} {j : Nat} {e : En} (hM : big + 20 ≤ m) (hx : ms[j]? = some e) (hj : j ≤ 1000) (he : e.ok) (hc : cur.length ≤ 900) (hs : ∀ e ∈ cur, e.ok) :
    bodyL env (m + 1) 8 0 7 (S8s a b gs ms cur j) = .ok (.norm, S8s a b gs ms (stepD cur e) (j + 1)) := by
  have hbg := big_val
  have hlt : j < ms.length := (List.getElem?_eq_some_iff.1 hx).1
  have g := f21_room (M := m) (t := cur) (n := ⟨[], e.p, [e.x]⟩) (by omega) hc hs (one_ok he) (by simp)
  unfold S8s
  rw [b8_7, decide_eq_true (show (j : Int) < ((ms.map En.t).length : Int) by rw [List.length_map]; omega)]
  simp only [cond_true, atT_get (map_get hx), en_px, en_pa, pa_cells, List.length_cons, List.length_nil]
  have e1 : T.agg [T.sl 2 [], T.cell (Pa.t e.p) 0, T.cell (Pa.t e.p) 1, T.cell (Pa.t e.p) 2, T.cell (Pa.t e.p) 3, T.sl 2 [Px.t e.x]] = Nw.t ⟨[], e.p, [e.x]⟩ := rfl
  rw [e1, g]
  simp only [Res.bind_ok, compT, List.getElem?_cons_zero, List.getElem?_cons_succ, bT_bool, cond_true, wrap_succ (show j ≤ big by omega), chkAll, okE_px]
  rfl
theorem b8_exit {m : Nat} {a b : List En} {gs : List Px} {ms cur : List En} : bodyL env (m + 1) 8 0 7 (S8s a b gs ms cur ms.length) = .ok (.exit 0, X8s a b gs ms cur) := by
  unfold S8s X8s
  rw [b8_7, decide_eq_false (by rw [List.length_map]; omega)]
  simp only [cond_false]
theorem t8_end {k : Nat} {a b : List En} (hM : big + 40 ≤ k) (hta : tsane a = true) (htb : tsane b = true) (k1 : a.length ≤ 40) (k2 : b.length ≤ 40) (hs : ∀ e ∈ a, e.ok) (hs' : ∀ e ∈ b, e.ok) (n1 : (goneD a b).length ≤ 40) (n2 : (moreD a b).length ≤ 40) :
    tailL env (k + 1) 8 0 7 (outK env 8) (.exit 0) (X8s a b (goneD a b) (moreD a b) b) = .ok (.bool true) := by
  have hbg := big_val
  have g1 := f26_ok (M := k) (l := b) (l' := b) (by omega) (by omega) (by omega) hs' hs'
  have g2 := f30_ok (M := k) (l := a) (l' := b) (by omega) (by omega) (by omega) hs hs'
  unfold X8s
  rw [t8_7_exit0, g1, g2, sameE_refl]
  simp only [Res.bind_ok, bT_bool, cond_true, List.length_map, eqLs_bool]
  have h3 : IntKind.i64.wrap (((goneD a b).length : Int) + ((moreD a b).length : Int)) = (((goneD a b).length + (moreD a b).length : Nat) : Int) := by rw [wrap64 (by omega)]; omega
  rw [h3]
  have h4 : ((((goneD a b).length + (moreD a b).length : Nat) : Int) == 0) = sameE a b := by
    rw [Bool.eq_iff_iff, beq_iff_eq, sameE_iff, ← unlike_law hta htb]; omega
  rw [h4, beq_self_eq_true]
theorem f8_ok {M : Nat} {a b : List En} (hM : big + 70 ≤ M) (hl : a.length ≤ big) (hl' : b.length ≤ big) (hs : ∀ e ∈ a, e.ok) (hs' : ∀ e ∈ b, e.ok) :
    callP env (M + 1) 8 [.sl 6 (a.map En.t), .sl 6 (b.map En.t)] = .ok (.bool true) := by
  have hbg := big_val
  obtain ⟨k, rfl⟩ : ∃ k, M = k + 1 := ⟨M - 1, by omega⟩
  have hw := wfs2 (wf_sl (k := 6) hl fun e he => (hs e he).wf) (wf_sl (k := 6) hl' fun e he => (hs' e he).wf)
  obtain ⟨q, hq⟩ : ∃ q, k + 1 = q + 40 := ⟨k + 1 - 40, by omega⟩
  have h16 : callP env (k + 1) 16 [] = .ok (.bool true) := by rw [hq]; exact awake18 q
  rw [e8, hw, h16, f17_ok (by omega) hl hs, f17_ok (by omega) hl' hs', f28_ok (by omega) hl hs, f28_ok (by omega) hl' hs']
  simp only [cond_true, Res.bind_ok, bT_bool]
  cases hf : fewE a with
  | false => rfl
  | true =>
  cases hf' : fewE b with
  | false => rfl
  | true =>
  cases hta : tsane a with
  | false => rfl
  | true =>
  cases htb : tsane b with
  | false => rfl
  | true =>
  simp only [Bool.not_true, cond_false]
  have k1 := few_len hf
  have k2 := few_len hf'
  have n1 : (goneD a b).length ≤ 40 := by
    have := List.length_filter_le (fun e => !(getE b e.x).isSome) (known a)
    have := known_len a
    unfold goneD; rw [List.length_map]; omega
  have n2 : (moreD a b).length ≤ 40 := by
    have := List.length_filter_le (unlike a) (known b)
    have := known_len b
    unfold moreD; omega
  have hgo : (⟨goneD a b, Pa.none, []⟩ : Nw).ok := ⟨fun x hx => by
      obtain ⟨e, he, rfl⟩ := List.mem_map.1 hx
      exact (hs e (known_sub (List.mem_filter.1 he).1)).x, by show (goneD a b).length ≤ big; omega, none_ok, by simp, by simp⟩
  have hmo : ∀ e ∈ moreD a b, e.ok := fun e he => hs' e (known_sub (List.mem_filter.1 he).1)
  rw [f23_ok (by omega) (by omega) (by omega) hs hs']
  simp only [Res.bind_ok, compT, List.getElem?_cons_zero, List.getElem?_cons_succ]
  have g := f21_room (M := k) (t := a) (n := ⟨goneD a b, Pa.none, []⟩) (by omega) (by omega) hs hgo (by simp)
  have e1 : T.agg [T.cell (T.sl 2 ((goneD a b).map Px.t)) 0, i64 0, T.sl 1 [], i64 0, i64 0, T.sl 2 []] = Nw.t ⟨goneD a b, Pa.none, []⟩ := rfl
  rw [e1, g]
  simp only [Res.bind_ok, compT, List.getElem?_cons_zero, List.getElem?_cons_succ]
  have z := applyE_len a ⟨goneD a b, Pa.none, []⟩
  simp only [List.length_nil] at z
  have l1 := (iter_fold (B := bodyL env (k + 1) 8 0 7) (S := fun cur i => S8s a b (goneD a b) (moreD a b) cur i) (X := fun cur => X8s a b (goneD a b) (moreD a b) cur) (id := 0) (fun cur j => cur.length ≤ 40 + j ∧ ∀ e ∈ cur, e.ok) stepD (moreD a b) (n := k + 1) (applyE a ⟨goneD a b, Pa.none, []⟩) (by omega)
    (fun cur j e hx hI => by
      have hlt : j < (moreD a b).length := (List.getElem?_eq_some_iff.1 hx).1
      have heo := hmo e (List.mem_of_getElem? hx)
      refine ⟨b8_step (by omega) hx (by omega) heo (by omega) hI.2, ?_, applyE_ok hI.2 (one_ok heo)⟩
      have := applyE_len cur ⟨[], e.p, [e.x]⟩
      simp only [List.length_cons, List.length_nil] at this
      exact Nat.le_trans this (by omega)) (fun cur _ => b8_exit) ⟨by omega, applyE_ok hs hgo⟩).1
  rw [leads_law hta htb] at l1
  have h8 : loopL env (k + 1) 8 7 (S8s a b (goneD a b) (moreD a b) (applyE a ⟨goneD a b, Pa.none, []⟩) 0) = .ok (.bool true) := by
    unfold loopL
    rw [l1, Res.bind_ok]
    exact t8_end (by omega) hta htb k1 k2 hs hs' n1 n2
  exact h8
end Go.Sim
