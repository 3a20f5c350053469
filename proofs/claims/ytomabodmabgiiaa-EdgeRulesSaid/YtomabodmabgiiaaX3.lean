/- The texts of a proof, one behind the other: an interpreter and its soundness, what the functions of the program answer, and plain laws on that. -/
import Derived.Test.YtomabodmabgiiaaX2
import Derived.Test.YtomabodmabgiiaaX1
import Derived.Test.YtomabodmabgiiaaK3
set_option linter.unusedVariables false
set_option linter.unusedSimpArgs false
set_option linter.unnecessarySimpa false
set_option linter.unusedSectionVars false
/- RiseBounds and RiseWorse: their calls come to 'true'. -/
namespace Go.Sim
open Go.RowKit Go.Proofs
set_option linter.unusedVariables false
set_option linter.unusedSimpArgs false
set_option linter.unusedSectionVars false
set_option maxRecDepth 100000
variable [Lv]
theorem inR_ok {c : Cf} {k : Int} {x : Px} {p : Pa} {r : Rt} (h : inR c k x p = some r) (hc : c.ok) (hk : ok64 k = true) (hp : p.ok) : r.ok := by
  obtain ⟨h1, h2, h3, i, s, m, u, rfl, hi, hs, h4, h5, h6, h7, h8, h9, rfl⟩ := inR_spec h
  have ho := hc.s.2 _ (List.mem_of_getElem? hs)
  obtain ⟨s1, s2, s3, s4, s5, s6⟩ := side_parts h1 hs
  obtain ⟨p1, p2, p3, p4, p5, p6, p7, p8⟩ := asane_parts h3
  have hm : ok64 m = true := by
    have := orI_pos p7 s1
    have := orI_le p8 s2
    refine ok64_iff.2 ?_
    unfold roleIn at h7
    repeat' split at h7
    all_goals first | (injection h7 with h7; omega) | cases h7
  exact ⟨(ho.i.2 u (pick_mem h8).1).n, ⟨hp.o, hp.l, hp.s, hp.h, hm⟩, hk⟩
theorem outR_ok {c : Cf} {k : Int} {x : Px} {r : Rt} {q : Pa} (h : outR c k x r = some q) (hc : c.ok) (hr : r.ok) : q.ok := by
  have hq := (tells_law h).2.2.1
  have hl := (tells_law h).2.2.2.2.2.2.1
  obtain ⟨p1, p2, p3, p4, p5, p6, p7, p8⟩ := asane_parts hq
  have hb := big_val
  refine ⟨ok64_iff.2 (by omega), by omega, fun n hn => ok64_iff.2 (by have := p1 n hn; omega), ok64_iff.2 (by omega), ok64_iff.2 (by omega)⟩
def zRt : Rt := ⟨0, ⟨0, [], 0, 0⟩, 0⟩
def zPa : Pa := ⟨0, [], 0, 0⟩
theorem zRt_ok : zRt.ok := ⟨rfl, ⟨rfl, Nat.zero_le _, fun _ h => (by cases h), rfl, rfl⟩, rfl⟩
theorem zPa_ok : zPa.ok := ⟨rfl, Nat.zero_le _, fun _ h => (by cases h), rfl, rfl⟩
theorem optR_eq (o : Option Rt) : optR o = .tup [(o.getD zRt).t, .bool o.isSome] := by cases o <;> rfl
theorem optP_eq (o : Option Pa) : optP o = .tup [(o.getD zPa).t, .bool o.isSome] := by cases o <;> rfl
theorem inD_ok {c : Cf} {k : Int} {x : Px} {p : Pa} (hc : c.ok) (hk : ok64 k = true) (hp : p.ok) : ((inR c k x p).getD zRt).ok := by
  cases h : inR c k x p with
  | none => exact zRt_ok
  | some r => exact inR_ok h hc hk hp
theorem outD_ok {c : Cf} {k : Int} {x : Px} {r : Rt} (hc : c.ok) (hr : r.ok) : ((outR c k x r).getD zPa).ok := by
  cases h : outR c k x r with
  | none => exact zPa_ok
  | some q => exact outR_ok h hc hr
theorem few_small {c : Cf} (h : few12 c = true) : smallC c := by
  have hb := big_val
  intro s hs
  unfold few12 at h
  simp only [Bool.and_eq_true, List.all_eq_true, decide_eq_true_eq] at h
  have := h.1 s hs
  omega
theorem class_ok {c : Cf} {k : Int} (h : c.ok) : ok64 (classI c k) = true := by
  unfold classI
  split
  · split
    · rename_i t ht; exact (h.s.2 _ (List.mem_of_getElem? ht)).r
    · rfl
  · rfl
theorem rt_chk {r : Rt} : (r.t.cells.length == 6 && !r.t.isTup) = true := rfl
theorem pa_chk {p : Pa} : (p.t.cells.length == 4 && !p.t.isTup) = true := rfl
theorem f8_ok {M : Nat} {c : Cf} {k j : Int} {x : Px} {p : Pa} (hM : big + 22 ≤ M) (h : c.ok) (hk : ok64 k = true) (hj : ok64 j = true) (hx : x.ok) (hp : p.ok) :
    callP env (M + 1) 8 [c.t, i64 k, i64 j, x.t, p.t] = .ok (.bool true) := by
  obtain ⟨m, rfl⟩ := exM (show 1 ≤ M by omega)
  have hw : T.wfs [c.t, i64 k, i64 j, x.t, p.t] = true := by
    have h1 := h.wf; have h2 := wf_int hk; have h3 := hx.wf; have h4 := hp.wf; have h5 := wf_int hj
    simp only [T.wfs, h1, h2, h3, h4, h5, Bool.and_self]
  rw [q8, W_ok hw, cl_ok (f22_ok (by omega)), clB_ok (f23_ok (by omega) h)]
  cases hf : few12 c with
  | false => rfl
  | true =>
  have hsm := few_small hf
  simp only [Bool.not_true, cond_false]
  cases hl : decide (((ints p.s).length : Int) > 100) with
  | true => rfl
  | false =>
  simp only [cond_false]
  rw [cl_ok (f12_ok (by omega) h hk hx hp), optR_eq]
  simp only [compT, List.getElem?_cons_zero, List.getElem?_cons_succ, rt_chk, chk_true, bT_bool]
  cases hr : inR c k x p with
  | none => rfl
  | some r =>
  have hro := inR_ok hr h hk hp
  obtain ⟨l, u, e1, e2, e3, e4⟩ := bounds_law hr
  have hrf : r.f = k := (takes_law hr).2.2.1
  simp only [Option.getD_some, Option.isSome_some, Bool.not_true, cond_false]
  rw [cl_ok (f19_ok (by omega) h hk), cl_ok (f24_ok (by omega) h (class_ok h) hsm), e1]
  simp only [compT, List.getElem?_cons_zero, List.getElem?_cons_succ]
  rw [cl_ok (f25_ok (by omega) h hk hsm), e2]
  simp only [compT, List.getElem?_cons_zero, List.getElem?_cons_succ]
  rw [cl_ok (f17_ok (by omega) h hj hx hro), optP_eq]
  simp only [compT, List.getElem?_cons_zero, List.getElem?_cons_succ, pa_chk, chk_true, bT_bool, cond_true, Option.getD_some, Option.isSome_some]
  have e5 : r.t.partD 0 1 false = i64 r.n := rfl
  rw [e5]
  simp only [iT_int]
  rw [decide_eq_true e3, decide_eq_true e4]
  simp only [cond_true]
  cases hq : outR c j x r with
  | none => rfl
  | some q =>
  have := goes_law hq
  rw [hrf] at this
  simp only [Option.isSome_some, Bool.not_true, cond_false]
  rw [cl_ok (f26_ok (by omega) h hj (class_ok h) hsm), this]
theorem f9_ok {M : Nat} {a b : Cf} {k : Int} {x : Px} {p : Pa} {o : Bool} (hM : big + 22 ≤ M) (h : a.ok) (h' : b.ok) (hk : ok64 k = true) (hx : x.ok) (hp : p.ok) :
    callP env (M + 1) 9 [a.t, b.t, i64 k, x.t, p.t, .bool o] = .ok (.bool true) := by
  obtain ⟨m, rfl⟩ := exM (show 1 ≤ M by omega)
  have hw : T.wfs [a.t, b.t, i64 k, x.t, p.t, .bool o] = true := by
    have h1 := h.wf; have h2 := wf_int hk; have h3 := hx.wf; have h4 := hp.wf; have h5 := h'.wf; have h6 := wf_bool o
    simp only [T.wfs, h1, h2, h3, h4, h5, h6, Bool.and_self]
  rw [q9, W_ok hw, cl_ok (f22_ok (by omega)), clB_ok (f23_ok (by omega) h)]
  cases h1 : few12 a with
  | false => rfl
  | true =>
  simp only [Bool.not_true, cond_false]
  rw [clB_ok (f23_ok (by omega) h')]
  cases h2 : few12 b with
  | false => rfl
  | true =>
  simp only [Bool.not_true, cond_false]
  cases hl : decide (((ints p.s).length : Int) > 100) with
  | true => rfl
  | false =>
  simp only [cond_false]
  rw [clB_ok (f27_ok (by omega) h h')]
  cases h3 : risesB a b with
  | false => rfl
  | true =>
  obtain ⟨g1, g2, g3, g4, _⟩ := rises_iff.1 h3
  obtain ⟨i, s, hi, hil, hs⟩ := idx_nat g3
  obtain ⟨j, t, hj, hjl, ht⟩ := idx_nat g4
  have hbg := big_val
  have hib : ok64 (sideI a b.a) = true := by rw [hi]; have := h.s.1; exact ok64_iff.2 (by omega)
  have hjb : ok64 (sideI b a.a) = true := by rw [hj]; have := h'.s.1; exact ok64_iff.2 (by omega)
  simp only [Bool.not_true, cond_false]
  rw [cl_ok (f28_ok (by omega) h h'.a)]
  simp only [compT, List.getElem?_cons_zero, List.getElem?_cons_succ]
  rw [cl_ok (f28_ok (by omega) h' h.a), g3, g4]
  simp only [compT, List.getElem?_cons_zero, List.getElem?_cons_succ]
  rw [cl_ok (f12_ok (by omega) h hk hx hp), optR_eq]
  simp only [compT, List.getElem?_cons_zero, List.getElem?_cons_succ, rt_chk, chk_true]
  cases o with
  | true =>
    simp only [cond_true]
    rw [cl_ok (f29_ok h.d)]
    simp only [rt_chk, chk_true]
    rw [cl_ok (f17_ok (by omega) h hib hx (ownR_ok h.d)), optP_eq]
    simp only [compT, List.getElem?_cons_zero, List.getElem?_cons_succ, pa_chk, chk_true]
    rw [cl_ok (f12_ok (by omega) h' hjb hx (outD_ok h (ownR_ok h.d))), optR_eq]
    simp only [compT, List.getElem?_cons_zero, List.getElem?_cons_succ, rt_chk, chk_true, bT_bool, Bool.not_true, cond_false, cond_true]
    cases hq : outR a (sideI a b.a) x (ownR a.d) with
    | none => rfl
    | some q =>
    simp only [Option.isSome_some, Bool.not_true, cond_false, Option.getD_some]
    cases hv : inR b (sideI b a.a) x q with
    | none => rfl
    | some v =>
    simp only [Option.isSome_some, Bool.not_true, cond_false, Option.getD_some]
    rw [clI_ok (f30_ok (by omega) (ownR_ok h.d) (inR_ok hv h' hjb (outR_ok hq h (ownR_ok h.d)))), decide_eq_true (worse_law h3 (.inr rfl) hq hv)]
  | false =>
    simp only [cond_false]
    rw [cl_ok (f17_ok (by omega) h hib hx (inD_ok h hk hp)), optP_eq]
    simp only [compT, List.getElem?_cons_zero, List.getElem?_cons_succ, pa_chk, chk_true]
    rw [cl_ok (f12_ok (by omega) h' hjb hx (outD_ok h (inD_ok h hk hp))), optR_eq]
    simp only [compT, List.getElem?_cons_zero, List.getElem?_cons_succ, rt_chk, chk_true, bT_bool, Bool.not_true, cond_false, cond_true]
    cases hr : inR a k x p with
    | none => rfl
    | some r =>
    have hro := inR_ok hr h hk hp
    simp only [Option.isSome_some, Bool.not_true, cond_false, Option.getD_some]
    cases hq : outR a (sideI a b.a) x r with
    | none => rfl
    | some q =>
    simp only [Option.isSome_some, Bool.not_true, cond_false, Option.getD_some]
    cases hv : inR b (sideI b a.a) x q with
    | none => rfl
    | some v =>
    simp only [Option.isSome_some, Bool.not_true, cond_false, Option.getD_some]
    rw [clI_ok (f30_ok (by omega) hro (inR_ok hv h' hjb (outR_ok hq h hro))), decide_eq_true (worse_law h3 (.inl ⟨k, p, hr⟩) hq hv)]
end Go.Sim

/- What calls come to: printed by wip/tools/eq2.py: laws of layer 14. -/
namespace Go.Sim
open Go.RowKit Go.Proofs
set_option linter.unusedVariables false
set_option maxRecDepth 100000
variable [Lv]


def sSP (a b : Pa) (i : Int) : St := ⟨slots 52 [(2, .ptr 0 0), (3, .ptr 1 0), (5, .t (i64 i))], [.box 30 4 (.t a.t), .box 30 4 (.t b.t)]⟩
theorem q31 (N : Nat)  : callP env (N + 1) 31 [] = W [] (chkAll (T.okE 6) [T.agg [i64 0, i64 0, i64 0, i64 0, i64 2, i64 300]] (chkAll (T.okE 6) [T.agg [i64 0, i64 0, i64 0, i64 0, i64 1, i64 0]] (chkAll (T.okE 6) [T.agg [i64 0, i64 0, i64 0, i64 0, i64 2, i64 100]] (chkAll (T.okE 6) [T.agg [i64 0, i64 0, i64 0, i64 0, i64 3, i64 1]] (chkAll (T.okE 4) [T.agg [i64 65002, i64 1, T.sl 6 [T.agg [i64 0, i64 0, i64 0, i64 0, i64 2, i64 300]], T.sl 6 [T.agg [i64 0, i64 0, i64 0, i64 0, i64 1, i64 0]]], T.agg [i64 65003, i64 3, T.sl 6 [T.agg [i64 0, i64 0, i64 0, i64 0, i64 2, i64 100]], T.sl 6 [T.agg [i64 0, i64 0, i64 0, i64 0, i64 3, i64 1]]]] (Res.ok (T.agg [i64 65001, i64 9, i64 0, i64 9, T.sl 2 [], T.sl 4 [T.agg [i64 65002, i64 1, T.sl 6 [T.agg [i64 0, i64 0, i64 0, i64 0, i64 2, i64 300]], T.sl 6 [T.agg [i64 0, i64 0, i64 0, i64 0, i64 1, i64 0]]], T.agg [i64 65003, i64 3, T.sl 6 [T.agg [i64 0, i64 0, i64 0, i64 0, i64 2, i64 100]], T.sl 6 [T.agg [i64 0, i64 0, i64 0, i64 0, i64 3, i64 1]]]]]))))))) := by kernel_rfl
theorem q10 (N : Nat)  : callP env (N + 1) 10 [] = W [] (cl N 31 [] fun x => chkAll (T.okE 1) [i64 65002] (cl N 12 [x, i64 0, T.agg [i64 0, i64 0], T.agg [i64 0, T.sl 1 [i64 65002], i64 5, i64 0]] fun x => compT x 0 fun y => compT x 1 fun y_1 => chk (y.cells.length == 6 && !y.isTup) (cl N 31 [] fun x => cl N 17 [x, i64 1, T.agg [i64 0, i64 0], y] fun x => compT x 0 fun y_2 => compT x 1 fun y_3 => chk (y_2.cells.length == 4 && !y_2.isTup) (cl N 31 [] fun x => cl N 17 [x, i64 0, T.agg [i64 0, i64 0], y] fun x => compT x 0 fun y_4 => compT x 1 fun y_5 => chk (y_4.cells.length == 4 && !y_4.isTup) (bT y_1 fun b => bif b then iT IntKind.i64 (y.partD 0 1 false) fun a => bif a == 300 then iT IntKind.i64 (y.partD 5 1 false) fun a => bif a == 0 then bT y_3 fun b => bif b then sllT (y_2.partD 1 1 false) fun n => bif n == 3 then slT 1 (y_2.partD 1 1 false) fun xs => atT xs 0 fun e => iT IntKind.i64 e fun a => bif a == 65001 then slT 1 (y_2.partD 1 1 false) fun xs => atT xs 1 fun e => iT IntKind.i64 e fun a => bif a == 65001 then slT 1 (y_2.partD 1 1 false) fun xs => atT xs 2 fun e => iT IntKind.i64 e fun a => bif a == 65002 then iT IntKind.i64 (y_2.partD 2 1 false) fun a => bif a == 9 then bT y_5 fun b => bif !b then cl N 31 [] fun x => clI N 19 [x, i64 1] fun a => rB (a == 3) else rB false else rB false else rB false else rB false else rB false else rB false else rB false else rB false else rB false else rB false))))) := by kernel_rfl
theorem q11 (N : Nat) (c : Cf) (p : Pa) : callP env (N + 1) 11 [c.t, p.t] = W [c.t, p.t] (clB N 23 [c.t] fun b => bif b then rB (decide ((↑(ints p.s).length : Int) ≤ 100)) else rB false) := by kernel_rfl
theorem q16 (N : Nat) (a b : Pa) : callP env (N + 1) 16 [a.t, b.t] = W [a.t, b.t] (bif a.o != b.o then rB false else bif a.h != b.h then rB false else bif a.c != b.c then rB false else bif (↑(ints a.s).length : Int) != (↑(ints b.s).length : Int) then rB false else loopL env N 16 4 { tmps := slots 52 [(2, PV.ptr 0 0), (3, PV.ptr 1 0), (5, PV.t (i64 0))], heap := [AObj.box 30 4 (PV.t a.t), AObj.box 30 4 (PV.t b.t)] }) := by kernel_rfl
theorem b16_4 (N : Nat) (a b : Pa) (i : Int) : bodyL env N 16 0 4 (sSP a b i) = bif decide (i < (↑(ints a.s).length : Int)) then atT (ints a.s) i fun e => atT (ints b.s) i fun e_1 => iT IntKind.i64 e fun a_1 => iT IntKind.i64 e_1 fun b_1 => bif a_1 != b_1 then Res.ok (Ex.ret, { tmps := slots 52 [(4, PV.t (T.bool false))], heap := [] }) else Res.ok (Ex.norm, sSP a b (IntKind.i64.wrap (i + 1))) else Res.ok (Ex.exit 0, { tmps := slots 52 [], heap := [] }) := by kernel_rfl
theorem t16_4_exit0 (N : Nat) (H : List AObj) : tailL env N 16 0 4 (outK env 16) (.exit 0) (⟨slots 52 [], H⟩) = rB true := by kernel_rfl
theorem t16_4_ret (N : Nat) (H : List AObj) (v : Bool) : tailL env N 16 0 4 (outK env 16) (.ret) (⟨slots 52 [(4, .t (.bool v))], H⟩) = rB v := by kernel_rfl
end Go.Sim

/- What calls come to: printed by wip/tools/eq2.py: laws of layer 14. -/
namespace Go.Sim
open Go.RowKit Go.Proofs
set_option linter.unusedVariables false
set_option maxRecDepth 100000
variable [Lv]


def sTk (c : Cf) (k : Int) (p : Pa) (r : Rt) (i : Int) : St := ⟨slots 110 [(1, .t (i64 k)), (4, .ptr 0 0), (7, .ptr 1 0), (9, .t (.bool true)), (10, .ptr 2 0), (12, .t (i64 i))], [.box 25 6 (.t c.t), .box 30 4 (.t p.t), .box 34 6 (.t r.t)]⟩
theorem q3 (N : Nat) (c : Cf) (k : Int) (x : Px) (p : Pa) : callP env (N + 1) 3 [c.t, i64 k, x.t, p.t] = W [c.t, i64 k, x.t, p.t] (cl N 10 [] fun x_1 => clB N 11 [c.t, p.t] fun b => bif !b then Res.ok x_1 else cl N 12 [c.t, i64 k, x.t, p.t] fun x => compT x 0 fun y => compT x 1 fun y_1 => chk (y.cells.length == 6 && !y.isTup) (bT y_1 fun b => bif !b then bT x_1 fun b => bif b then cl N 13 [y, T.agg [i64 0, i64 0, T.sl 1 [], i64 0, i64 0, i64 0]] fun x => Res.ok x else rB false else loopL env N 3 8 { tmps := slots 110 [(1, PV.t (i64 k)), (4, PV.ptr 0 0), (7, PV.ptr 1 0), (9, PV.t x_1), (10, PV.ptr 2 0), (12, PV.t (i64 0))], heap := [AObj.box 25 6 (PV.t c.t), AObj.box 30 4 (PV.t p.t), AObj.box 34 6 (PV.t y)] })) := by kernel_rfl
theorem b3_8 (N : Nat) (c : Cf) (k : Int) (p : Pa) (r : Rt) (i : Int) : bodyL env N 3 0 8 (sTk c k p r i) = bif decide (i < (↑(ints r.p.s).length : Int)) then atT (ints r.p.s) i fun e => iT IntKind.i64 e fun a => bif a == c.a then Res.ok (Ex.ret, { tmps := slots 110 [(8, PV.t (T.bool false))], heap := [] }) else Res.ok (Ex.norm, sTk c k p r (IntKind.i64.wrap (i + 1))) else Res.ok (Ex.exit 0, { tmps := slots 110 [(1, PV.t (i64 k)), (4, PV.ptr 0 0), (7, PV.ptr 1 0), (9, PV.t (T.bool true)), (10, PV.ptr 2 0)], heap := [AObj.box 25 6 (PV.t c.t), AObj.box 30 4 (PV.t p.t), AObj.box 34 6 (PV.t r.t)] }) := by kernel_rfl
theorem t3_8_exit0 (N : Nat) (c : Cf) (k : Int) (p : Pa) (r : Rt) : tailL env N 3 0 8 (outK env 3) (.exit 0) (⟨slots 110 [(1, .t (i64 k)), (4, .ptr 0 0), (7, .ptr 1 0), (9, .t (.bool true)), (10, .ptr 2 0)], [.box 25 6 (.t c.t), .box 30 4 (.t p.t), .box 34 6 (.t r.t)]⟩) = clB N 14 [c.t] fun b => bif b then clB N 15 [r.t] fun b => bif b then bif r.f == k then bif decide (k ≥ 0) then bif decide (k < (↑(List.map Sd.t c.s).length : Int)) then bif decide ((↑(ints r.p.s).length : Int) > 0) then atT (ints r.p.s) 0 fun e => atT (List.map Sd.t c.s) k fun e_1 => iT IntKind.i64 e fun a => iT IntKind.i64 (e_1.partD 0 1 false) fun b => bif a == b then cl N 16 [T.agg [i64 r.p.o, T.sl 1 (ints r.p.s), i64 r.p.h, i64 p.c], p.t] fun x => Res.ok x else rB false else rB false else rB false else rB false else rB false else rB false else rB false := by kernel_rfl
theorem q5 (N : Nat) (c : Cf) (k j : Int) (x : Px) (p : Pa) : callP env (N + 1) 5 [c.t, i64 k, i64 j, x.t, p.t] = W [c.t, i64 k, i64 j, x.t, p.t] (cl N 10 [] fun x_1 => clB N 11 [c.t, p.t] fun b => bif !b then Res.ok x_1 else cl N 12 [c.t, i64 k, x.t, p.t] fun x_2 => compT x_2 0 fun y => compT x_2 1 fun y_1 => chk (y.cells.length == 6 && !y.isTup) (cl N 17 [c.t, i64 j, x.t, y] fun x => compT x 0 fun y_2 => compT x 1 fun y_3 => chk (y_2.cells.length == 4 && !y_2.isTup) (bT y_1 fun b => bif !b then Res.ok x_1 else bT y_3 fun b => bif !b then Res.ok x_1 else cl N 19 [c.t, i64 k] fun x => cl N 19 [c.t, i64 j] fun x_3 => atT (List.map Sd.t c.s) k fun e => cl N 20 [x, e.partD 0 1 false, i64 p.c] fun x_4 => compT x_4 0 fun y_4 => compT x_4 1 fun y_5 => bT x_1 fun b => bif b then bT y_5 fun b => bif b then iT IntKind.i64 (y.partD 4 1 false) fun a => iT IntKind.i64 y_4 fun b => bif a == b then iT IntKind.i64 x fun a => bif a == 1 then iT IntKind.i64 (y.partD 4 1 false) fun a => bif a == 0 then iT IntKind.i64 x_3 fun a => iT IntKind.i64 (y_2.partD 3 1 false) fun a_1 => rB ((a == 3) == (a_1 == 0) && true) else iT IntKind.i64 x_3 fun a => bif a == 1 then iT IntKind.i64 x_3 fun a => iT IntKind.i64 (y_2.partD 3 1 false) fun a_1 => rB ((a == 3) == (a_1 == 0) && true) else rB false else iT IntKind.i64 x_3 fun a => bif a == 1 then iT IntKind.i64 (y.partD 4 1 false) fun a => bif a == 0 then iT IntKind.i64 x_3 fun a => iT IntKind.i64 (y_2.partD 3 1 false) fun a_1 => rB ((a == 3) == (a_1 == 0) && true) else iT IntKind.i64 x_3 fun a => bif a == 1 then iT IntKind.i64 x_3 fun a => iT IntKind.i64 (y_2.partD 3 1 false) fun a_1 => rB ((a == 3) == (a_1 == 0) && true) else rB false else rB false else rB false else rB false else rB false))) := by kernel_rfl
theorem q7 (N : Nat) (c : Cf) (k j : Int) (x : Px) (r : Rt) : callP env (N + 1) 7 [c.t, i64 k, i64 j, x.t, r.t] = W [c.t, i64 k, i64 j, x.t, r.t] (cl N 10 [] fun x_1 => clB N 11 [c.t, r.p.t] fun b => bif !b then Res.ok x_1 else cl N 17 [c.t, i64 k, x.t, r.t] fun x_2 => compT x_2 0 fun y => compT x_2 1 fun y_1 => chk (y.cells.length == 4 && !y.isTup) (cl N 12 [c.t, i64 j, x.t, y] fun x_3 => compT x_3 0 fun y => compT x_3 1 fun y_2 => chk (y.cells.length == 6 && !y.isTup) (chkAll (T.okE 1) [i64 c.a] (chk (decide ((1 + (ints r.p.s).length) * 8 ≤ 140737488355328)) (cl N 12 [c.t, i64 j, x.t, T.agg [i64 r.p.o, T.sl 1 ([i64 c.a] ++ ints r.p.s), i64 r.p.h, i64 r.p.c]] fun x => compT x 0 fun y => compT x 1 fun y_3 => chk (y.cells.length == 6 && !y.isTup) (bT x_1 fun b => bif b then bT y_1 fun b => bif !b then bT y_3 fun b => bif !b then bT y_1 fun b => bif !b then rB true else cl N 15 [r.t] fun x => Res.ok x else rB false else bT y_2 fun b => bif !b then bT y_3 fun b => bif !b then bT y_1 fun b => bif !b then rB true else cl N 15 [r.t] fun x => Res.ok x else rB false else rB false else rB false)))))) := by kernel_rfl
end Go.Sim

/- EdgeTakes, EdgeMarks, EdgeLoops: their calls come to 'true'. -/
namespace Go.Sim
open Go.RowKit Go.Proofs
set_option linter.unusedVariables false
set_option linter.unusedSimpArgs false
set_option linter.unusedSectionVars false
set_option maxRecDepth 100000

def nodeE : Cf := ⟨65001, 9, 0, 9, [], [⟨65002, 1, [⟨0, ⟨0, 0⟩, 0, 2, 300⟩], [⟨0, ⟨0, 0⟩, 0, 1, 0⟩]⟩, ⟨65003, 3, [⟨0, ⟨0, 0⟩, 0, 2, 100⟩], [⟨0, ⟨0, 0⟩, 0, 3, 1⟩]⟩]⟩
theorem nodeE_ok : nodeE.ok := ⟨rfl, rfl, rfl, rfl, okL_nil, okL_two ⟨rfl, rfl, okL_one ⟨rfl, ⟨rfl, rfl⟩, rfl, rfl, rfl⟩, okL_one ⟨rfl, ⟨rfl, rfl⟩, rfl, rfl, rfl⟩⟩ ⟨rfl, rfl, okL_one ⟨rfl, ⟨rfl, rfl⟩, rfl, rfl, rfl⟩, okL_one ⟨rfl, ⟨rfl, rfl⟩, rfl, rfl, rfl⟩⟩⟩
def pathE : Pa := ⟨0, [65002], 5, 0⟩
theorem pathE_ok : pathE.ok := ⟨rfl, show 1 ≤ big by decide, fun x hx => (by rw [List.mem_singleton.1 hx]; rfl), rfl, rfl⟩
def routeE : Rt := ⟨300, pathE, 0⟩
theorem routeE_ok : routeE.ok := ⟨rfl, pathE_ok, rfl⟩
variable [Lv]
theorem f31_ok {M : Nat} : callP env (M + 1) 31 [] = .ok nodeE.t := by rw [q31]; kernel_rfl
set_option maxHeartbeats 1000000 in
theorem f10_ok {M : Nat} (hM : big + 20 ≤ M) : callP env (M + 1) 10 [] = .ok (.bool true) := by
  obtain ⟨m, rfl⟩ := exM (show 1 ≤ M by omega)
  have hx : (⟨0, 0⟩ : Px).ok := ⟨rfl, rfl⟩
  have i1 : callP env (m + 1) 12 [nodeE.t, i64 0, T.agg [i64 0, i64 0], T.agg [i64 0, T.sl 1 [i64 65002], i64 5, i64 0]] = .ok (.tup [routeE.t, .bool true]) := by
    have := f12_ok (M := m) (k := 0) (by omega) nodeE_ok rfl hx pathE_ok
    rw [show inR nodeE 0 ⟨0, 0⟩ pathE = some routeE by decide +kernel] at this
    exact this
  have i2 : callP env (m + 1) 17 [nodeE.t, i64 1, T.agg [i64 0, i64 0], routeE.t] = .ok (.tup [(Pa.mk 0 [65001, 65001, 65002] 9 0).t, .bool true]) := by
    have := f17_ok (M := m) (k := 1) (by omega) nodeE_ok rfl hx routeE_ok
    rw [show outR nodeE 1 ⟨0, 0⟩ routeE = some ⟨0, [65001, 65001, 65002], 9, 0⟩ by decide +kernel] at this
    exact this
  have i3 : callP env (m + 1) 17 [nodeE.t, i64 0, T.agg [i64 0, i64 0], routeE.t] = .ok (.tup [zP, .bool false]) := by
    have := f17_ok (M := m) (k := 0) (by omega) nodeE_ok rfl hx routeE_ok
    rw [show outR nodeE 0 ⟨0, 0⟩ routeE = none by decide +kernel] at this
    exact this
  have i4 : callP env (m + 1) 19 [nodeE.t, i64 1] = .ok (i64 3) := by
    have := f19_ok (M := m) (k := 1) (by omega) nodeE_ok rfl
    rw [show classI nodeE 1 = 3 by decide +kernel] at this
    exact this
  have e0 : chkAll (T.okE 1) [i64 65002] = fun (K : Res T) => K := rfl
  have zc : (zP.cells.length == 4 && !zP.isTup) = true := rfl
  rw [q10, W_ok rfl, cl_ok f31_ok, e0]
  simp only []
  rw [cl_ok i1]
  simp only [compT, List.getElem?_cons_zero, List.getElem?_cons_succ, rt_chk, chk_true]
  rw [cl_ok f31_ok, cl_ok i2]
  simp only [compT, List.getElem?_cons_zero, List.getElem?_cons_succ, pa_chk, chk_true]
  rw [cl_ok f31_ok, cl_ok i3]
  have p0 : routeE.t.partD 0 1 false = i64 300 := rfl
  have p5 : routeE.t.partD 5 1 false = i64 0 := rfl
  have q1 : (Pa.mk 0 [65001, 65001, 65002] 9 0).t.partD 1 1 false = T.sl 1 [i64 65001, i64 65001, i64 65002] := rfl
  have q2 : (Pa.mk 0 [65001, 65001, 65002] 9 0).t.partD 2 1 false = i64 9 := rfl
  have s1 : ∀ K : Int → Res T, sllT (T.sl 1 [i64 65001, i64 65001, i64 65002]) K = K 3 := fun K => rfl
  have s2 : ∀ (l : List T) (K : List T → Res T), slT 1 (T.sl 1 l) K = K l := fun l K => rfl
  have a0 : ∀ K : T → Res T, atT [i64 65001, i64 65001, i64 65002] 0 K = K (i64 65001) := fun K => rfl
  have a1 : ∀ K : T → Res T, atT [i64 65001, i64 65001, i64 65002] 1 K = K (i64 65001) := fun K => rfl
  have a2 : ∀ K : T → Res T, atT [i64 65001, i64 65001, i64 65002] 2 K = K (i64 65002) := fun K => rfl
  simp only [compT, List.getElem?_cons_zero, List.getElem?_cons_succ, zc, chk_true, bT_bool, cond_true, p0, p5, q1, q2, s1, s2, a0, a1, a2, iT_int, beq_self_eq_true, Bool.not_false]
  rw [cl_ok f31_ok, clI_ok i4]
  rfl
theorem f11_ok {M : Nat} {c : Cf} {p : Pa} (hM : big + 5 ≤ M) (h : c.ok) (hp : p.ok) : callP env (M + 1) 11 [c.t, p.t] = .ok (.bool (few12 c && decide (p.s.length ≤ 100))) := by
  obtain ⟨m, rfl⟩ := exM (show 1 ≤ M by omega)
  rw [q11, W_ok (wfs2 h.wf hp.wf), clB_ok (f23_ok (by omega) h), and_rB]
  have : decide (((ints p.s).length : Int) ≤ 100) = decide (p.s.length ≤ 100) := by rw [ints_map, List.length_map]; exact decide_eq_decide.2 (by omega)
  rw [this]
theorem same_loop {M : Nat} {a b : Pa} (hM : big + 1 ≤ M) (ha : a.s.length ≤ big) (hs : a.s.length = b.s.length) : loopL env M 16 4 (sSP a b 0) = rB (decide (a.s = b.s)) := by
  have hit := iter_seek (B := bodyL env M 16 0 4) (S := fun i => sSP a b i) (R := fun _ => ⟨slots 52 [(4, .t (.bool false))], []⟩) (X := ⟨slots 52 [], []⟩) (id := 0) (fun i => !(a.s[i]? == b.s[i]?)) a.s.length 0 M (by omega)
    (fun j h0 h1 hp => by
      have hj : j < a.s.length := by omega
      have e1 : a.s[j]? = some a.s[j] := List.getElem?_eq_getElem hj
      have e2 : b.s[j]? = some (b.s[j]'(by omega)) := List.getElem?_eq_getElem (by omega)
      rw [b16_4, decide_eq_true (by rw [ints_map, List.length_map]; omega)]
      simp only [cond_true]
      rw [atT_get (ints_get e1), atT_get (ints_get e2)]
      simp only [iT_int]
      rw [e1, e2] at hp
      have : (a.s[j] != b.s[j]'(by omega)) = true := by simpa using hp
      rw [this]; rfl)
    (fun j h0 h1 hp => by
      have hj : j < a.s.length := by omega
      have e1 : a.s[j]? = some a.s[j] := List.getElem?_eq_getElem hj
      have e2 : b.s[j]? = some (b.s[j]'(by omega)) := List.getElem?_eq_getElem (by omega)
      rw [b16_4, decide_eq_true (by rw [ints_map, List.length_map]; omega)]
      simp only [cond_true]
      rw [atT_get (ints_get e1), atT_get (ints_get e2)]
      simp only [iT_int]
      rw [e1, e2] at hp
      have : (a.s[j] != b.s[j]'(by omega)) = false := by simpa using hp
      rw [this, wrap_succ (show j ≤ big by omega)]; rfl)
    (by rw [Nat.zero_add, b16_4, decide_eq_false (by rw [ints_map, List.length_map]; omega)]; rfl)
  cases hk : seekI (fun i => !(a.s[i]? == b.s[i]?)) 0 a.s.length with
  | some j =>
    rw [hk] at hit
    obtain ⟨_, hj, hp⟩ := seekI_some hk
    refine (loopL_end hit).trans ((t16_4_ret M [] false).trans ?_)
    rw [decide_eq_false]
    intro he
    rw [he] at hp
    simp at hp
  | none =>
    rw [hk] at hit
    refine (loopL_end hit).trans ((t16_4_exit0 M []).trans ?_)
    rw [decide_eq_true]
    refine List.ext_getElem? fun i => ?_
    rcases Nat.lt_or_ge i a.s.length with hi | hi
    · have := seekI_none hk i (by omega) (by omega)
      simpa using this
    · rw [List.getElem?_eq_none hi, List.getElem?_eq_none (by omega)]
theorem f16_ok {M : Nat} {a b : Pa} (hM : big + 1 ≤ M) (ha : a.ok) (hb : b.ok) : callP env (M + 1) 16 [a.t, b.t] = .ok (.bool (decide (a = b))) := by
  have e : decide (a = b) = (decide (a.o = b.o) && (decide (a.h = b.h) && (decide (a.c = b.c) && decide (a.s = b.s)))) := by
    rw [Bool.eq_iff_iff]
    simp only [decide_eq_true_eq, Bool.and_eq_true]
    obtain ⟨o, s, h, c⟩ := a
    obtain ⟨o', s', h', c'⟩ := b
    simp only [Pa.mk.injEq]
    constructor
    · rintro ⟨h1, h2, h3, h4⟩; exact ⟨h1, h3, h4, h2⟩
    · rintro ⟨h1, h3, h4, h2⟩; exact ⟨h1, h2, h3, h4⟩
  rw [e, q16, W_ok (wfs2 ha.wf hb.wf)]
  by_cases h1 : a.o = b.o
  case neg => rw [bne_iff_ne.2 h1, decide_eq_false h1]; rfl
  by_cases h2 : a.h = b.h
  case neg => rw [h1, bne_self_eq_false, bne_iff_ne.2 h2, decide_eq_false h2]; simp
  by_cases h3 : a.c = b.c
  case neg => rw [h1, h2, bne_self_eq_false, bne_self_eq_false, bne_iff_ne.2 h3, decide_eq_false h3]; simp
  rw [h1, h2, h3, bne_self_eq_false, bne_self_eq_false, bne_self_eq_false]
  simp only [cond_false, decide_true, Bool.true_and]
  rw [ints_map, ints_map, List.length_map, List.length_map]
  by_cases h4 : a.s.length = b.s.length
  · rw [h4, bne_self_eq_false]
    exact same_loop hM ha.l h4
  · rw [bne_iff_ne.2 (show (a.s.length : Int) ≠ (b.s.length : Int) by omega), decide_eq_false (fun h => h4 (by rw [h]))]; rfl
theorem takes_loop {M : Nat} {c : Cf} {k : Int} {p : Pa} {r : Rt} (hM : big + 1 ≤ M) (hr : r.p.s.length ≤ big) (hn : r.p.s.contains c.a = false) : iterR (bodyL env M 3 0 8) M (sTk c k p r 0) =
    .ok (.exit 0, ⟨slots 110 [(1, .t (i64 k)), (4, .ptr 0 0), (7, .ptr 1 0), (9, .t (.bool true)), (10, .ptr 2 0)], [.box 25 6 (.t c.t), .box 30 4 (.t p.t), .box 34 6 (.t r.t)]⟩) := by
  refine (iter_fold (B := bodyL env M 3 0 8) (S := fun (_ : Unit) i => sTk c k p r i) (X := fun _ => ⟨slots 110 [(1, .t (i64 k)), (4, .ptr 0 0), (7, .ptr 1 0), (9, .t (.bool true)), (10, .ptr 2 0)], [.box 25 6 (.t c.t), .box 30 4 (.t p.t), .box 34 6 (.t r.t)]⟩) (id := 0)
    (fun _ _ => True) (fun _ (_ : Int) => ()) r.p.s (n := M) () (by omega) (fun _ j x hx _ => ⟨?_, trivial⟩) (fun _ _ => ?_) trivial).1
  · have hj := (List.getElem?_eq_some_iff.1 hx).1
    show bodyL env M 3 0 8 (sTk c k p r j) = _
    rw [b3_8, decide_eq_true (by rw [ints_map, List.length_map]; omega)]
    simp only [cond_true]
    rw [atT_get (ints_get hx)]
    simp only [iT_int]
    have : (x == c.a) = false := by
      rw [beq_eq_false_iff_ne]
      intro e
      subst e
      rw [List.contains_iff_mem.2 (List.mem_of_getElem? hx)] at hn
      cases hn
    rw [this, wrap_succ (show j ≤ big by omega)]
    rfl
  · show bodyL env M 3 0 8 (sTk c k p r r.p.s.length) = _
    rw [b3_8, decide_eq_false (by rw [ints_map, List.length_map]; omega)]; rfl
theorem f3_ok {M : Nat} {c : Cf} {k : Int} {x : Px} {p : Pa} (hM : big + 24 ≤ M) (h : c.ok) (hk : ok64 k = true) (hx : x.ok) (hp : p.ok) : callP env (M + 1) 3 [c.t, i64 k, x.t, p.t] = .ok (.bool true) := by
  obtain ⟨m, rfl⟩ := exM (show 1 ≤ M by omega)
  have hw : T.wfs [c.t, i64 k, x.t, p.t] = true := by
    have h1 := h.wf; have h2 := wf_int hk; have h3 := hx.wf; have h4 := hp.wf
    simp only [T.wfs, h1, h2, h3, h4, Bool.and_self]
  rw [q3, W_ok hw, cl_ok (f10_ok (by omega)), clB_ok (f11_ok (by omega) h hp)]
  cases hf : few12 c && decide (p.s.length ≤ 100) with
  | false => rfl
  | true =>
  simp only [Bool.not_true, cond_false]
  rw [cl_ok (f12_ok (by omega) h hk hx hp), optR_eq]
  simp only [compT, List.getElem?_cons_zero, List.getElem?_cons_succ, rt_chk, chk_true, bT_bool]
  cases hr : inR c k x p with
  | none =>
    simp only [Option.isSome_none, Option.getD_none, Bool.not_false, cond_true]
    refine Eq.trans (show _ = cl (m + 1) 13 [zRt.t, zRt.t] fun x => Res.ok x from rfl) ?_
    rw [cl_ok (f13_ok (by omega) zRt_ok zRt_ok)]
    have : cmpR zRt zRt = 0 := cmpR_zero.2 rfl
    rw [this]; rfl
  | some r =>
  have hro := inR_ok hr h hk hp
  obtain ⟨g1, g2, g3, ⟨i, s, rfl, hs, g4⟩, g5, g6, g7, g8⟩ := takes_law hr
  have hil := (List.getElem?_eq_some_iff.1 hs).1
  have hl0 := (List.getElem?_eq_some_iff.1 g4).1
  have hlen : ((ints r.p.s).length : Int) = (r.p.s.length : Int) := by rw [ints_map, List.length_map]
  simp only [Option.isSome_some, Option.getD_some, Bool.not_true, cond_false]
  refine Eq.trans (show _ = loopL env (m + 1) 3 8 (sTk c i p r 0) from rfl) ?_
  refine (loopL_end (takes_loop (by omega) hro.p.l (by rw [g5]; exact g6))).trans ?_
  refine (t3_8_exit0 (m + 1) c i p r).trans ?_
  have hpo : (Pa.mk r.p.o r.p.s r.p.h p.c).ok := ⟨hro.p.o, hro.p.l, hro.p.s, hro.p.h, hp.c⟩
  rw [clB_ok (f14_ok (by omega) h), g1, cond_true, clB_ok (f15_ok (by omega) hro), g2, cond_true, g3, beq_self_eq_true, cond_true, decide_eq_true (show (i : Int) ≥ 0 by omega), cond_true, List.length_map, decide_eq_true (show (i : Int) < (c.s.length : Int) by omega), cond_true, hlen,
    decide_eq_true (show (r.p.s.length : Int) > 0 by omega), cond_true]
  refine (atT_get (i := 0) (ints_get g4)).trans ?_
  rw [atT_get (map_get hs)]
  have e1 : s.t.partD 0 1 false = i64 s.a := rfl
  rw [e1]
  simp only [iT_int, beq_self_eq_true, cond_true]
  refine (cl_ok (f16_ok (a := ⟨r.p.o, r.p.s, r.p.h, p.c⟩) (by omega) hpo hp)).trans ?_
  have : (⟨r.p.o, r.p.s, r.p.h, p.c⟩ : Pa) = p := by rw [g5, g7, g8]
  rw [decide_eq_true this]
theorem f5_ok {M : Nat} {c : Cf} {k j : Int} {x : Px} {p : Pa} (hM : big + 24 ≤ M) (h : c.ok) (hk : ok64 k = true) (hj : ok64 j = true) (hx : x.ok) (hp : p.ok) : callP env (M + 1) 5 [c.t, i64 k, i64 j, x.t, p.t] = .ok (.bool true) := by
  obtain ⟨m, rfl⟩ := exM (show 1 ≤ M by omega)
  have hw : T.wfs [c.t, i64 k, i64 j, x.t, p.t] = true := by
    have h1 := h.wf; have h2 := wf_int hk; have h3 := hx.wf; have h4 := hp.wf; have h5 := wf_int hj
    simp only [T.wfs, h1, h2, h3, h4, h5, Bool.and_self]
  rw [q5, W_ok hw, cl_ok (f10_ok (by omega)), clB_ok (f11_ok (by omega) h hp)]
  cases hf : few12 c && decide (p.s.length ≤ 100) with
  | false => rfl
  | true =>
  simp only [Bool.not_true, cond_false]
  rw [cl_ok (f12_ok (by omega) h hk hx hp), optR_eq]
  simp only [compT, List.getElem?_cons_zero, List.getElem?_cons_succ, rt_chk, chk_true]
  rw [cl_ok (f17_ok (by omega) h hj hx (inD_ok h hk hp)), optP_eq]
  simp only [compT, List.getElem?_cons_zero, List.getElem?_cons_succ, pa_chk, chk_true, bT_bool]
  cases hr : inR c k x p with
  | none => rfl
  | some r =>
  simp only [Option.isSome_some, Option.getD_some, Bool.not_true, cond_false]
  cases hq : outR c j x r with
  | none => rfl
  | some q =>
  simp only [Option.isSome_some, Option.getD_some, Bool.not_true, cond_false]
  obtain ⟨⟨i, s, rfl, hs, e1, e2⟩, e3, e4, e5⟩ := marks_law hr hq
  have hso := h.s.2 _ (List.mem_of_getElem? hs)
  rw [cl_ok (f19_ok (by omega) h hk), cl_ok (f19_ok (by omega) h hj), atT_get (map_get hs)]
  have e6 : s.t.partD 0 1 false = i64 s.a := rfl
  rw [e6, e1, cl_ok (f20_ok (by omega) hso.r hso.a hp.c), e2]
  rw [e1] at e3
  have e7 : r.t.partD 4 1 false = i64 r.p.c := rfl
  have e8 : q.t.partD 3 1 false = i64 q.c := rfl
  rw [e7, e8]
  simp only [compT, List.getElem?_cons_zero, List.getElem?_cons_succ, bT_bool, cond_true, Option.isSome_some, Option.getD_some, iT_int, beq_self_eq_true, Bool.and_true]
  have e9 : ((classI c j == 3) == (q.c == 0)) = true := by
    rw [beq_iff_eq, Bool.eq_iff_iff, beq_iff_eq, beq_iff_eq]; exact e5
  rw [e9]
  cases d1 : s.r == 1 <;> cases d2 : classI c j == 1 <;> cases d3 : r.p.c == 0 <;> try rfl
  all_goals
    rw [beq_eq_false_iff_ne] at d2
    first
      | (rw [beq_eq_false_iff_ne] at d1; exact absurd e3 (by rintro (a | a) <;> contradiction))
      | (rw [beq_eq_false_iff_ne] at d3; exact absurd e4 (by rintro (a | a) <;> contradiction))
theorem f7_ok {M : Nat} {c : Cf} {k j : Int} {x : Px} {r : Rt} (hM : big + 24 ≤ M) (h : c.ok) (hk : ok64 k = true) (hj : ok64 j = true) (hx : x.ok) (hr : r.ok) : callP env (M + 1) 7 [c.t, i64 k, i64 j, x.t, r.t] = .ok (.bool true) := by
  obtain ⟨m, rfl⟩ := exM (show 1 ≤ M by omega)
  have hw : T.wfs [c.t, i64 k, i64 j, x.t, r.t] = true := by
    have h1 := h.wf; have h2 := wf_int hk; have h3 := hx.wf; have h4 := hr.wf; have h5 := wf_int hj
    simp only [T.wfs, h1, h2, h3, h4, h5, Bool.and_self]
  have hbg := big_val
  rw [q7, W_ok hw, cl_ok (f10_ok (by omega)), clB_ok (f11_ok (by omega) h hr.p)]
  cases hf : few12 c && decide (r.p.s.length ≤ 100) with
  | false => rfl
  | true =>
  simp only [Bool.and_eq_true, decide_eq_true_eq] at hf
  simp only [Bool.not_true, cond_false]
  rw [cl_ok (f17_ok (by omega) h hk hx hr), optP_eq]
  simp only [compT, List.getElem?_cons_zero, List.getElem?_cons_succ, pa_chk, chk_true]
  rw [cl_ok (f12_ok (by omega) h hj hx (outD_ok h hr)), optR_eq]
  simp only [compT, List.getElem?_cons_zero, List.getElem?_cons_succ, rt_chk, chk_true]
  have hso : (Pa.mk r.p.o (c.a :: r.p.s) r.p.h r.p.c).ok := ⟨hr.p.o, show r.p.s.length + 1 ≤ big by omega, fun n hn => (List.mem_cons.1 hn).elim (fun e => e ▸ h.a) (hr.p.s n), hr.p.h, hr.p.c⟩
  have i3 := f12_ok (M := m) (by omega) h hj hx hso
  rw [loop_law (c := c) (k := j) (x := x) (p := ⟨r.p.o, c.a :: r.p.s, r.p.h, r.p.c⟩) List.mem_cons_self, optR_eq] at i3
  have e0 : chkAll (T.okE 1) [i64 c.a] = fun (K : Res T) => K := rfl
  rw [e0]
  simp only []
  rw [decide_eq_true (show (1 + (ints r.p.s).length) * 8 ≤ 140737488355328 by rw [ints_map, List.length_map]; omega), chk_true]
  refine (cl_ok i3).trans ?_
  simp only [compT, List.getElem?_cons_zero, List.getElem?_cons_succ, rt_chk, chk_true, bT_bool, cond_true, Option.isSome_none, Bool.not_false]
  cases hq : outR c k x r with
  | none => rfl
  | some q =>
  obtain ⟨g1, g2⟩ := loop_law2 hq
  have g3 := loop_law (c := c) (k := j) (x := x) g1
  simp only [Option.isSome_some, Option.getD_some, Bool.not_true, cond_false, g3, Option.isSome_none, Bool.not_false, cond_true]
  rw [cl_ok (f15_ok (by omega) hr), g2]
end Go.Sim

/- What calls come to: printed by wip/tools/eq2.py: EdgeRules, its second half. -/
namespace Go.Sim
open Go.RowKit Go.Proofs
set_option linter.unusedVariables false
set_option maxRecDepth 100000
variable [Lv]

def sRul (c : Cf) (k : Int) (x : Px) (p : Pa) (q : Rt) (y z : T) (d : Nat → PV) : St := ⟨[d 0, .t (i64 k), d 2, d 3, d 4, .ptr 0 0, d 6, .ptr 1 0, .ptr 2 0, .ptr 3 0, d 10, .t (.bool true), d 12, d 13, d 14, d 15, d 16, d 17, d 18, d 19, d 20, d 21, d 22, d 23, d 24, d 25, d 26, d 27, d 28, d 29, d 30, d 31, d 32, d 33, d 34, d 35, d 36, d 37, d 38, d 39, d 40, d 41, d 42, d 43, d 44, d 45, d 46, d 47, d 48, d 49, d 50, d 51, d 52, d 53, d 54, d 55, d 56, d 57, d 58, d 59, d 60, d 61, d 62, d 63, d 64, d 65, d 66, d 67, d 68, d 69, d 70, d 71, d 72, d 73, d 74, d 75, d 76, d 77, d 78, d 79, d 80, d 81, d 82, d 83, d 84, d 85, d 86, d 87, d 88, d 89, d 90, d 91, d 92, d 93, d 94, d 95, d 96, d 97, d 98, d 99, d 100, d 101, d 102, d 103, d 104, d 105, d 106, d 107, d 108, d 109, d 110, d 111, d 112, d 113, d 114, d 115, d 116, d 117, d 118, d 119, d 120, d 121, d 122, d 123, d 124, d 125, d 126, d 127, d 128, d 129, d 130, d 131, d 132, d 133, d 134, d 135, d 136, d 137], [.box 25 6 (.t c.t), .box 27 2 (.t x.t), .box 30 4 (.t p.t), .box 34 6 (.t q.t), .box 34 6 (.t y), .box 54 6 (.t z)]⟩

theorem f6_0 (N : Nat) (c : Cf) (k : Int) (x : Px) (p : Pa) (q : Rt) (Kc : St → Res T) : segL env N 6 0 8 (startS env 6 [.t (c.t), .t (i64 k), .t (x.t), .t (p.t), .t (q.t)]) Kc = cl N 10 [] fun x_1 => cl N 11 [c.t, p.t] fun x_2 => bT x_2 fun b => bif !b then Res.ok x_1 else cl N 11 [c.t, q.p.t] fun x_3 => bT x_3 fun b_1 => bif !b_1 then Res.ok x_1 else cl N 14 [c.t] fun x_4 => bT x_4 fun b_2 => bif !b_2 then Res.ok x_1 else bif decide (k < 0) then Res.ok x_1 else bif decide (k ≥ (↑(List.map Sd.t c.s).length : Int)) then Res.ok x_1 else cl N 12 [c.t, i64 k, x.t, p.t] fun x_5 => compT x_5 0 fun y => compT x_5 1 fun y_1 => chk (y.cells.length == 6 && !y.isTup) (atT (List.map Sd.t c.s) k fun e => atT (List.map Sd.t c.s) k fun e_1 => chk ((e_1.partD 1 1 false).cells.length == 1 && !(e_1.partD 1 1 false).isTup) (cl N 21 [e.partD 2 1 false, T.agg [i64 x.a, i64 x.n, T.sl 1 (ints p.s), (e_1.partD 1 1 false).cell 0]] fun x_6 => compT x_6 0 fun y_2 => compT x_6 1 fun y_3 => chk (y_2.cells.length == 6 && !y_2.isTup) (bT y_1 fun b_3 => bif b_3 then bT y_3 fun b_4 => bif !b_4 then rB false else iT IntKind.i64 (y_2.partD 4 1 false) fun a => bif a != 2 then rB false else iT IntKind.i64 (y_2.partD 5 1 false) fun a_1 => iT IntKind.i64 (y.partD 0 1 false) fun b_5 => bif a_1 != b_5 then rB false else Kc { tmps := [PV.t c.t, PV.t (i64 k), PV.t x.t, PV.t p.t, PV.t q.t, PV.ptr 0 0, PV.tup [], PV.ptr 1 0, PV.ptr 2 0, PV.ptr 3 0, PV.t (T.bool false), PV.t x_1, PV.ptr 4 0, PV.t y_1, PV.ptr 5 0, PV.t y_3, PV.tup [], PV.tup [], PV.tup [], PV.tup [], PV.tup [], PV.t x_1, PV.t c.t, PV.t p.t, PV.t x_2, PV.t (T.bool !b), PV.t (T.bool false), PV.t c.t, PV.ptr 3 1, PV.t q.p.t, PV.t x_3, PV.t (T.bool !b_1), PV.t (T.bool !b_1), PV.t (T.bool false), PV.t c.t, PV.t x_4, PV.t (T.bool !b_2), PV.t (T.bool !b_2), PV.t (T.bool false), PV.t (i64 k), PV.t (T.bool (decide (k < 0))), PV.t (T.bool (decide (k < 0))), PV.t (T.bool false), PV.t (i64 k), PV.ptr 0 5, PV.t (T.sl 4 (List.map Sd.t c.s)), PV.t (i64 (↑(List.map Sd.t c.s).length : Int)), PV.t (T.bool (decide (k ≥ (↑(List.map Sd.t c.s).length : Int)))), PV.t (T.bool (decide (k ≥ (↑(List.map Sd.t c.s).length : Int)))), PV.tup [], PV.t x_5, PV.t c.t, PV.t (i64 k), PV.t x.t, PV.t p.t, PV.t x_5, PV.t y, PV.t y_1, PV.t x_6, PV.ptr 0 5, PV.t (T.sl 4 (List.map Sd.t c.s)), PV.t (i64 k), PV.rp 4 e 0, PV.rp 4 e 2, PV.t (e.partD 2 1 false), PV.t x.t, PV.ptr 2 1, PV.t (T.sl 1 (ints p.s)), PV.ptr 0 5, PV.t (T.sl 4 (List.map Sd.t c.s)), PV.t (i64 k), PV.rp 4 e_1 0, PV.rp 4 e_1 1, PV.t (e_1.partD 1 1 false), PV.t (T.agg [i64 x.a, i64 x.n, T.sl 1 (ints p.s), (e_1.partD 1 1 false).cell 0]), PV.t x_6, PV.t y_2, PV.t y_3, PV.t y_1, PV.t (T.bool true), PV.t y_3, PV.t (T.bool !b_4), PV.t (T.bool false), PV.ptr 5 4, PV.t (y_2.partD 4 1 false), PV.t (T.bool (a != 2)), PV.t (T.bool (a != 2)), PV.t (T.bool false), PV.ptr 5 5, PV.t (y_2.partD 5 1 false), PV.ptr 4 0, PV.t (y.partD 0 1 false), PV.t (T.bool (a_1 != b_5)), PV.t (T.bool (a_1 != b_5)), PV.t (T.bool (a_1 != b_5)), PV.tup [], PV.tup [], PV.tup [], PV.tup [], PV.tup [], PV.tup [], PV.tup [], PV.tup [], PV.tup [], PV.tup [], PV.tup [], PV.tup [], PV.tup [], PV.tup [], PV.tup [], PV.tup [], PV.tup [], PV.tup [], PV.tup [], PV.tup [], PV.tup [], PV.tup [], PV.tup [], PV.tup [], PV.tup [], PV.tup [], PV.tup [], PV.tup [], PV.tup [], PV.tup [], PV.tup [], PV.tup [], PV.tup [], PV.tup [], PV.tup [], PV.tup [], PV.tup [], PV.tup [], PV.tup [], PV.tup [], PV.tup [], PV.tup [], PV.tup []], heap := [AObj.box 25 6 (PV.t c.t), AObj.box 27 2 (PV.t x.t), AObj.box 30 4 (PV.t p.t), AObj.box 34 6 (PV.t q.t), AObj.box 34 6 (PV.t y), AObj.box 54 6 (PV.t y_2)] } else Kc { tmps := [PV.t c.t, PV.t (i64 k), PV.t x.t, PV.t p.t, PV.t q.t, PV.ptr 0 0, PV.tup [], PV.ptr 1 0, PV.ptr 2 0, PV.ptr 3 0, PV.t (T.bool false), PV.t x_1, PV.ptr 4 0, PV.t y_1, PV.ptr 5 0, PV.t y_3, PV.tup [], PV.tup [], PV.tup [], PV.tup [], PV.tup [], PV.t x_1, PV.t c.t, PV.t p.t, PV.t x_2, PV.t (T.bool !b), PV.t (T.bool false), PV.t c.t, PV.ptr 3 1, PV.t q.p.t, PV.t x_3, PV.t (T.bool !b_1), PV.t (T.bool !b_1), PV.t (T.bool false), PV.t c.t, PV.t x_4, PV.t (T.bool !b_2), PV.t (T.bool !b_2), PV.t (T.bool false), PV.t (i64 k), PV.t (T.bool (decide (k < 0))), PV.t (T.bool (decide (k < 0))), PV.t (T.bool false), PV.t (i64 k), PV.ptr 0 5, PV.t (T.sl 4 (List.map Sd.t c.s)), PV.t (i64 (↑(List.map Sd.t c.s).length : Int)), PV.t (T.bool (decide (k ≥ (↑(List.map Sd.t c.s).length : Int)))), PV.t (T.bool (decide (k ≥ (↑(List.map Sd.t c.s).length : Int)))), PV.tup [], PV.t x_5, PV.t c.t, PV.t (i64 k), PV.t x.t, PV.t p.t, PV.t x_5, PV.t y, PV.t y_1, PV.t x_6, PV.ptr 0 5, PV.t (T.sl 4 (List.map Sd.t c.s)), PV.t (i64 k), PV.rp 4 e 0, PV.rp 4 e 2, PV.t (e.partD 2 1 false), PV.t x.t, PV.ptr 2 1, PV.t (T.sl 1 (ints p.s)), PV.ptr 0 5, PV.t (T.sl 4 (List.map Sd.t c.s)), PV.t (i64 k), PV.rp 4 e_1 0, PV.rp 4 e_1 1, PV.t (e_1.partD 1 1 false), PV.t (T.agg [i64 x.a, i64 x.n, T.sl 1 (ints p.s), (e_1.partD 1 1 false).cell 0]), PV.t x_6, PV.t y_2, PV.t y_3, PV.t y_1, PV.t (T.bool false), PV.tup [], PV.tup [], PV.tup [], PV.tup [], PV.tup [], PV.tup [], PV.tup [], PV.tup [], PV.tup [], PV.tup [], PV.tup [], PV.tup [], PV.tup [], PV.tup [], PV.t (T.bool false), PV.tup [], PV.tup [], PV.tup [], PV.tup [], PV.tup [], PV.tup [], PV.tup [], PV.tup [], PV.tup [], PV.tup [], PV.tup [], PV.tup [], PV.tup [], PV.tup [], PV.tup [], PV.tup [], PV.tup [], PV.tup [], PV.tup [], PV.tup [], PV.tup [], PV.tup [], PV.tup [], PV.tup [], PV.tup [], PV.tup [], PV.tup [], PV.tup [], PV.tup [], PV.tup [], PV.tup [], PV.tup [], PV.tup [], PV.tup [], PV.tup [], PV.tup [], PV.tup [], PV.tup [], PV.tup [], PV.tup [], PV.tup [], PV.tup [], PV.tup []], heap := [AObj.box 25 6 (PV.t c.t), AObj.box 27 2 (PV.t x.t), AObj.box 30 4 (PV.t p.t), AObj.box 34 6 (PV.t q.t), AObj.box 34 6 (PV.t y), AObj.box 54 6 (PV.t y_2)] }))) := by kernel_rfl
theorem h6_8 (N : Nat) (c : Cf) (k : Int) (x : Px) (p : Pa) (q : Rt) (y z : T) (d : Nat → PV) : backL env N 6 8 (sRul c k x p q y z d) = chkAll (T.okE 4) [] (chk (decide ((0 + (List.map Sd.t c.s).length) * 64 ≤ 140737488355328)) (chkAll (T.okE 6) [T.agg [i64 0, i64 0, i64 0, i64 0, i64 0, i64 0]] (chk (decide (0 ≤ k) && decide (k < (↑(List.map Sd.t c.s).length : Int))) (chk (decide (0 ≤ k) && decide (k < (↑((List.map Sd.t c.s).set k.toNat (T.agg (List.take 2 ((List.map Sd.t c.s).getD k.toNat T.nilp).cells ++ [T.sl 6 [T.agg [i64 0, i64 0, i64 0, i64 0, i64 0, i64 0]]] ++ List.drop 3 ((List.map Sd.t c.s).getD k.toNat T.nilp).cells))).length : Int))) (cl N 12 [T.agg [i64 c.a, i64 c.d, i64 c.h, i64 c.k, T.sl 2 (List.map Px.t c.w), T.sl 4 (((List.map Sd.t c.s).set k.toNat (T.agg (List.take 2 ((List.map Sd.t c.s).getD k.toNat T.nilp).cells ++ [T.sl 6 [T.agg [i64 0, i64 0, i64 0, i64 0, i64 0, i64 0]]] ++ List.drop 3 ((List.map Sd.t c.s).getD k.toNat T.nilp).cells))).set k.toNat (T.agg (List.take 3 (((List.map Sd.t c.s).set k.toNat (T.agg (List.take 2 ((List.map Sd.t c.s).getD k.toNat T.nilp).cells ++ [T.sl 6 [T.agg [i64 0, i64 0, i64 0, i64 0, i64 0, i64 0]]] ++ List.drop 3 ((List.map Sd.t c.s).getD k.toNat T.nilp).cells))).getD k.toNat T.nilp).cells ++ [T.sl 6 []] ++ List.drop 4 (((List.map Sd.t c.s).set k.toNat (T.agg (List.take 2 ((List.map Sd.t c.s).getD k.toNat T.nilp).cells ++ [T.sl 6 [T.agg [i64 0, i64 0, i64 0, i64 0, i64 0, i64 0]]] ++ List.drop 3 ((List.map Sd.t c.s).getD k.toNat T.nilp).cells))).getD k.toNat T.nilp).cells)))], i64 k, x.t, p.t] fun x_1 => compT x_1 0 fun y => compT x_1 1 fun y_1 => chk (y.cells.length == 6 && !y.isTup) (cl N 17 [T.agg [i64 c.a, i64 c.d, i64 c.h, i64 c.k, T.sl 2 (List.map Px.t c.w), T.sl 4 (((List.map Sd.t c.s).set k.toNat (T.agg (List.take 2 ((List.map Sd.t c.s).getD k.toNat T.nilp).cells ++ [T.sl 6 [T.agg [i64 0, i64 0, i64 0, i64 0, i64 0, i64 0]]] ++ List.drop 3 ((List.map Sd.t c.s).getD k.toNat T.nilp).cells))).set k.toNat (T.agg (List.take 3 (((List.map Sd.t c.s).set k.toNat (T.agg (List.take 2 ((List.map Sd.t c.s).getD k.toNat T.nilp).cells ++ [T.sl 6 [T.agg [i64 0, i64 0, i64 0, i64 0, i64 0, i64 0]]] ++ List.drop 3 ((List.map Sd.t c.s).getD k.toNat T.nilp).cells))).getD k.toNat T.nilp).cells ++ [T.sl 6 []] ++ List.drop 4 (((List.map Sd.t c.s).set k.toNat (T.agg (List.take 2 ((List.map Sd.t c.s).getD k.toNat T.nilp).cells ++ [T.sl 6 [T.agg [i64 0, i64 0, i64 0, i64 0, i64 0, i64 0]]] ++ List.drop 3 ((List.map Sd.t c.s).getD k.toNat T.nilp).cells))).getD k.toNat T.nilp).cells)))], i64 k, x.t, q.t] fun x => compT x 0 fun y => compT x 1 fun y_2 => chk (y.cells.length == 4 && !y.isTup) (bT y_1 fun b => bif !b then bT y_2 fun b => rB !b else rB false))))))) := by kernel_rfl
end Go.Sim

/- EdgeRules: its call comes to 'true'. -/
namespace Go.Sim
open Go.RowKit Go.Proofs
set_option linter.unusedVariables false
set_option linter.unusedSimpArgs false
set_option linter.unusedSectionVars false
set_option maxRecDepth 100000
variable [Lv]
theorem put14_ok {c : Cf} {k : Nat} {s : Sd} (h : c.ok) (hs : s.ok) : (putS c k s).ok := ⟨h.a, h.d, h.h, h.k, h.w, by have := h.s.1; simpa [putS] using this, fun x hx => (List.mem_or_eq_of_mem_set hx).elim (h.s.2 x) (fun e => e ▸ hs)⟩
theorem rules_end {M : Nat} {c : Cf} {k : Nat} {x : Px} {p : Pa} {q : Rt} {s : Sd} {st : St} {y z : T} (hM : big + 22 ≤ M) (h : c.ok) (hx : x.ok) (hp : p.ok) (hq : q.ok) (hs : c.s[k]? = some s) (hl : c.s.length ≤ 20)
    (hst : st = sRul c k x p q y z (fun i => st.tmps.getD i .junk)) : backL env M 6 8 st = .ok (.bool true) := by
  have hbg := big_val
  have hk := (List.getElem?_eq_some_iff.1 hs).1
  have hok : ok64 (k : Int) = true := ok64_iff.2 (by omega)
  have hso := h.s.2 _ (List.mem_of_getElem? hs)
  rw [hst]
  refine (h6_8 M c k x p q y z _).trans ?_
  have e1 : (List.map Sd.t c.s).getD k T.nilp = s.t := by rw [List.getD_eq_getElem?_getD, map_get hs]; rfl
  rw [Int.toNat_natCast, e1]
  have e2 : T.agg (List.take 2 s.t.cells ++ [T.sl 6 [T.agg [i64 0, i64 0, i64 0, i64 0, i64 0, i64 0]]] ++ List.drop 3 s.t.cells) = (Sd.t { s with i := [noneR] }) := rfl
  rw [e2, ← List.map_set]
  have hg : (c.s.set k { s with i := [noneR] })[k]? = some { s with i := [noneR] } := by simp [hk]
  have e3 : (List.map Sd.t (c.s.set k { s with i := [noneR] })).getD k T.nilp = Sd.t { s with i := [noneR] } := by rw [List.getD_eq_getElem?_getD, map_get hg]; rfl
  rw [e3]
  have e4 : T.agg (List.take 3 (Sd.t { s with i := [noneR] }).cells ++ [T.sl 6 []] ++ List.drop 4 (Sd.t { s with i := [noneR] }).cells) = Sd.t { s with i := [noneR], o := [] } := rfl
  rw [e4, ← List.map_set, List.set_set, List.length_map, List.length_map, List.length_set]
  rw [decide_eq_true (show (0 + c.s.length) * 64 ≤ 140737488355328 by omega), decide_eq_true (show (0 : Int) ≤ (k : Int) by omega), decide_eq_true (show (k : Int) < (c.s.length : Int) by omega)]
  have e5 : ∀ K : Res T, chkAll (T.okE 4) [] K = K := fun K => rfl
  have e6 : ∀ K : Res T, chkAll (T.okE 6) [T.agg [i64 0, i64 0, i64 0, i64 0, i64 0, i64 0]] K = K := fun K => rfl
  simp only [e5, e6, Bool.and_self, chk_true]
  have hc : (putS c k { s with i := [noneR], o := [] }).ok := put14_ok h ⟨hso.a, hso.r, okL_one ⟨rfl, ⟨rfl, rfl⟩, rfl, rfl, rfl⟩, okL_nil⟩
  have i1 := f12_ok (M := M - 1) (by omega) hc hok hx hp
  have i2 := f17_ok (M := M - 1) (by omega) hc hok hx hq
  rw [none_law hk, optR_eq] at i1
  rw [none_law2 hk, optP_eq] at i2
  obtain ⟨m, rfl⟩ := exM (show 1 ≤ M by omega)
  refine (cl_ok i1).trans ?_
  simp only [compT, List.getElem?_cons_zero, List.getElem?_cons_succ, rt_chk, chk_true]
  refine (cl_ok i2).trans ?_
  simp only [compT, List.getElem?_cons_zero, List.getElem?_cons_succ, pa_chk, chk_true, bT_bool, Option.isSome_none, Bool.not_false, cond_true]
set_option maxHeartbeats 2000000 in
theorem f6_ok {M : Nat} {c : Cf} {k : Int} {x : Px} {p : Pa} {q : Rt} (hM : big + 24 ≤ M) (h : c.ok) (hk : ok64 k = true) (hx : x.ok) (hp : p.ok) (hq : q.ok) : callP env (M + 1) 6 [c.t, i64 k, x.t, p.t, q.t] = .ok (.bool true) := by
  obtain ⟨m, rfl⟩ := exM (show 1 ≤ M by omega)
  have hbg := big_val
  have hw : T.wfs [c.t, i64 k, x.t, p.t, q.t] = true := by
    have h1 := h.wf; have h2 := wf_int hk; have h3 := hx.wf; have h4 := hp.wf; have h5 := hq.wf
    simp only [T.wfs, h1, h2, h3, h4, h5, Bool.and_self]
  refine (callP_back rfl hw).trans ?_
  refine (backL_seg 8).trans ?_
  have key : ∀ Kc : St → Res T, (∀ (i : Nat) (s : Sd) (st : St) (y z : T), k = i → c.s[i]? = some s → c.s.length ≤ 20 → st = sRul c i x p q y z (fun i => st.tmps.getD i .junk) → Kc st = .ok (.bool true)) →
      segL env (m + 1) 6 0 8 (startS env 6 [.t (c.t), .t (i64 k), .t (x.t), .t (p.t), .t (q.t)]) Kc = .ok (.bool true) := fun Kc hKc => ?_
  · exact key _ fun i s st y z e hs hl hst => by subst e; exact rules_end (M := m + 1) (by omega) h hx hp hq hs hl hst
  refine (f6_0 (m + 1) c k x p q Kc).trans ?_
  rw [cl_ok (f10_ok (by omega)), cl_ok (f11_ok (by omega) h hp)]
  simp only [bT_bool]
  cases hf : few12 c && decide (p.s.length ≤ 100) with
  | false => rfl
  | true =>
  simp only [Bool.not_true, cond_false]
  rw [cl_ok (f11_ok (by omega) h hq.p)]
  simp only [bT_bool]
  cases hf2 : few12 c && decide (q.p.s.length ≤ 100) with
  | false => rfl
  | true =>
  simp only [Bool.not_true, cond_false]
  rw [cl_ok (f14_ok (by omega) h)]
  simp only [bT_bool]
  cases hcs : csane c with
  | false => rfl
  | true =>
  simp only [Bool.not_true, cond_false]
  by_cases hk0 : k < 0
  · rw [decide_eq_true hk0]; rfl
  by_cases hk1 : k ≥ (c.s.length : Int)
  · rw [decide_eq_false hk0, decide_eq_true (show k ≥ ((List.map Sd.t c.s).length : Int) by rw [List.length_map]; exact hk1)]; rfl
  obtain ⟨i, rfl⟩ : ∃ i : Nat, k = i := ⟨k.toNat, by omega⟩
  obtain ⟨s, hs⟩ : ∃ s, c.s[i]? = some s := ⟨c.s[i]'(by omega), List.getElem?_eq_getElem _⟩
  have hl : c.s.length ≤ 20 := by have := (csane_parts hcs).2.2.2.2; omega
  have hso := h.s.2 _ (List.mem_of_getElem? hs)
  rw [decide_eq_false hk0, decide_eq_false (show ¬ (i : Int) ≥ ((List.map Sd.t c.s).length : Int) by rw [List.length_map]; exact hk1)]
  simp only [cond_false]
  rw [cl_ok (f12_ok (by omega) h hk hx hp), optR_eq]
  simp only [compT, List.getElem?_cons_zero, List.getElem?_cons_succ, rt_chk, chk_true, bT_bool]
  rw [atT_get (map_get hs), atT_get (map_get hs)]
  have c1 : ((s.t.partD 1 1 false).cells.length == 1 && !(s.t.partD 1 1 false).isTup) = true := rfl
  rw [c1, chk_true]
  have hv : (vwI x p s.r).ok := ⟨hx, pa_ints hp, hso.r⟩
  refine (cl_ok (f := 21) (f21_ok (M := m) (v := vwI x p s.r) (by omega) hso.i hv)).trans ?_
  cases hr : inR c i x p with
  | none =>
    cases hp2 : pickR s.i (vwI x p s.r) with
    | none =>
      have c2 : ((T.agg [i64 0, i64 0, i64 0, i64 0, i64 0, i64 0]).cells.length == 6 && !(T.agg [i64 0, i64 0, i64 0, i64 0, i64 0, i64 0]).isTup) = true := rfl
      simp only [compT, List.getElem?_cons_zero, List.getElem?_cons_succ, bT_bool, Option.isSome_none, cond_false, c2, chk_true]
      exact hKc i s _ (zRt.t) (T.agg [i64 0, i64 0, i64 0, i64 0, i64 0, i64 0]) rfl hs hl (by kernel_rfl)
    | some u =>
      have c2 : (u.t.cells.length == 6 && !u.t.isTup) = true := rfl
      simp only [compT, List.getElem?_cons_zero, List.getElem?_cons_succ, bT_bool, Option.isSome_none, cond_false, c2, chk_true]
      exact hKc i s _ (zRt.t) (u.t) rfl hs hl (by kernel_rfl)
  | some r =>
    obtain ⟨i', s', u, e, hs', hp2, ha, hn⟩ := rule_law hr
    obtain rfl : i = i' := by omega
    rw [hs] at hs'
    injection hs' with hs'
    subst hs'
    rw [hp2]
    have c2 : (u.t.cells.length == 6 && !u.t.isTup) = true := rfl
    have p4 : u.t.partD 4 1 false = i64 u.a := rfl
    have p5 : u.t.partD 5 1 false = i64 u.n := rfl
    have p0 : r.t.partD 0 1 false = i64 r.n := rfl
    have n2 : ((2 : Int) != 2) = false := rfl
    simp only [compT, List.getElem?_cons_zero, List.getElem?_cons_succ, bT_bool, Option.isSome_some, cond_true, c2, chk_true, Bool.not_true, cond_false, Option.getD_some, p4, p5, p0, iT_int, ha, hn, bne_self_eq_false, n2]
    exact hKc i s _ (r.t) (u.t) rfl hs hl (by kernel_rfl)
end Go.Sim
