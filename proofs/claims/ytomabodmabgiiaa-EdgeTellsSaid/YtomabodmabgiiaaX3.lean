/- The texts of a proof, one behind the other: an interpreter and its soundness, what the functions of the program answer, and plain laws on that. -/
import Derived.Test.YtomabodmabgiiaaX2
import Derived.Test.YtomabodmabgiiaaX1
import Derived.Test.YtomabodmabgiiaaK3
set_option linter.unusedVariables false
set_option linter.unusedSimpArgs false
set_option linter.unnecessarySimpa false
set_option linter.unusedSectionVars false
/- RiseBounds and RiseWorse: their calls come to 'true'. -/
namespace Go.Sim
open Go.RowKit Go.Proofs
set_option linter.unusedVariables false
set_option linter.unusedSimpArgs false
set_option linter.unusedSectionVars false
set_option maxRecDepth 100000
variable [Lv]
theorem inR_ok {c : Cf} {k : Int} {x : Px} {p : Pa} {r : Rt} (h : inR c k x p = some r) (hc : c.ok) (hk : ok64 k = true) (hp : p.ok) : r.ok := by
  obtain ⟨h1, h2, h3, i, s, m, u, rfl, hi, hs, h4, h5, h6, h7, h8, h9, rfl⟩ := inR_spec h
  have ho := hc.s.2 _ (List.mem_of_getElem? hs)
  obtain ⟨s1, s2, s3, s4, s5, s6⟩ := side_parts h1 hs
  obtain ⟨p1, p2, p3, p4, p5, p6, p7, p8⟩ := asane_parts h3
  have hm : ok64 m = true := by
    have := orI_pos p7 s1
    have := orI_le p8 s2
    refine ok64_iff.2 ?_
    unfold roleIn at h7
    repeat' split at h7
    all_goals first | (injection h7 with h7; omega) | cases h7
  exact ⟨(ho.i.2 u (pick_mem h8).1).n, ⟨hp.o, hp.l, hp.s, hp.h, hm⟩, hk⟩
theorem outR_ok {c : Cf} {k : Int} {x : Px} {r : Rt} {q : Pa} (h : outR c k x r = some q) (hc : c.ok) (hr : r.ok) : q.ok := by
  have hq := (tells_law h).2.2.1
  have hl := (tells_law h).2.2.2.2.2.2.1
  obtain ⟨p1, p2, p3, p4, p5, p6, p7, p8⟩ := asane_parts hq
  have hb := big_val
  refine ⟨ok64_iff.2 (by omega), by omega, fun n hn => ok64_iff.2 (by have := p1 n hn; omega), ok64_iff.2 (by omega), ok64_iff.2 (by omega)⟩
def zRt : Rt := ⟨0, ⟨0, [], 0, 0⟩, 0⟩
def zPa : Pa := ⟨0, [], 0, 0⟩
theorem zRt_ok : zRt.ok := ⟨rfl, ⟨rfl, Nat.zero_le _, fun _ h => (by cases h), rfl, rfl⟩, rfl⟩
theorem zPa_ok : zPa.ok := ⟨rfl, Nat.zero_le _, fun _ h => (by cases h), rfl, rfl⟩
theorem optR_eq (o : Option Rt) : optR o = .tup [(o.getD zRt).t, .bool o.isSome] := by cases o <;> rfl
theorem optP_eq (o : Option Pa) : optP o = .tup [(o.getD zPa).t, .bool o.isSome] := by cases o <;> rfl
theorem inD_ok {c : Cf} {k : Int} {x : Px} {p : Pa} (hc : c.ok) (hk : ok64 k = true) (hp : p.ok) : ((inR c k x p).getD zRt).ok := by
  cases h : inR c k x p with
  | none => exact zRt_ok
  | some r => exact inR_ok h hc hk hp
theorem outD_ok {c : Cf} {k : Int} {x : Px} {r : Rt} (hc : c.ok) (hr : r.ok) : ((outR c k x r).getD zPa).ok := by
  cases h : outR c k x r with
  | none => exact zPa_ok
  | some q => exact outR_ok h hc hr
theorem few_small {c : Cf} (h : few12 c = true) : smallC c := by
  have hb := big_val
  intro s hs
  unfold few12 at h
  simp only [Bool.and_eq_true, List.all_eq_true, decide_eq_true_eq] at h
  have := h.1 s hs
  omega
theorem class_ok {c : Cf} {k : Int} (h : c.ok) : ok64 (classI c k) = true := by
  unfold classI
  split
  · split
    · rename_i t ht; exact (h.s.2 _ (List.mem_of_getElem? ht)).r
    · rfl
  · rfl
theorem rt_chk {r : Rt} : (r.t.cells.length == 6 && !r.t.isTup) = true := rfl
theorem pa_chk {p : Pa} : (p.t.cells.length == 4 && !p.t.isTup) = true := rfl
theorem f8_ok {M : Nat} {c : Cf} {k j : Int} {x : Px} {p : Pa} (hM : big + 22 ≤ M) (h : c.ok) (hk : ok64 k = true) (hj : ok64 j = true) (hx : x.ok) (hp : p.ok) :
    callP env (M + 1) 8 [c.t, i64 k, i64 j, x.t, p.t] = .ok (.bool true) := by
  obtain ⟨m, rfl⟩ := exM (show 1 ≤ M by omega)
  have hw : T.wfs [c.t, i64 k, i64 j, x.t, p.t] = true := by
    have h1 := h.wf; have h2 := wf_int hk; have h3 := hx.wf; have h4 := hp.wf; have h5 := wf_int hj
    simp only [T.wfs, h1, h2, h3, h4, h5, Bool.and_self]
  rw [q8, W_ok hw, cl_ok (f22_ok (by omega)), clB_ok (f23_ok (by omega) h)]
  cases hf : few12 c with
  | false => rfl
  | true =>
  have hsm := few_small hf
  simp only [Bool.not_true, cond_false]
  cases hl : decide (((ints p.s).length : Int) > 100) with
  | true => rfl
  | false =>
  simp only [cond_false]
  rw [cl_ok (f12_ok (by omega) h hk hx hp), optR_eq]
  simp only [compT, List.getElem?_cons_zero, List.getElem?_cons_succ, rt_chk, chk_true, bT_bool]
  cases hr : inR c k x p with
  | none => rfl
  | some r =>
  have hro := inR_ok hr h hk hp
  obtain ⟨l, u, e1, e2, e3, e4⟩ := bounds_law hr
  have hrf : r.f = k := (takes_law hr).2.2.1
  simp only [Option.getD_some, Option.isSome_some, Bool.not_true, cond_false]
  rw [cl_ok (f19_ok (by omega) h hk), cl_ok (f24_ok (by omega) h (class_ok h) hsm), e1]
  simp only [compT, List.getElem?_cons_zero, List.getElem?_cons_succ]
  rw [cl_ok (f25_ok (by omega) h hk hsm), e2]
  simp only [compT, List.getElem?_cons_zero, List.getElem?_cons_succ]
  rw [cl_ok (f17_ok (by omega) h hj hx hro), optP_eq]
  simp only [compT, List.getElem?_cons_zero, List.getElem?_cons_succ, pa_chk, chk_true, bT_bool, cond_true, Option.getD_some, Option.isSome_some]
  have e5 : r.t.partD 0 1 false = i64 r.n := rfl
  rw [e5]
  simp only [iT_int]
  rw [decide_eq_true e3, decide_eq_true e4]
  simp only [cond_true]
  cases hq : outR c j x r with
  | none => rfl
  | some q =>
  have := goes_law hq
  rw [hrf] at this
  simp only [Option.isSome_some, Bool.not_true, cond_false]
  rw [cl_ok (f26_ok (by omega) h hj (class_ok h) hsm), this]
theorem f9_ok {M : Nat} {a b : Cf} {k : Int} {x : Px} {p : Pa} {o : Bool} (hM : big + 22 ≤ M) (h : a.ok) (h' : b.ok) (hk : ok64 k = true) (hx : x.ok) (hp : p.ok) :
    callP env (M + 1) 9 [a.t, b.t, i64 k, x.t, p.t, .bool o] = .ok (.bool true) := by
  obtain ⟨m, rfl⟩ := exM (show 1 ≤ M by omega)
  have hw : T.wfs [a.t, b.t, i64 k, x.t, p.t, .bool o] = true := by
    have h1 := h.wf; have h2 := wf_int hk; have h3 := hx.wf; have h4 := hp.wf; have h5 := h'.wf; have h6 := wf_bool o
    simp only [T.wfs, h1, h2, h3, h4, h5, h6, Bool.and_self]
  rw [q9, W_ok hw, cl_ok (f22_ok (by omega)), clB_ok (f23_ok (by omega) h)]
  cases h1 : few12 a with
  | false => rfl
  | true =>
  simp only [Bool.not_true, cond_false]
  rw [clB_ok (f23_ok (by omega) h')]
  cases h2 : few12 b with
  | false => rfl
  | true =>
  simp only [Bool.not_true, cond_false]
  cases hl : decide (((ints p.s).length : Int) > 100) with
  | true => rfl
  | false =>
  simp only [cond_false]
  rw [clB_ok (f27_ok (by omega) h h')]
  cases h3 : risesB a b with
  | false => rfl
  | true =>
  obtain ⟨g1, g2, g3, g4, _⟩ := rises_iff.1 h3
  obtain ⟨i, s, hi, hil, hs⟩ := idx_nat g3
  obtain ⟨j, t, hj, hjl, ht⟩ := idx_nat g4
  have hbg := big_val
  have hib : ok64 (sideI a b.a) = true := by rw [hi]; have := h.s.1; exact ok64_iff.2 (by omega)
  have hjb : ok64 (sideI b a.a) = true := by rw [hj]; have := h'.s.1; exact ok64_iff.2 (by omega)
  simp only [Bool.not_true, cond_false]
  rw [cl_ok (f28_ok (by omega) h h'.a)]
  simp only [compT, List.getElem?_cons_zero, List.getElem?_cons_succ]
  rw [cl_ok (f28_ok (by omega) h' h.a), g3, g4]
  simp only [compT, List.getElem?_cons_zero, List.getElem?_cons_succ]
  rw [cl_ok (f12_ok (by omega) h hk hx hp), optR_eq]
  simp only [compT, List.getElem?_cons_zero, List.getElem?_cons_succ, rt_chk, chk_true]
  cases o with
  | true =>
    simp only [cond_true]
    rw [cl_ok (f29_ok h.d)]
    simp only [rt_chk, chk_true]
    rw [cl_ok (f17_ok (by omega) h hib hx (ownR_ok h.d)), optP_eq]
    simp only [compT, List.getElem?_cons_zero, List.getElem?_cons_succ, pa_chk, chk_true]
    rw [cl_ok (f12_ok (by omega) h' hjb hx (outD_ok h (ownR_ok h.d))), optR_eq]
    simp only [compT, List.getElem?_cons_zero, List.getElem?_cons_succ, rt_chk, chk_true, bT_bool, Bool.not_true, cond_false, cond_true]
    cases hq : outR a (sideI a b.a) x (ownR a.d) with
    | none => rfl
    | some q =>
    simp only [Option.isSome_some, Bool.not_true, cond_false, Option.getD_some]
    cases hv : inR b (sideI b a.a) x q with
    | none => rfl
    | some v =>
    simp only [Option.isSome_some, Bool.not_true, cond_false, Option.getD_some]
    rw [clI_ok (f30_ok (by omega) (ownR_ok h.d) (inR_ok hv h' hjb (outR_ok hq h (ownR_ok h.d)))), decide_eq_true (worse_law h3 (.inr rfl) hq hv)]
  | false =>
    simp only [cond_false]
    rw [cl_ok (f17_ok (by omega) h hib hx (inD_ok h hk hp)), optP_eq]
    simp only [compT, List.getElem?_cons_zero, List.getElem?_cons_succ, pa_chk, chk_true]
    rw [cl_ok (f12_ok (by omega) h' hjb hx (outD_ok h (inD_ok h hk hp))), optR_eq]
    simp only [compT, List.getElem?_cons_zero, List.getElem?_cons_succ, rt_chk, chk_true, bT_bool, Bool.not_true, cond_false, cond_true]
    cases hr : inR a k x p with
    | none => rfl
    | some r =>
    have hro := inR_ok hr h hk hp
    simp only [Option.isSome_some, Bool.not_true, cond_false, Option.getD_some]
    cases hq : outR a (sideI a b.a) x r with
    | none => rfl
    | some q =>
    simp only [Option.isSome_some, Bool.not_true, cond_false, Option.getD_some]
    cases hv : inR b (sideI b a.a) x q with
    | none => rfl
    | some v =>
    simp only [Option.isSome_some, Bool.not_true, cond_false, Option.getD_some]
    rw [clI_ok (f30_ok (by omega) hro (inR_ok hv h' hjb (outR_ok hq h hro))), decide_eq_true (worse_law h3 (.inl ⟨k, p, hr⟩) hq hv)]
end Go.Sim

/- What calls come to: printed by wip/tools/eq2.py: laws of layer 14. -/
namespace Go.Sim
open Go.RowKit Go.Proofs
set_option linter.unusedVariables false
set_option maxRecDepth 100000
variable [Lv]


def sSP (a b : Pa) (i : Int) : St := ⟨slots 52 [(2, .ptr 0 0), (3, .ptr 1 0), (5, .t (i64 i))], [.box 30 4 (.t a.t), .box 30 4 (.t b.t)]⟩
theorem q31 (N : Nat)  : callP env (N + 1) 31 [] = W [] (chkAll (T.okE 6) [T.agg [i64 0, i64 0, i64 0, i64 0, i64 2, i64 300]] (chkAll (T.okE 6) [T.agg [i64 0, i64 0, i64 0, i64 0, i64 1, i64 0]] (chkAll (T.okE 6) [T.agg [i64 0, i64 0, i64 0, i64 0, i64 2, i64 100]] (chkAll (T.okE 6) [T.agg [i64 0, i64 0, i64 0, i64 0, i64 3, i64 1]] (chkAll (T.okE 4) [T.agg [i64 65002, i64 1, T.sl 6 [T.agg [i64 0, i64 0, i64 0, i64 0, i64 2, i64 300]], T.sl 6 [T.agg [i64 0, i64 0, i64 0, i64 0, i64 1, i64 0]]], T.agg [i64 65003, i64 3, T.sl 6 [T.agg [i64 0, i64 0, i64 0, i64 0, i64 2, i64 100]], T.sl 6 [T.agg [i64 0, i64 0, i64 0, i64 0, i64 3, i64 1]]]] (Res.ok (T.agg [i64 65001, i64 9, i64 0, i64 9, T.sl 2 [], T.sl 4 [T.agg [i64 65002, i64 1, T.sl 6 [T.agg [i64 0, i64 0, i64 0, i64 0, i64 2, i64 300]], T.sl 6 [T.agg [i64 0, i64 0, i64 0, i64 0, i64 1, i64 0]]], T.agg [i64 65003, i64 3, T.sl 6 [T.agg [i64 0, i64 0, i64 0, i64 0, i64 2, i64 100]], T.sl 6 [T.agg [i64 0, i64 0, i64 0, i64 0, i64 3, i64 1]]]]]))))))) := by kernel_rfl
theorem q10 (N : Nat)  : callP env (N + 1) 10 [] = W [] (cl N 31 [] fun x => chkAll (T.okE 1) [i64 65002] (cl N 12 [x, i64 0, T.agg [i64 0, i64 0], T.agg [i64 0, T.sl 1 [i64 65002], i64 5, i64 0]] fun x => compT x 0 fun y => compT x 1 fun y_1 => chk (y.cells.length == 6 && !y.isTup) (cl N 31 [] fun x => cl N 17 [x, i64 1, T.agg [i64 0, i64 0], y] fun x => compT x 0 fun y_2 => compT x 1 fun y_3 => chk (y_2.cells.length == 4 && !y_2.isTup) (cl N 31 [] fun x => cl N 17 [x, i64 0, T.agg [i64 0, i64 0], y] fun x => compT x 0 fun y_4 => compT x 1 fun y_5 => chk (y_4.cells.length == 4 && !y_4.isTup) (bT y_1 fun b => bif b then iT IntKind.i64 (y.partD 0 1 false) fun a => bif a == 300 then iT IntKind.i64 (y.partD 5 1 false) fun a => bif a == 0 then bT y_3 fun b => bif b then sllT (y_2.partD 1 1 false) fun n => bif n == 3 then slT 1 (y_2.partD 1 1 false) fun xs => atT xs 0 fun e => iT IntKind.i64 e fun a => bif a == 65001 then slT 1 (y_2.partD 1 1 false) fun xs => atT xs 1 fun e => iT IntKind.i64 e fun a => bif a == 65001 then slT 1 (y_2.partD 1 1 false) fun xs => atT xs 2 fun e => iT IntKind.i64 e fun a => bif a == 65002 then iT IntKind.i64 (y_2.partD 2 1 false) fun a => bif a == 9 then bT y_5 fun b => bif !b then cl N 31 [] fun x => clI N 19 [x, i64 1] fun a => rB (a == 3) else rB false else rB false else rB false else rB false else rB false else rB false else rB false else rB false else rB false else rB false))))) := by kernel_rfl
theorem q11 (N : Nat) (c : Cf) (p : Pa) : callP env (N + 1) 11 [c.t, p.t] = W [c.t, p.t] (clB N 23 [c.t] fun b => bif b then rB (decide ((↑(ints p.s).length : Int) ≤ 100)) else rB false) := by kernel_rfl
theorem q16 (N : Nat) (a b : Pa) : callP env (N + 1) 16 [a.t, b.t] = W [a.t, b.t] (bif a.o != b.o then rB false else bif a.h != b.h then rB false else bif a.c != b.c then rB false else bif (↑(ints a.s).length : Int) != (↑(ints b.s).length : Int) then rB false else loopL env N 16 4 { tmps := slots 52 [(2, PV.ptr 0 0), (3, PV.ptr 1 0), (5, PV.t (i64 0))], heap := [AObj.box 30 4 (PV.t a.t), AObj.box 30 4 (PV.t b.t)] }) := by kernel_rfl
theorem b16_4 (N : Nat) (a b : Pa) (i : Int) : bodyL env N 16 0 4 (sSP a b i) = bif decide (i < (↑(ints a.s).length : Int)) then atT (ints a.s) i fun e => atT (ints b.s) i fun e_1 => iT IntKind.i64 e fun a_1 => iT IntKind.i64 e_1 fun b_1 => bif a_1 != b_1 then Res.ok (Ex.ret, { tmps := slots 52 [(4, PV.t (T.bool false))], heap := [] }) else Res.ok (Ex.norm, sSP a b (IntKind.i64.wrap (i + 1))) else Res.ok (Ex.exit 0, { tmps := slots 52 [], heap := [] }) := by kernel_rfl
theorem t16_4_exit0 (N : Nat) (H : List AObj) : tailL env N 16 0 4 (outK env 16) (.exit 0) (⟨slots 52 [], H⟩) = rB true := by kernel_rfl
theorem t16_4_ret (N : Nat) (H : List AObj) (v : Bool) : tailL env N 16 0 4 (outK env 16) (.ret) (⟨slots 52 [(4, .t (.bool v))], H⟩) = rB v := by kernel_rfl
end Go.Sim

/- What calls come to: printed by wip/tools/eq2.py: laws of layer 14. -/
namespace Go.Sim
open Go.RowKit Go.Proofs
set_option linter.unusedVariables false
set_option maxRecDepth 100000
variable [Lv]


def sTk (c : Cf) (k : Int) (p : Pa) (r : Rt) (i : Int) : St := ⟨slots 110 [(1, .t (i64 k)), (4, .ptr 0 0), (7, .ptr 1 0), (9, .t (.bool true)), (10, .ptr 2 0), (12, .t (i64 i))], [.box 25 6 (.t c.t), .box 30 4 (.t p.t), .box 34 6 (.t r.t)]⟩
theorem q3 (N : Nat) (c : Cf) (k : Int) (x : Px) (p : Pa) : callP env (N + 1) 3 [c.t, i64 k, x.t, p.t] = W [c.t, i64 k, x.t, p.t] (cl N 10 [] fun x_1 => clB N 11 [c.t, p.t] fun b => bif !b then Res.ok x_1 else cl N 12 [c.t, i64 k, x.t, p.t] fun x => compT x 0 fun y => compT x 1 fun y_1 => chk (y.cells.length == 6 && !y.isTup) (bT y_1 fun b => bif !b then bT x_1 fun b => bif b then cl N 13 [y, T.agg [i64 0, i64 0, T.sl 1 [], i64 0, i64 0, i64 0]] fun x => Res.ok x else rB false else loopL env N 3 8 { tmps := slots 110 [(1, PV.t (i64 k)), (4, PV.ptr 0 0), (7, PV.ptr 1 0), (9, PV.t x_1), (10, PV.ptr 2 0), (12, PV.t (i64 0))], heap := [AObj.box 25 6 (PV.t c.t), AObj.box 30 4 (PV.t p.t), AObj.box 34 6 (PV.t y)] })) := by kernel_rfl
theorem b3_8 (N : Nat) (c : Cf) (k : Int) (p : Pa) (r : Rt) (i : Int) : bodyL env N 3 0 8 (sTk c k p r i) = bif decide (i < (↑(ints r.p.s).length : Int)) then atT (ints r.p.s) i fun e => iT IntKind.i64 e fun a => bif a == c.a then Res.ok (Ex.ret, { tmps := slots 110 [(8, PV.t (T.bool false))], heap := [] }) else Res.ok (Ex.norm, sTk c k p r (IntKind.i64.wrap (i + 1))) else Res.ok (Ex.exit 0, { tmps := slots 110 [(1, PV.t (i64 k)), (4, PV.ptr 0 0), (7, PV.ptr 1 0), (9, PV.t (T.bool true)), (10, PV.ptr 2 0)], heap := [AObj.box 25 6 (PV.t c.t), AObj.box 30 4 (PV.t p.t), AObj.box 34 6 (PV.t r.t)] }) := by kernel_rfl
theorem t3_8_exit0 (N : Nat) (c : Cf) (k : Int) (p : Pa) (r : Rt) : tailL env N 3 0 8 (outK env 3) (.exit 0) (⟨slots 110 [(1, .t (i64 k)), (4, .ptr 0 0), (7, .ptr 1 0), (9, .t (.bool true)), (10, .ptr 2 0)], [.box 25 6 (.t c.t), .box 30 4 (.t p.t), .box 34 6 (.t r.t)]⟩) = clB N 14 [c.t] fun b => bif b then clB N 15 [r.t] fun b => bif b then bif r.f == k then bif decide (k ≥ 0) then bif decide (k < (↑(List.map Sd.t c.s).length : Int)) then bif decide ((↑(ints r.p.s).length : Int) > 0) then atT (ints r.p.s) 0 fun e => atT (List.map Sd.t c.s) k fun e_1 => iT IntKind.i64 e fun a => iT IntKind.i64 (e_1.partD 0 1 false) fun b => bif a == b then cl N 16 [T.agg [i64 r.p.o, T.sl 1 (ints r.p.s), i64 r.p.h, i64 p.c], p.t] fun x => Res.ok x else rB false else rB false else rB false else rB false else rB false else rB false else rB false := by kernel_rfl
theorem q5 (N : Nat) (c : Cf) (k j : Int) (x : Px) (p : Pa) : callP env (N + 1) 5 [c.t, i64 k, i64 j, x.t, p.t] = W [c.t, i64 k, i64 j, x.t, p.t] (cl N 10 [] fun x_1 => clB N 11 [c.t, p.t] fun b => bif !b then Res.ok x_1 else cl N 12 [c.t, i64 k, x.t, p.t] fun x_2 => compT x_2 0 fun y => compT x_2 1 fun y_1 => chk (y.cells.length == 6 && !y.isTup) (cl N 17 [c.t, i64 j, x.t, y] fun x => compT x 0 fun y_2 => compT x 1 fun y_3 => chk (y_2.cells.length == 4 && !y_2.isTup) (bT y_1 fun b => bif !b then Res.ok x_1 else bT y_3 fun b => bif !b then Res.ok x_1 else cl N 19 [c.t, i64 k] fun x => cl N 19 [c.t, i64 j] fun x_3 => atT (List.map Sd.t c.s) k fun e => cl N 20 [x, e.partD 0 1 false, i64 p.c] fun x_4 => compT x_4 0 fun y_4 => compT x_4 1 fun y_5 => bT x_1 fun b => bif b then bT y_5 fun b => bif b then iT IntKind.i64 (y.partD 4 1 false) fun a => iT IntKind.i64 y_4 fun b => bif a == b then iT IntKind.i64 x fun a => bif a == 1 then iT IntKind.i64 (y.partD 4 1 false) fun a => bif a == 0 then iT IntKind.i64 x_3 fun a => iT IntKind.i64 (y_2.partD 3 1 false) fun a_1 => rB ((a == 3) == (a_1 == 0) && true) else iT IntKind.i64 x_3 fun a => bif a == 1 then iT IntKind.i64 x_3 fun a => iT IntKind.i64 (y_2.partD 3 1 false) fun a_1 => rB ((a == 3) == (a_1 == 0) && true) else rB false else iT IntKind.i64 x_3 fun a => bif a == 1 then iT IntKind.i64 (y.partD 4 1 false) fun a => bif a == 0 then iT IntKind.i64 x_3 fun a => iT IntKind.i64 (y_2.partD 3 1 false) fun a_1 => rB ((a == 3) == (a_1 == 0) && true) else iT IntKind.i64 x_3 fun a => bif a == 1 then iT IntKind.i64 x_3 fun a => iT IntKind.i64 (y_2.partD 3 1 false) fun a_1 => rB ((a == 3) == (a_1 == 0) && true) else rB false else rB false else rB false else rB false else rB false))) := by kernel_rfl
theorem q7 (N : Nat) (c : Cf) (k j : Int) (x : Px) (r : Rt) : callP env (N + 1) 7 [c.t, i64 k, i64 j, x.t, r.t] = W [c.t, i64 k, i64 j, x.t, r.t] (cl N 10 [] fun x_1 => clB N 11 [c.t, r.p.t] fun b => bif !b then Res.ok x_1 else cl N 17 [c.t, i64 k, x.t, r.t] fun x_2 => compT x_2 0 fun y => compT x_2 1 fun y_1 => chk (y.cells.length == 4 && !y.isTup) (cl N 12 [c.t, i64 j, x.t, y] fun x_3 => compT x_3 0 fun y => compT x_3 1 fun y_2 => chk (y.cells.length == 6 && !y.isTup) (chkAll (T.okE 1) [i64 c.a] (chk (decide ((1 + (ints r.p.s).length) * 8 ≤ 140737488355328)) (cl N 12 [c.t, i64 j, x.t, T.agg [i64 r.p.o, T.sl 1 ([i64 c.a] ++ ints r.p.s), i64 r.p.h, i64 r.p.c]] fun x => compT x 0 fun y => compT x 1 fun y_3 => chk (y.cells.length == 6 && !y.isTup) (bT x_1 fun b => bif b then bT y_1 fun b => bif !b then bT y_3 fun b => bif !b then bT y_1 fun b => bif !b then rB true else cl N 15 [r.t] fun x => Res.ok x else rB false else bT y_2 fun b => bif !b then bT y_3 fun b => bif !b then bT y_1 fun b => bif !b then rB true else cl N 15 [r.t] fun x => Res.ok x else rB false else rB false else rB false)))))) := by kernel_rfl
end Go.Sim

/- EdgeTakes, EdgeMarks, EdgeLoops: their calls come to 'true'. -/
namespace Go.Sim
open Go.RowKit Go.Proofs
set_option linter.unusedVariables false
set_option linter.unusedSimpArgs false
set_option linter.unusedSectionVars false
set_option maxRecDepth 100000

def nodeE : Cf := ⟨65001, 9, 0, 9, [], [⟨65002, 1, [⟨0, ⟨0, 0⟩, 0, 2, 300⟩], [⟨0, ⟨0, 0⟩, 0, 1, 0⟩]⟩, ⟨65003, 3, [⟨0, ⟨0, 0⟩, 0, 2, 100⟩], [⟨0, ⟨0, 0⟩, 0, 3, 1⟩]⟩]⟩
theorem nodeE_ok : nodeE.ok := ⟨rfl, rfl, rfl, rfl, okL_nil, okL_two ⟨rfl, rfl, okL_one ⟨rfl, ⟨rfl, rfl⟩, rfl, rfl, rfl⟩, okL_one ⟨rfl, ⟨rfl, rfl⟩, rfl, rfl, rfl⟩⟩ ⟨rfl, rfl, okL_one ⟨rfl, ⟨rfl, rfl⟩, rfl, rfl, rfl⟩, okL_one ⟨rfl, ⟨rfl, rfl⟩, rfl, rfl, rfl⟩⟩⟩
def pathE : Pa := ⟨0, [65002], 5, 0⟩
theorem pathE_ok : pathE.ok := ⟨rfl, show 1 ≤ big by decide, fun x hx => (by rw [List.mem_singleton.1 hx]; rfl), rfl, rfl⟩
def routeE : Rt := ⟨300, pathE, 0⟩
theorem routeE_ok : routeE.ok := ⟨rfl, pathE_ok, rfl⟩
variable [Lv]
theorem f31_ok {M : Nat} : callP env (M + 1) 31 [] = .ok nodeE.t := by rw [q31]; kernel_rfl
set_option maxHeartbeats 1000000 in
theorem f10_ok {M : Nat} (hM : big + 20 ≤ M) : callP env (M + 1) 10 [] = .ok (.bool true) := by
  obtain ⟨m, rfl⟩ := exM (show 1 ≤ M by omega)
  have hx : (⟨0, 0⟩ : Px).ok := ⟨rfl, rfl⟩
  have i1 : callP env (m + 1) 12 [nodeE.t, i64 0, T.agg [i64 0, i64 0], T.agg [i64 0, T.sl 1 [i64 65002], i64 5, i64 0]] = .ok (.tup [routeE.t, .bool true]) := by
    have := f12_ok (M := m) (k := 0) (by omega) nodeE_ok rfl hx pathE_ok
    rw [show inR nodeE 0 ⟨0, 0⟩ pathE = some routeE by decide +kernel] at this
    exact this
  have i2 : callP env (m + 1) 17 [nodeE.t, i64 1, T.agg [i64 0, i64 0], routeE.t] = .ok (.tup [(Pa.mk 0 [65001, 65001, 65002] 9 0).t, .bool true]) := by
    have := f17_ok (M := m) (k := 1) (by omega) nodeE_ok rfl hx routeE_ok
    rw [show outR nodeE 1 ⟨0, 0⟩ routeE = some ⟨0, [65001, 65001, 65002], 9, 0⟩ by decide +kernel] at this
    exact this
  have i3 : callP env (m + 1) 17 [nodeE.t, i64 0, T.agg [i64 0, i64 0], routeE.t] = .ok (.tup [zP, .bool false]) := by
    have := f17_ok (M := m) (k := 0) (by omega) nodeE_ok rfl hx routeE_ok
    rw [show outR nodeE 0 ⟨0, 0⟩ routeE = none by decide +kernel] at this
    exact this
  have i4 : callP env (m + 1) 19 [nodeE.t, i64 1] = .ok (i64 3) := by
    have := f19_ok (M := m) (k := 1) (by omega) nodeE_ok rfl
    rw [show classI nodeE 1 = 3 by decide +kernel] at this
    exact this
  have e0 : chkAll (T.okE 1) [i64 65002] = fun (K : Res T) => K := rfl
  have zc : (zP.cells.length == 4 && !zP.isTup) = true := rfl
  rw [q10, W_ok rfl, cl_ok f31_ok, e0]
  simp only []
  rw [cl_ok i1]
  simp only [compT, List.getElem?_cons_zero, List.getElem?_cons_succ, rt_chk, chk_true]
  rw [cl_ok f31_ok, cl_ok i2]
  simp only [compT, List.getElem?_cons_zero, List.getElem?_cons_succ, pa_chk, chk_true]
  rw [cl_ok f31_ok, cl_ok i3]
  have p0 : routeE.t.partD 0 1 false = i64 300 := rfl
  have p5 : routeE.t.partD 5 1 false = i64 0 := rfl
  have q1 : (Pa.mk 0 [65001, 65001, 65002] 9 0).t.partD 1 1 false = T.sl 1 [i64 65001, i64 65001, i64 65002] := rfl
  have q2 : (Pa.mk 0 [65001, 65001, 65002] 9 0).t.partD 2 1 false = i64 9 := rfl
  have s1 : ∀ K : Int → Res T, sllT (T.sl 1 [i64 65001, i64 65001, i64 65002]) K = K 3 := fun K => rfl
  have s2 : ∀ (l : List T) (K : List T → Res T), slT 1 (T.sl 1 l) K = K l := fun l K => rfl
  have a0 : ∀ K : T → Res T, atT [i64 65001, i64 65001, i64 65002] 0 K = K (i64 65001) := fun K => rfl
  have a1 : ∀ K : T → Res T, atT [i64 65001, i64 65001, i64 65002] 1 K = K (i64 65001) := fun K => rfl
  have a2 : ∀ K : T → Res T, atT [i64 65001, i64 65001, i64 65002] 2 K = K (i64 65002) := fun K => rfl
  simp only [compT, List.getElem?_cons_zero, List.getElem?_cons_succ, zc, chk_true, bT_bool, cond_true, p0, p5, q1, q2, s1, s2, a0, a1, a2, iT_int, beq_self_eq_true, Bool.not_false]
  rw [cl_ok f31_ok, clI_ok i4]
  rfl
theorem f11_ok {M : Nat} {c : Cf} {p : Pa} (hM : big + 5 ≤ M) (h : c.ok) (hp : p.ok) : callP env (M + 1) 11 [c.t, p.t] = .ok (.bool (few12 c && decide (p.s.length ≤ 100))) := by
  obtain ⟨m, rfl⟩ := exM (show 1 ≤ M by omega)
  rw [q11, W_ok (wfs2 h.wf hp.wf), clB_ok (f23_ok (by omega) h), and_rB]
  have : decide (((ints p.s).length : Int) ≤ 100) = decide (p.s.length ≤ 100) := by rw [ints_map, List.length_map]; exact decide_eq_decide.2 (by omega)
  rw [this]
theorem same_loop {M : Nat} {a b : Pa} (hM : big + 1 ≤ M) (ha : a.s.length ≤ big) (hs : a.s.length = b.s.length) : loopL env M 16 4 (sSP a b 0) = rB (decide (a.s = b.s)) := by
  have hit := iter_seek (B := bodyL env M 16 0 4) (S := fun i => sSP a b i) (R := fun _ => ⟨slots 52 [(4, .t (.bool false))], []⟩) (X := ⟨slots 52 [], []⟩) (id := 0) (fun i => !(a.s[i]? == b.s[i]?)) a.s.length 0 M (by omega)
    (fun j h0 h1 hp => by
      have hj : j < a.s.length := by omega
      have e1 : a.s[j]? = some a.s[j] := List.getElem?_eq_getElem hj
      have e2 : b.s[j]? = some (b.s[j]'(by omega)) := List.getElem?_eq_getElem (by omega)
      rw [b16_4, decide_eq_true (by rw [ints_map, List.length_map]; omega)]
      simp only [cond_true]
      rw [atT_get (ints_get e1), atT_get (ints_get e2)]
      simp only [iT_int]
      rw [e1, e2] at hp
      have : (a.s[j] != b.s[j]'(by omega)) = true := by simpa using hp
      rw [this]; rfl)
    (fun j h0 h1 hp => by
      have hj : j < a.s.length := by omega
      have e1 : a.s[j]? = some a.s[j] := List.getElem?_eq_getElem hj
      have e2 : b.s[j]? = some (b.s[j]'(by omega)) := List.getElem?_eq_getElem (by omega)
      rw [b16_4, decide_eq_true (by rw [ints_map, List.length_map]; omega)]
      simp only [cond_true]
      rw [atT_get (ints_get e1), atT_get (ints_get e2)]
      simp only [iT_int]
      rw [e1, e2] at hp
      have : (a.s[j] != b.s[j]'(by omega)) = false := by simpa using hp
      rw [this, wrap_succ (show j ≤ big by omega)]; rfl)
    (by rw [Nat.zero_add, b16_4, decide_eq_false (by rw [ints_map, List.length_map]; omega)]; rfl)
  cases hk : seekI (fun i => !(a.s[i]? == b.s[i]?)) 0 a.s.length with
  | some j =>
    rw [hk] at hit
    obtain ⟨_, hj, hp⟩ := seekI_some hk
    refine (loopL_end hit).trans ((t16_4_ret M [] false).trans ?_)
    rw [decide_eq_false]
    intro he
    rw [he] at hp
    simp at hp
  | none =>
    rw [hk] at hit
    refine (loopL_end hit).trans ((t16_4_exit0 M []).trans ?_)
    rw [decide_eq_true]
    refine List.ext_getElem? fun i => ?_
    rcases Nat.lt_or_ge i a.s.length with hi | hi
    · have := seekI_none hk i (by omega) (by omega)
      simpa using this
    · rw [List.getElem?_eq_none hi, List.getElem?_eq_none (by omega)]
theorem f16_ok {M : Nat} {a b : Pa} (hM : big + 1 ≤ M) (ha : a.ok) (hb : b.ok) : callP env (M + 1) 16 [a.t, b.t] = .ok (.bool (decide (a = b))) := by
  have e : decide (a = b) = (decide (a.o = b.o) && (decide (a.h = b.h) && (decide (a.c = b.c) && decide (a.s = b.s)))) := by
    rw [Bool.eq_iff_iff]
    simp only [decide_eq_true_eq, Bool.and_eq_true]
    obtain ⟨o, s, h, c⟩ := a
    obtain ⟨o', s', h', c'⟩ := b
    simp only [Pa.mk.injEq]
    constructor
    · rintro ⟨h1, h2, h3, h4⟩; exact ⟨h1, h3, h4, h2⟩
    · rintro ⟨h1, h3, h4, h2⟩; exact ⟨h1, h2, h3, h4⟩
  rw [e, q16, W_ok (wfs2 ha.wf hb.wf)]
  by_cases h1 : a.o = b.o
  case neg => rw [bne_iff_ne.2 h1, decide_eq_false h1]; rfl
  by_cases h2 : a.h = b.h
  case neg => rw [h1, bne_self_eq_false, bne_iff_ne.2 h2, decide_eq_false h2]; simp
  by_cases h3 : a.c = b.c
  case neg => rw [h1, h2, bne_self_eq_false, bne_self_eq_false, bne_iff_ne.2 h3, decide_eq_false h3]; simp
  rw [h1, h2, h3, bne_self_eq_false, bne_self_eq_false, bne_self_eq_false]
  simp only [cond_false, decide_true, Bool.true_and]
  rw [ints_map, ints_map, List.length_map, List.length_map]
  by_cases h4 : a.s.length = b.s.length
  · rw [h4, bne_self_eq_false]
    exact same_loop hM ha.l h4
  · rw [bne_iff_ne.2 (show (a.s.length : Int) ≠ (b.s.length : Int) by omega), decide_eq_false (fun h => h4 (by rw [h]))]; rfl
theorem takes_loop {M : Nat} {c : Cf} {k : Int} {p : Pa} {r : Rt} (hM : big + 1 ≤ M) (hr : r.p.s.length ≤ big) (hn : r.p.s.contains c.a = false) : iterR (bodyL env M 3 0 8) M (sTk c k p r 0) =
    .ok (.exit 0, ⟨slots 110 [(1, .t (i64 k)), (4, .ptr 0 0), (7, .ptr 1 0), (9, .t (.bool true)), (10, .ptr 2 0)], [.box 25 6 (.t c.t), .box 30 4 (.t p.t), .box 34 6 (.t r.t)]⟩) := by
  refine (iter_fold (B := bodyL env M 3 0 8) (S := fun (_ : Unit) i => sTk c k p r i) (X := fun _ => ⟨slots 110 [(1, .t (i64 k)), (4, .ptr 0 0), (7, .ptr 1 0), (9, .t (.bool true)), (10, .ptr 2 0)], [.box 25 6 (.t c.t), .box 30 4 (.t p.t), .box 34 6 (.t r.t)]⟩) (id := 0)
    (fun _ _ => True) (fun _ (_ : Int) => ()) r.p.s (n := M) () (by omega) (fun _ j x hx _ => ⟨?_, trivial⟩) (fun _ _ => ?_) trivial).1
  · have hj := (List.getElem?_eq_some_iff.1 hx).1
    show bodyL env M 3 0 8 (sTk c k p r j) = _
    rw [b3_8, decide_eq_true (by rw [ints_map, List.length_map]; omega)]
    simp only [cond_true]
    rw [atT_get (ints_get hx)]
    simp only [iT_int]
    have : (x == c.a) = false := by
      rw [beq_eq_false_iff_ne]
      intro e
      subst e
      rw [List.contains_iff_mem.2 (List.mem_of_getElem? hx)] at hn
      cases hn
    rw [this, wrap_succ (show j ≤ big by omega)]
    rfl
  · show bodyL env M 3 0 8 (sTk c k p r r.p.s.length) = _
    rw [b3_8, decide_eq_false (by rw [ints_map, List.length_map]; omega)]; rfl
theorem f3_ok {M : Nat} {c : Cf} {k : Int} {x : Px} {p : Pa} (hM : big + 24 ≤ M) (h : c.ok) (hk : ok64 k = true) (hx : x.ok) (hp : p.ok) : callP env (M + 1) 3 [c.t, i64 k, x.t, p.t] = .ok (.bool true) := by
  obtain ⟨m, rfl⟩ := exM (show 1 ≤ M by omega)
  have hw : T.wfs [c.t, i64 k, x.t, p.t] = true := by
    have h1 := h.wf; have h2 := wf_int hk; have h3 := hx.wf; have h4 := hp.wf
    simp only [T.wfs, h1, h2, h3, h4, Bool.and_self]
  rw [q3, W_ok hw, cl_ok (f10_ok (by omega)), clB_ok (f11_ok (by omega) h hp)]
  cases hf : few12 c && decide (p.s.length ≤ 100) with
  | false => rfl
  | true =>
  simp only [Bool.not_true, cond_false]
  rw [cl_ok (f12_ok (by omega) h hk hx hp), optR_eq]
  simp only [compT, List.getElem?_cons_zero, List.getElem?_cons_succ, rt_chk, chk_true, bT_bool]
  cases hr : inR c k x p with
  | none =>
    simp only [Option.isSome_none, Option.getD_none, Bool.not_false, cond_true]
    refine Eq.trans (show _ = cl (m + 1) 13 [zRt.t, zRt.t] fun x => Res.ok x from rfl) ?_
    rw [cl_ok (f13_ok (by omega) zRt_ok zRt_ok)]
    have : cmpR zRt zRt = 0 := cmpR_zero.2 rfl
    rw [this]; rfl
  | some r =>
  have hro := inR_ok hr h hk hp
  obtain ⟨g1, g2, g3, ⟨i, s, rfl, hs, g4⟩, g5, g6, g7, g8⟩ := takes_law hr
  have hil := (List.getElem?_eq_some_iff.1 hs).1
  have hl0 := (List.getElem?_eq_some_iff.1 g4).1
  have hlen : ((ints r.p.s).length : Int) = (r.p.s.length : Int) := by rw [ints_map, List.length_map]
  simp only [Option.isSome_some, Option.getD_some, Bool.not_true, cond_false]
  refine Eq.trans (show _ = loopL env (m + 1) 3 8 (sTk c i p r 0) from rfl) ?_
  refine (loopL_end (takes_loop (by omega) hro.p.l (by rw [g5]; exact g6))).trans ?_
  refine (t3_8_exit0 (m + 1) c i p r).trans ?_
  have hpo : (Pa.mk r.p.o r.p.s r.p.h p.c).ok := ⟨hro.p.o, hro.p.l, hro.p.s, hro.p.h, hp.c⟩
  rw [clB_ok (f14_ok (by omega) h), g1, cond_true, clB_ok (f15_ok (by omega) hro), g2, cond_true, g3, beq_self_eq_true, cond_true, decide_eq_true (show (i : Int) ≥ 0 by omega), cond_true, List.length_map, decide_eq_true (show (i : Int) < (c.s.length : Int) by omega), cond_true, hlen,
    decide_eq_true (show (r.p.s.length : Int) > 0 by omega), cond_true]
  refine (atT_get (i := 0) (ints_get g4)).trans ?_
  rw [atT_get (map_get hs)]
  have e1 : s.t.partD 0 1 false = i64 s.a := rfl
  rw [e1]
  simp only [iT_int, beq_self_eq_true, cond_true]
  refine (cl_ok (f16_ok (a := ⟨r.p.o, r.p.s, r.p.h, p.c⟩) (by omega) hpo hp)).trans ?_
  have : (⟨r.p.o, r.p.s, r.p.h, p.c⟩ : Pa) = p := by rw [g5, g7, g8]
  rw [decide_eq_true this]
theorem f5_ok {M : Nat} {c : Cf} {k j : Int} {x : Px} {p : Pa} (hM : big + 24 ≤ M) (h : c.ok) (hk : ok64 k = true) (hj : ok64 j = true) (hx : x.ok) (hp : p.ok) : callP env (M + 1) 5 [c.t, i64 k, i64 j, x.t, p.t] = .ok (.bool true) := by
  obtain ⟨m, rfl⟩ := exM (show 1 ≤ M by omega)
  have hw : T.wfs [c.t, i64 k, i64 j, x.t, p.t] = true := by
    have h1 := h.wf; have h2 := wf_int hk; have h3 := hx.wf; have h4 := hp.wf; have h5 := wf_int hj
    simp only [T.wfs, h1, h2, h3, h4, h5, Bool.and_self]
  rw [q5, W_ok hw, cl_ok (f10_ok (by omega)), clB_ok (f11_ok (by omega) h hp)]
  cases hf : few12 c && decide (p.s.length ≤ 100) with
  | false => rfl
  | true =>
  simp only [Bool.not_true, cond_false]
  rw [cl_ok (f12_ok (by omega) h hk hx hp), optR_eq]
  simp only [compT, List.getElem?_cons_zero, List.getElem?_cons_succ, rt_chk, chk_true]
  rw [cl_ok (f17_ok (by omega) h hj hx (inD_ok h hk hp)), optP_eq]
  simp only [compT, List.getElem?_cons_zero, List.getElem?_cons_succ, pa_chk, chk_true, bT_bool]
  cases hr : inR c k x p with
  | none => rfl
  | some r =>
  simp only [Option.isSome_some, Option.getD_some, Bool.not_true, cond_false]
  cases hq : outR c j x r with
  | none => rfl
  | some q =>
  simp only [Option.isSome_some, Option.getD_some, Bool.not_true, cond_false]
  obtain ⟨⟨i, s, rfl, hs, e1, e2⟩, e3, e4, e5⟩ := marks_law hr hq
  have hso := h.s.2 _ (List.mem_of_getElem? hs)
  rw [cl_ok (f19_ok (by omega) h hk), cl_ok (f19_ok (by omega) h hj), atT_get (map_get hs)]
  have e6 : s.t.partD 0 1 false = i64 s.a := rfl
  rw [e6, e1, cl_ok (f20_ok (by omega) hso.r hso.a hp.c), e2]
  rw [e1] at e3
  have e7 : r.t.partD 4 1 false = i64 r.p.c := rfl
  have e8 : q.t.partD 3 1 false = i64 q.c := rfl
  rw [e7, e8]
  simp only [compT, List.getElem?_cons_zero, List.getElem?_cons_succ, bT_bool, cond_true, Option.isSome_some, Option.getD_some, iT_int, beq_self_eq_true, Bool.and_true]
  have e9 : ((classI c j == 3) == (q.c == 0)) = true := by
    rw [beq_iff_eq, Bool.eq_iff_iff, beq_iff_eq, beq_iff_eq]; exact e5
  rw [e9]
  cases d1 : s.r == 1 <;> cases d2 : classI c j == 1 <;> cases d3 : r.p.c == 0 <;> try rfl
  all_goals
    rw [beq_eq_false_iff_ne] at d2
    first
      | (rw [beq_eq_false_iff_ne] at d1; exact absurd e3 (by rintro (a | a) <;> contradiction))
      | (rw [beq_eq_false_iff_ne] at d3; exact absurd e4 (by rintro (a | a) <;> contradiction))
theorem f7_ok {M : Nat} {c : Cf} {k j : Int} {x : Px} {r : Rt} (hM : big + 24 ≤ M) (h : c.ok) (hk : ok64 k = true) (hj : ok64 j = true) (hx : x.ok) (hr : r.ok) : callP env (M + 1) 7 [c.t, i64 k, i64 j, x.t, r.t] = .ok (.bool true) := by
  obtain ⟨m, rfl⟩ := exM (show 1 ≤ M by omega)
  have hw : T.wfs [c.t, i64 k, i64 j, x.t, r.t] = true := by
    have h1 := h.wf; have h2 := wf_int hk; have h3 := hx.wf; have h4 := hr.wf; have h5 := wf_int hj
    simp only [T.wfs, h1, h2, h3, h4, h5, Bool.and_self]
  have hbg := big_val
  rw [q7, W_ok hw, cl_ok (f10_ok (by omega)), clB_ok (f11_ok (by omega) h hr.p)]
  cases hf : few12 c && decide (r.p.s.length ≤ 100) with
  | false => rfl
  | true =>
  simp only [Bool.and_eq_true, decide_eq_true_eq] at hf
  simp only [Bool.not_true, cond_false]
  rw [cl_ok (f17_ok (by omega) h hk hx hr), optP_eq]
  simp only [compT, List.getElem?_cons_zero, List.getElem?_cons_succ, pa_chk, chk_true]
  rw [cl_ok (f12_ok (by omega) h hj hx (outD_ok h hr)), optR_eq]
  simp only [compT, List.getElem?_cons_zero, List.getElem?_cons_succ, rt_chk, chk_true]
  have hso : (Pa.mk r.p.o (c.a :: r.p.s) r.p.h r.p.c).ok := ⟨hr.p.o, show r.p.s.length + 1 ≤ big by omega, fun n hn => (List.mem_cons.1 hn).elim (fun e => e ▸ h.a) (hr.p.s n), hr.p.h, hr.p.c⟩
  have i3 := f12_ok (M := m) (by omega) h hj hx hso
  rw [loop_law (c := c) (k := j) (x := x) (p := ⟨r.p.o, c.a :: r.p.s, r.p.h, r.p.c⟩) List.mem_cons_self, optR_eq] at i3
  have e0 : chkAll (T.okE 1) [i64 c.a] = fun (K : Res T) => K := rfl
  rw [e0]
  simp only []
  rw [decide_eq_true (show (1 + (ints r.p.s).length) * 8 ≤ 140737488355328 by rw [ints_map, List.length_map]; omega), chk_true]
  refine (cl_ok i3).trans ?_
  simp only [compT, List.getElem?_cons_zero, List.getElem?_cons_succ, rt_chk, chk_true, bT_bool, cond_true, Option.isSome_none, Bool.not_false]
  cases hq : outR c k x r with
  | none => rfl
  | some q =>
  obtain ⟨g1, g2⟩ := loop_law2 hq
  have g3 := loop_law (c := c) (k := j) (x := x) g1
  simp only [Option.isSome_some, Option.getD_some, Bool.not_true, cond_false, g3, Option.isSome_none, Bool.not_false, cond_true]
  rw [cl_ok (f15_ok (by omega) hr), g2]
end Go.Sim

/- What calls come to: printed by wip/tools/eq2.py: laws of layer 14. -/
namespace Go.Sim
open Go.RowKit Go.Proofs
set_option linter.unusedVariables false
set_option maxRecDepth 100000
variable [Lv]


def sTe (c : Cf) (r : Rt) (q : Pa) (n i : Int) : St := ⟨slots 132 [(4, .ptr 0 0), (7, .ptr 1 0), (9, .t (.bool true)), (10, .ptr 2 0), (12, .t (i64 n)), (13, .t (i64 i))], [.box 25 6 (.t c.t), .box 34 6 (.t r.t), .box 30 4 (.t q.t)]⟩
theorem q4 (N : Nat) (c : Cf) (k : Int) (x : Px) (r : Rt) : callP env (N + 1) 4 [c.t, i64 k, x.t, r.t] = W [c.t, i64 k, x.t, r.t] (cl N 10 [] fun x_1 => clB N 11 [c.t, r.p.t] fun b => bif !b then Res.ok x_1 else cl N 17 [c.t, i64 k, x.t, r.t] fun x => compT x 0 fun y => compT x 1 fun y_1 => chk (y.cells.length == 4 && !y.isTup) (bT y_1 fun b => bif !b then bT x_1 fun b => bif b then cl N 16 [y, T.agg [i64 0, T.sl 1 [], i64 0, i64 0]] fun x => Res.ok x else rB false else sllT (y.partD 1 1 false) fun n => bif decide (IntKind.i64.wrap (n - (↑(ints r.p.s).length : Int)) < 1) then rB false else bif decide (IntKind.i64.wrap (n - (↑(ints r.p.s).length : Int)) > 9) then rB false else sllT (y.partD 1 1 false) fun n_1 => bif decide (n_1 > 32) then rB false else bif r.f == k then rB false else loopL env N 4 11 { tmps := slots 132 [(4, PV.ptr 0 0), (7, PV.ptr 1 0), (9, PV.t x_1), (10, PV.ptr 2 0), (12, PV.t (i64 (IntKind.i64.wrap (n - (↑(ints r.p.s).length : Int))))), (13, PV.t (i64 0))], heap := [AObj.box 25 6 (PV.t c.t), AObj.box 34 6 (PV.t r.t), AObj.box 30 4 (PV.t y)] })) := by kernel_rfl
theorem b4_11 (N : Nat) (c : Cf) (r : Rt) (q : Pa) (n i : Int) : bodyL env N 4 0 11 (sTe c r q n i) = bif decide (i < (↑(ints q.s).length : Int)) then bif decide (i < n) then atT (ints q.s) i fun e => iT IntKind.i64 e fun a => bif a != c.a then Res.ok (Ex.ret, { tmps := slots 132 [(8, PV.t (T.bool false))], heap := [] }) else bif decide (i ≥ n) then atT (ints q.s) i fun e => atT (ints r.p.s) (IntKind.i64.wrap (i - n)) fun e_1 => iT IntKind.i64 e fun a => iT IntKind.i64 e_1 fun b => bif a != b then Res.ok (Ex.ret, { tmps := slots 132 [(8, PV.t (T.bool false))], heap := [] }) else Res.ok (Ex.norm, sTe c r q n (IntKind.i64.wrap (i + 1))) else Res.ok (Ex.norm, sTe c r q n (IntKind.i64.wrap (i + 1))) else bif decide (i ≥ n) then atT (ints q.s) i fun e => atT (ints r.p.s) (IntKind.i64.wrap (i - n)) fun e_1 => iT IntKind.i64 e fun a => iT IntKind.i64 e_1 fun b => bif a != b then Res.ok (Ex.ret, { tmps := slots 132 [(8, PV.t (T.bool false))], heap := [] }) else Res.ok (Ex.norm, sTe c r q n (IntKind.i64.wrap (i + 1))) else Res.ok (Ex.norm, sTe c r q n (IntKind.i64.wrap (i + 1))) else Res.ok (Ex.exit 0, { tmps := slots 132 [(4, PV.ptr 0 0), (7, PV.ptr 1 0), (9, PV.t (T.bool true)), (10, PV.ptr 2 0)], heap := [AObj.box 25 6 (PV.t c.t), AObj.box 34 6 (PV.t r.t), AObj.box 30 4 (PV.t q.t)] }) := by kernel_rfl
theorem t4_11_exit0 (N : Nat) (c : Cf) (r : Rt) (q : Pa) : tailL env N 4 0 11 (outK env 4) (.exit 0) (⟨slots 132 [(4, .ptr 0 0), (7, .ptr 1 0), (9, .t (.bool true)), (10, .ptr 2 0)], [.box 25 6 (.t c.t), .box 34 6 (.t r.t), .box 30 4 (.t q.t)]⟩) = clB N 14 [c.t] fun b => bif b then clB N 18 [q.t] fun b => bif b then clB N 15 [r.t] fun b => bif b then bif q.h == c.d then rB (q.o == r.p.o) else rB false else rB false else rB false else rB false := by kernel_rfl
end Go.Sim

/- EdgeTells: its call comes to 'true'. -/
namespace Go.Sim
open Go.RowKit Go.Proofs
set_option linter.unusedVariables false
set_option linter.unusedSimpArgs false
set_option linter.unusedSectionVars false
set_option maxRecDepth 100000
variable [Lv]
theorem tells_loop {M n : Nat} {c : Cf} {r : Rt} {q : Pa} (hM : big + 1 ≤ M) (hq : q.s.length ≤ big) (e : q.s = List.replicate n c.a ++ r.p.s) : iterR (bodyL env M 4 0 11) M (sTe c r q n 0) =
    .ok (.exit 0, ⟨slots 132 [(4, .ptr 0 0), (7, .ptr 1 0), (9, .t (.bool true)), (10, .ptr 2 0)], [.box 25 6 (.t c.t), .box 34 6 (.t r.t), .box 30 4 (.t q.t)]⟩) := by
  have hlen : q.s.length = n + r.p.s.length := by rw [e]; simp
  refine (iter_fold (B := bodyL env M 4 0 11) (S := fun (_ : Unit) i => sTe c r q n i) (X := fun _ => ⟨slots 132 [(4, .ptr 0 0), (7, .ptr 1 0), (9, .t (.bool true)), (10, .ptr 2 0)], [.box 25 6 (.t c.t), .box 34 6 (.t r.t), .box 30 4 (.t q.t)]⟩) (id := 0)
    (fun _ _ => True) (fun _ (_ : Int) => ()) q.s (n := M) () (by omega) (fun _ j x hx _ => ⟨?_, trivial⟩) (fun _ _ => ?_) trivial).1
  · have hj := (List.getElem?_eq_some_iff.1 hx).1
    show bodyL env M 4 0 11 (sTe c r q n j) = _
    rw [b4_11, decide_eq_true (by rw [ints_map, List.length_map]; omega)]
    simp only [cond_true]
    rcases Nat.lt_or_ge j n with h1 | h1
    · have hxa : x = c.a := by
        rw [e, List.getElem?_append_left (by simpa using h1), List.getElem?_replicate, if_pos h1] at hx
        injection hx with hx; exact hx.symm
      rw [decide_eq_true (show (j : Int) < (n : Int) by omega)]
      simp only [cond_true]
      rw [atT_get (ints_get hx)]
      simp only [iT_int]
      rw [hxa, bne_self_eq_false, decide_eq_false (show ¬ (j : Int) ≥ (n : Int) by omega), wrap_succ (show j ≤ big by omega)]
      rfl
    · have hx2 : r.p.s[j - n]? = some x := by
        rw [e, List.getElem?_append_right (by simpa using h1)] at hx
        simpa using hx
      rw [decide_eq_false (show ¬ (j : Int) < (n : Int) by omega), decide_eq_true (show (j : Int) ≥ (n : Int) by omega)]
      simp only [cond_true, cond_false]
      rw [atT_get (ints_get hx), show (j : Int) - (n : Int) = ((j - n : Nat) : Int) by omega, wrap_nat (by omega), atT_get (ints_get hx2)]
      simp only [iT_int]
      rw [bne_self_eq_false, wrap_succ (show j ≤ big by omega)]
      rfl
  · show bodyL env M 4 0 11 (sTe c r q n q.s.length) = _
    rw [b4_11, decide_eq_false (by rw [ints_map, List.length_map]; omega)]; rfl
theorem f4_ok {M : Nat} {c : Cf} {k : Int} {x : Px} {r : Rt} (hM : big + 24 ≤ M) (h : c.ok) (hk : ok64 k = true) (hx : x.ok) (hr : r.ok) : callP env (M + 1) 4 [c.t, i64 k, x.t, r.t] = .ok (.bool true) := by
  obtain ⟨m, rfl⟩ := exM (show 1 ≤ M by omega)
  have hbg := big_val
  have hw : T.wfs [c.t, i64 k, x.t, r.t] = true := by
    have h1 := h.wf; have h2 := wf_int hk; have h3 := hx.wf; have h4 := hr.wf
    simp only [T.wfs, h1, h2, h3, h4, Bool.and_self]
  rw [q4, W_ok hw, cl_ok (f10_ok (by omega)), clB_ok (f11_ok (by omega) h hr.p)]
  cases hf : few12 c && decide (r.p.s.length ≤ 100) with
  | false => rfl
  | true =>
  simp only [Bool.not_true, cond_false]
  rw [cl_ok (f17_ok (by omega) h hk hx hr), optP_eq]
  simp only [compT, List.getElem?_cons_zero, List.getElem?_cons_succ, pa_chk, chk_true, bT_bool]
  cases hq : outR c k x r with
  | none =>
    simp only [Option.isSome_none, Option.getD_none, Bool.not_false, cond_true]
    refine Eq.trans (show _ = cl (m + 1) 16 [zPa.t, zPa.t] fun x => Res.ok x from rfl) ?_
    rw [cl_ok (f16_ok (by omega) zPa_ok zPa_ok), decide_eq_true rfl]
  | some q =>
  have hqo := outR_ok hq h hr
  obtain ⟨g1, g2, g3, g4, g5, g6, g7, n, n1, n9, g8⟩ := tells_law hq
  have hlen : q.s.length = n + r.p.s.length := by rw [g8]; simp
  simp only [Option.isSome_some, Option.getD_some, Bool.not_true, cond_false]
  have e1 : q.t.partD 1 1 false = .sl 1 (ints q.s) := rfl
  have e2 : ∀ K : Int → Res T, sllT (T.sl 1 (ints q.s)) K = K (q.s.length : Int) := fun K => by show K ((ints q.s).length : Int) = _; rw [ints_map, List.length_map]
  have e3 : (q.s.length : Int) - ((ints r.p.s).length : Int) = (n : Int) := by rw [ints_map, List.length_map]; omega
  rw [e1]
  simp only [e2]
  rw [e3, wrap_nat (by omega), decide_eq_false (show ¬ (n : Int) < 1 by omega), decide_eq_false (show ¬ (n : Int) > 9 by omega), decide_eq_false (show ¬ (q.s.length : Int) > 32 by omega), beq_eq_false_iff_ne.2 g4]
  simp only [cond_false]
  refine Eq.trans (show _ = loopL env (m + 1) 4 11 (sTe c r q n 0) from rfl) ?_
  refine (loopL_end (tells_loop (by omega) hqo.l g8)).trans ?_
  refine (t4_11_exit0 (m + 1) c r q).trans ?_
  rw [clB_ok (f14_ok (by omega) h), g1, cond_true, clB_ok (f18_ok (by omega) hqo), g3, cond_true, clB_ok (f15_ok (by omega) hr), g2, cond_true, g5, g6, beq_self_eq_true, beq_self_eq_true]
  rfl
end Go.Sim
