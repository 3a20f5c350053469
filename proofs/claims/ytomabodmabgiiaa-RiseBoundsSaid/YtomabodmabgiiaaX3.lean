/- The texts of a proof, one behind the other: an interpreter and its soundness, what the functions of the program answer, and plain laws on that. -/
import Derived.Test.YtomabodmabgiiaaX2
set_option linter.unusedVariables false
set_option linter.unusedSimpArgs false
set_option linter.unnecessarySimpa false
set_option linter.unusedSectionVars false
/- RiseBounds and RiseWorse: their calls come to 'true'. -/
namespace Go.Sim
open Go.RowKit Go.Proofs
set_option linter.unusedVariables false
set_option linter.unusedSimpArgs false
set_option linter.unusedSectionVars false
set_option maxRecDepth 100000
variable [Lv]
theorem inR_ok {c : Cf} {k : Int} {x : Px} {p : Pa} {r : Rt} (h : inR c k x p = some r) (hc : c.ok) (hk : ok64 k = true) (hp : p.ok) : r.ok := by
  obtain ⟨h1, h2, h3, i, s, m, u, rfl, hi, hs, h4, h5, h6, h7, h8, h9, rfl⟩ := inR_spec h
  have ho := hc.s.2 _ (List.mem_of_getElem? hs)
  obtain ⟨s1, s2, s3, s4, s5, s6⟩ := side_parts h1 hs
  obtain ⟨p1, p2, p3, p4, p5, p6, p7, p8⟩ := asane_parts h3
  have hm : ok64 m = true := by
    have := orI_pos p7 s1
    have := orI_le p8 s2
    refine ok64_iff.2 ?_
    unfold roleIn at h7
    repeat' split at h7
    all_goals first | (injection h7 with h7; omega) | cases h7
  exact ⟨(ho.i.2 u (pick_mem h8).1).n, ⟨hp.o, hp.l, hp.s, hp.h, hm⟩, hk⟩
theorem outR_ok {c : Cf} {k : Int} {x : Px} {r : Rt} {q : Pa} (h : outR c k x r = some q) (hc : c.ok) (hr : r.ok) : q.ok := by
  have hq := (tells_law h).2.2.1
  have hl := (tells_law h).2.2.2.2.2.2.1
  obtain ⟨p1, p2, p3, p4, p5, p6, p7, p8⟩ := asane_parts hq
  have hb := big_val
  refine ⟨ok64_iff.2 (by omega), by omega, fun n hn => ok64_iff.2 (by have := p1 n hn; omega), ok64_iff.2 (by omega), ok64_iff.2 (by omega)⟩
def zRt : Rt := ⟨0, ⟨0, [], 0, 0⟩, 0⟩
def zPa : Pa := ⟨0, [], 0, 0⟩
theorem zRt_ok : zRt.ok := ⟨rfl, ⟨rfl, Nat.zero_le _, fun _ h => (by cases h), rfl, rfl⟩, rfl⟩
theorem zPa_ok : zPa.ok := ⟨rfl, Nat.zero_le _, fun _ h => (by cases h), rfl, rfl⟩
theorem optR_eq (o : Option Rt) : optR o = .tup [(o.getD zRt).t, .bool o.isSome] := by cases o <;> rfl
theorem optP_eq (o : Option Pa) : optP o = .tup [(o.getD zPa).t, .bool o.isSome] := by cases o <;> rfl
theorem inD_ok {c : Cf} {k : Int} {x : Px} {p : Pa} (hc : c.ok) (hk : ok64 k = true) (hp : p.ok) : ((inR c k x p).getD zRt).ok := by
  cases h : inR c k x p with
  | none => exact zRt_ok
  | some r => exact inR_ok h hc hk hp
theorem outD_ok {c : Cf} {k : Int} {x : Px} {r : Rt} (hc : c.ok) (hr : r.ok) : ((outR c k x r).getD zPa).ok := by
  cases h : outR c k x r with
  | none => exact zPa_ok
  | some q => exact outR_ok h hc hr
theorem few_small {c : Cf} (h : few12 c = true) : smallC c := by
  have hb := big_val
  intro s hs
  unfold few12 at h
  simp only [Bool.and_eq_true, List.all_eq_true, decide_eq_true_eq] at h
  have := h.1 s hs
  omega
theorem class_ok {c : Cf} {k : Int} (h : c.ok) : ok64 (classI c k) = true := by
  unfold classI
  split
  · split
    · rename_i t ht; exact (h.s.2 _ (List.mem_of_getElem? ht)).r
    · rfl
  · rfl
theorem rt_chk {r : Rt} : (r.t.cells.length == 6 && !r.t.isTup) = true := rfl
theorem pa_chk {p : Pa} : (p.t.cells.length == 4 && !p.t.isTup) = true := rfl
theorem f8_ok {M : Nat} {c : Cf} {k j : Int} {x : Px} {p : Pa} (hM : big + 22 ≤ M) (h : c.ok) (hk : ok64 k = true) (hj : ok64 j = true) (hx : x.ok) (hp : p.ok) :
    callP env (M + 1) 8 [c.t, i64 k, i64 j, x.t, p.t] = .ok (.bool true) := by
  obtain ⟨m, rfl⟩ := exM (show 1 ≤ M by omega)
  have hw : T.wfs [c.t, i64 k, i64 j, x.t, p.t] = true := by
    have h1 := h.wf; have h2 := wf_int hk; have h3 := hx.wf; have h4 := hp.wf; have h5 := wf_int hj
    simp only [T.wfs, h1, h2, h3, h4, h5, Bool.and_self]
  rw [q8, W_ok hw, cl_ok (f22_ok (by omega)), clB_ok (f23_ok (by omega) h)]
  cases hf : few12 c with
  | false => rfl
  | true =>
  have hsm := few_small hf
  simp only [Bool.not_true, cond_false]
  cases hl : decide (((ints p.s).length : Int) > 100) with
  | true => rfl
  | false =>
  simp only [cond_false]
  rw [cl_ok (f12_ok (by omega) h hk hx hp), optR_eq]
  simp only [compT, List.getElem?_cons_zero, List.getElem?_cons_succ, rt_chk, chk_true, bT_bool]
  cases hr : inR c k x p with
  | none => rfl
  | some r =>
  have hro := inR_ok hr h hk hp
  obtain ⟨l, u, e1, e2, e3, e4⟩ := bounds_law hr
  have hrf : r.f = k := (takes_law hr).2.2.1
  simp only [Option.getD_some, Option.isSome_some, Bool.not_true, cond_false]
  rw [cl_ok (f19_ok (by omega) h hk), cl_ok (f24_ok (by omega) h (class_ok h) hsm), e1]
  simp only [compT, List.getElem?_cons_zero, List.getElem?_cons_succ]
  rw [cl_ok (f25_ok (by omega) h hk hsm), e2]
  simp only [compT, List.getElem?_cons_zero, List.getElem?_cons_succ]
  rw [cl_ok (f17_ok (by omega) h hj hx hro), optP_eq]
  simp only [compT, List.getElem?_cons_zero, List.getElem?_cons_succ, pa_chk, chk_true, bT_bool, cond_true, Option.getD_some, Option.isSome_some]
  have e5 : r.t.partD 0 1 false = i64 r.n := rfl
  rw [e5]
  simp only [iT_int]
  rw [decide_eq_true e3, decide_eq_true e4]
  simp only [cond_true]
  cases hq : outR c j x r with
  | none => rfl
  | some q =>
  have := goes_law hq
  rw [hrf] at this
  simp only [Option.isSome_some, Bool.not_true, cond_false]
  rw [cl_ok (f26_ok (by omega) h hj (class_ok h) hsm), this]
theorem f9_ok {M : Nat} {a b : Cf} {k : Int} {x : Px} {p : Pa} {o : Bool} (hM : big + 22 ≤ M) (h : a.ok) (h' : b.ok) (hk : ok64 k = true) (hx : x.ok) (hp : p.ok) :
    callP env (M + 1) 9 [a.t, b.t, i64 k, x.t, p.t, .bool o] = .ok (.bool true) := by
  obtain ⟨m, rfl⟩ := exM (show 1 ≤ M by omega)
  have hw : T.wfs [a.t, b.t, i64 k, x.t, p.t, .bool o] = true := by
    have h1 := h.wf; have h2 := wf_int hk; have h3 := hx.wf; have h4 := hp.wf; have h5 := h'.wf; have h6 := wf_bool o
    simp only [T.wfs, h1, h2, h3, h4, h5, h6, Bool.and_self]
  rw [q9, W_ok hw, cl_ok (f22_ok (by omega)), clB_ok (f23_ok (by omega) h)]
  cases h1 : few12 a with
  | false => rfl
  | true =>
  simp only [Bool.not_true, cond_false]
  rw [clB_ok (f23_ok (by omega) h')]
  cases h2 : few12 b with
  | false => rfl
  | true =>
  simp only [Bool.not_true, cond_false]
  cases hl : decide (((ints p.s).length : Int) > 100) with
  | true => rfl
  | false =>
  simp only [cond_false]
  rw [clB_ok (f27_ok (by omega) h h')]
  cases h3 : risesB a b with
  | false => rfl
  | true =>
  obtain ⟨g1, g2, g3, g4, _⟩ := rises_iff.1 h3
  obtain ⟨i, s, hi, hil, hs⟩ := idx_nat g3
  obtain ⟨j, t, hj, hjl, ht⟩ := idx_nat g4
  have hbg := big_val
  have hib : ok64 (sideI a b.a) = true := by rw [hi]; have := h.s.1; exact ok64_iff.2 (by omega)
  have hjb : ok64 (sideI b a.a) = true := by rw [hj]; have := h'.s.1; exact ok64_iff.2 (by omega)
  simp only [Bool.not_true, cond_false]
  rw [cl_ok (f28_ok (by omega) h h'.a)]
  simp only [compT, List.getElem?_cons_zero, List.getElem?_cons_succ]
  rw [cl_ok (f28_ok (by omega) h' h.a), g3, g4]
  simp only [compT, List.getElem?_cons_zero, List.getElem?_cons_succ]
  rw [cl_ok (f12_ok (by omega) h hk hx hp), optR_eq]
  simp only [compT, List.getElem?_cons_zero, List.getElem?_cons_succ, rt_chk, chk_true]
  cases o with
  | true =>
    simp only [cond_true]
    rw [cl_ok (f29_ok h.d)]
    simp only [rt_chk, chk_true]
    rw [cl_ok (f17_ok (by omega) h hib hx (ownR_ok h.d)), optP_eq]
    simp only [compT, List.getElem?_cons_zero, List.getElem?_cons_succ, pa_chk, chk_true]
    rw [cl_ok (f12_ok (by omega) h' hjb hx (outD_ok h (ownR_ok h.d))), optR_eq]
    simp only [compT, List.getElem?_cons_zero, List.getElem?_cons_succ, rt_chk, chk_true, bT_bool, Bool.not_true, cond_false, cond_true]
    cases hq : outR a (sideI a b.a) x (ownR a.d) with
    | none => rfl
    | some q =>
    simp only [Option.isSome_some, Bool.not_true, cond_false, Option.getD_some]
    cases hv : inR b (sideI b a.a) x q with
    | none => rfl
    | some v =>
    simp only [Option.isSome_some, Bool.not_true, cond_false, Option.getD_some]
    rw [clI_ok (f30_ok (by omega) (ownR_ok h.d) (inR_ok hv h' hjb (outR_ok hq h (ownR_ok h.d)))), decide_eq_true (worse_law h3 (.inr rfl) hq hv)]
  | false =>
    simp only [cond_false]
    rw [cl_ok (f17_ok (by omega) h hib hx (inD_ok h hk hp)), optP_eq]
    simp only [compT, List.getElem?_cons_zero, List.getElem?_cons_succ, pa_chk, chk_true]
    rw [cl_ok (f12_ok (by omega) h' hjb hx (outD_ok h (inD_ok h hk hp))), optR_eq]
    simp only [compT, List.getElem?_cons_zero, List.getElem?_cons_succ, rt_chk, chk_true, bT_bool, Bool.not_true, cond_false, cond_true]
    cases hr : inR a k x p with
    | none => rfl
    | some r =>
    have hro := inR_ok hr h hk hp
    simp only [Option.isSome_some, Bool.not_true, cond_false, Option.getD_some]
    cases hq : outR a (sideI a b.a) x r with
    | none => rfl
    | some q =>
    simp only [Option.isSome_some, Bool.not_true, cond_false, Option.getD_some]
    cases hv : inR b (sideI b a.a) x q with
    | none => rfl
    | some v =>
    simp only [Option.isSome_some, Bool.not_true, cond_false, Option.getD_some]
    rw [clI_ok (f30_ok (by omega) hro (inR_ok hv h' hjb (outR_ok hq h hro))), decide_eq_true (worse_law h3 (.inl ⟨k, p, hr⟩) hq hv)]
end Go.Sim
