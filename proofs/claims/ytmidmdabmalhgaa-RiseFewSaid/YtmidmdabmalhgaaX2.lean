/- The texts of a proof, one behind the other: an interpreter and its soundness, what the functions of the program answer, and plain laws on that. -/
import Derived.Test.YtmidmdabmalhgaaX1
set_option linter.unusedVariables false
set_option linter.unusedSimpArgs false
set_option linter.unnecessarySimpa false
set_option linter.unusedSectionVars false
/- Two laws of layer 15: their calls come to 'true'. -/
namespace Go.Sim
open Go.RowKit Go.Proofs
set_option linter.unusedVariables false
set_option linter.unusedSimpArgs false
set_option linter.unusedSectionVars false
set_option maxRecDepth 100000

def nodeC (a b c d e : Int) : Cf := ⟨a, a, 0, 9, [], [⟨b, 1, [⟨0, ⟨0, 0⟩, 0, 2, 300⟩], []⟩, ⟨c, d, [⟨0, ⟨0, 0⟩, 0, 2, e⟩], [⟨4, ⟨0, 0⟩, 0, 1, 0⟩, ⟨4, ⟨0, 0⟩, 1, 1, 0⟩]⟩]⟩
theorem okL_nil {α : Type} {p : α → Prop} : okL p [] := ⟨Nat.zero_le _, fun _ h => by cases h⟩
theorem okL_cons {α : Type} {p : α → Prop} {x : α} {l : List α} (h : p x) (h2 : ∀ y ∈ l, p y) (h3 : l.length + 1 ≤ big) : okL p (x :: l) := ⟨h3, fun y hy => (List.mem_cons.1 hy).elim (fun e => e ▸ h) (h2 y)⟩
theorem okL_one {α : Type} {p : α → Prop} {x : α} (h : p x) : okL p [x] := okL_cons h (fun _ h => by cases h) (show 0 + 1 ≤ big by decide)
theorem okL_two {α : Type} {p : α → Prop} {x y : α} (h : p x) (h2 : p y) : okL p [x, y] := okL_cons h (fun z hz => by rw [List.mem_singleton.1 hz]; exact h2) (show 1 + 1 ≤ big by decide)
theorem nodeC_ok {a b c d e : Int} (ha : ok64 a = true) (hb : ok64 b = true) (hc : ok64 c = true) (hd : ok64 d = true) (he : ok64 e = true) : (nodeC a b c d e).ok :=
  ⟨ha, ha, rfl, rfl, okL_nil, okL_two ⟨hb, rfl, okL_one ⟨rfl, ⟨rfl, rfl⟩, rfl, rfl, rfl⟩, okL_nil⟩ ⟨hc, hd, okL_one ⟨rfl, ⟨rfl, rfl⟩, rfl, rfl, he⟩, okL_two ⟨rfl, ⟨rfl, rfl⟩, rfl, rfl, rfl⟩ ⟨rfl, ⟨rfl, rfl⟩, rfl, rfl, rfl⟩⟩⟩
theorem nodeC_small (a b c d e : Int) : smallC (nodeC a b c d e) := fun s hs => by
  simp only [nodeC, List.mem_cons, List.not_mem_nil, or_false] at hs
  rcases hs with rfl | rfl
  · exact ⟨show 1 * 48 ≤ big by decide, show 0 * 48 ≤ big by decide⟩
  · exact ⟨show 1 * 48 ≤ big by decide, show 2 * 48 ≤ big by decide⟩
variable [Lv]
theorem node_1 {M : Nat} : callP env (M + 1) 34 [i64 1, i64 5, i64 2, i64 3, i64 100] = .ok (nodeC 1 5 2 3 100).t := by rw [q34]; kernel_rfl
theorem node_2 {M : Nat} : callP env (M + 1) 34 [i64 2, i64 6, i64 1, i64 1, i64 300] = .ok (nodeC 2 6 1 1 300).t := by rw [q34]; kernel_rfl
theorem node_3 {M : Nat} : callP env (M + 1) 34 [i64 2, i64 6, i64 1, i64 1, i64 310] = .ok (nodeC 2 6 1 1 310).t := by rw [q34]; kernel_rfl
theorem f11_ok {M : Nat} (hM : big + 17 ≤ M) : callP env (M + 1) 11 [] = .ok (.bool true) := by
  obtain ⟨m, rfl⟩ := exM (show 1 ≤ M by omega)
  have o1 : (nodeC 1 5 2 3 100).ok := nodeC_ok rfl rfl rfl rfl rfl
  have o2 : (nodeC 2 6 1 1 300).ok := nodeC_ok rfl rfl rfl rfl rfl
  have o3 : (nodeC 2 6 1 1 310).ok := nodeC_ok rfl rfl rfl rfl rfl
  have s1 := nodeC_small 1 5 2 3 100
  rw [q11, W_ok rfl, cl_ok node_1]
  have c1 : ((nodeC 1 5 2 3 100).t.cells.length == 6 && !(nodeC 1 5 2 3 100).t.isTup) = true := rfl
  rw [c1, chk_true, cl_ok (f35_ok (by omega) o1 rfl s1)]
  simp only [compT, List.getElem?_cons_zero, List.getElem?_cons_succ]
  rw [cl_ok (f36_ok (by omega) o1 rfl s1)]
  simp only [compT, List.getElem?_cons_zero, List.getElem?_cons_succ]
  rw [cl_ok (f14_ok (by omega) o1 rfl)]
  simp only [compT, List.getElem?_cons_zero, List.getElem?_cons_succ]
  rw [cl_ok node_2, clB_ok (f13_ok (by omega) o1 o2), show risesB (nodeC 1 5 2 3 100) (nodeC 2 6 1 1 300) = true by decide +kernel, cond_true, cl_ok node_3, clB_ok (f13_ok (by omega) o1 o3),
    show risesB (nodeC 1 5 2 3 100) (nodeC 2 6 1 1 310) = false by decide +kernel, Bool.not_false, cond_true, show lowI (nodeC 1 5 2 3 100) 1 = some 300 by decide +kernel, show highI (nodeC 1 5 2 3 100) 1 = some 100 by decide +kernel,
    show idxOf (nodeC 1 5 2 3 100) 2 = some 1 by decide +kernel, show sideI (nodeC 1 5 2 3 100) 2 = 1 by decide +kernel]
  have e1 : ((300 : Int) == 300) = true := rfl
  have e2 : ((100 : Int) == 100) = true := rfl
  have e3 : ((1 : Int) == 1) = true := rfl
  simp only [Option.getD_some, Option.isSome_some, bT, iT_int, e1, e2, e3, cond_true]
  rw [clB_ok (f15_ok (by omega) o1 rfl rfl s1), show tellsB (nodeC 1 5 2 3 100) 1 0 = true by decide +kernel, cond_true, clB_ok (f15_ok (by omega) o1 rfl rfl s1), show tellsB (nodeC 1 5 2 3 100) 0 0 = false by decide +kernel]
  rfl
theorem putS_t {c : Cf} {k : Nat} {s s' : Sd} (hx : c.s[k]? = some s) (v : T) (hv : T.agg v.cells = s'.t) :
    T.agg [i64 c.a, i64 c.d, i64 c.h, i64 c.k, T.sl 2 (List.map Px.t c.w), T.sl 4 ((List.map Sd.t c.s).set k (T.agg v.cells))] = (putS c k s').t := by
  rw [hv, ← List.map_set]; rfl
theorem set_o {c : Cf} {k : Nat} {s : Sd} (hx : c.s[k]? = some s) (o : List Ru) :
    T.agg [i64 c.a, i64 c.d, i64 c.h, i64 c.k, T.sl 2 (List.map Px.t c.w), T.sl 4 ((List.map Sd.t c.s).set k (T.agg (List.take 3 ((List.map Sd.t c.s).getD k T.nilp).cells ++ [T.sl 6 (o.map Ru.t)] ++ List.drop 4 ((List.map Sd.t c.s).getD k T.nilp).cells)))] = (putS c k { s with o := o }).t := by
  have : (List.map Sd.t c.s).getD k T.nilp = s.t := by rw [List.getD_eq_getElem?_getD, map_get hx]; rfl
  rw [this]
  show T.agg [_, _, _, _, _, T.sl 4 ((List.map Sd.t c.s).set k (Sd.t { s with o := o }))] = _
  rw [← List.map_set]; rfl
theorem set_i {c : Cf} {k : Nat} {s : Sd} (hx : c.s[k]? = some s) (o : List Ru) :
    T.agg [i64 c.a, i64 c.d, i64 c.h, i64 c.k, T.sl 2 (List.map Px.t c.w), T.sl 4 ((List.map Sd.t c.s).set k (T.agg (List.take 2 ((List.map Sd.t c.s).getD k T.nilp).cells ++ [T.sl 6 (o.map Ru.t)] ++ List.drop 3 ((List.map Sd.t c.s).getD k T.nilp).cells)))] = (putS c k { s with i := o }).t := by
  have : (List.map Sd.t c.s).getD k T.nilp = s.t := by rw [List.getD_eq_getElem?_getD, map_get hx]; rfl
  rw [this]
  show T.agg [_, _, _, _, _, T.sl 4 ((List.map Sd.t c.s).set k (Sd.t { s with i := o }))] = _
  rw [← List.map_set]; rfl
theorem put_ok {c : Cf} {k : Nat} {s : Sd} (h : c.ok) (hs : s.ok) : (putS c k s).ok := ⟨h.a, h.d, h.h, h.k, h.w, by have := h.s.1; simpa [putS] using this, fun x hx => (List.mem_or_eq_of_mem_set hx).elim (h.s.2 x) (fun e => e ▸ hs)⟩
theorem anyT_int {β : Type} {n : Int} {K : Int → Res β} : anyT (i64 n) K = K n := rfl
theorem f3_ok {M : Nat} {a b : Cf} (hM : big + 18 ≤ M) (h : a.ok) (h' : b.ok) : callP env (M + 1) 3 [a.t, b.t] = .ok (.bool true) := by
  obtain ⟨m, rfl⟩ := exM (show 1 ≤ M by omega)
  have hbg := big_val
  rw [q3, W_ok (wfs2 h.wf h'.wf), cl_ok (f11_ok (by omega)), clB_ok (f12_ok (by omega) h)]
  cases h1 : few12 a with
  | false => rfl
  | true =>
  simp only [Bool.not_true, cond_false]
  rw [clB_ok (f12_ok (by omega) h')]
  cases h2 : few12 b with
  | false => rfl
  | true =>
  simp only [Bool.not_true, cond_false]
  rw [clB_ok (f13_ok (by omega) h h')]
  cases h3 : risesB a b with
  | false => rfl
  | true =>
  obtain ⟨g1, g2, g3, g4, _⟩ := rises_iff.1 h3
  obtain ⟨k, s, hk, hkl, hs⟩ := idx_nat g3
  obtain ⟨j, t, hj, hjl, ht⟩ := idx_nat g4
  have hos := h.s.2 _ (List.mem_of_getElem? hs)
  have hot := h'.s.2 _ (List.mem_of_getElem? ht)
  have l1 : a.s.length ≤ 20 := by unfold few12 at h1; simp only [Bool.and_eq_true, decide_eq_true_eq] at h1; exact h1.2.2
  have l2 : b.s.length ≤ 20 := by unfold few12 at h2; simp only [Bool.and_eq_true, decide_eq_true_eq] at h2; exact h2.2.2
  obtain ⟨r1, r2, r3⟩ := less_law h3 hk hj hs ht
  simp only [Bool.not_true, cond_false]
  rw [cl_ok (f14_ok (by omega) h h'.a)]
  simp only [compT, List.getElem?_cons_zero, List.getElem?_cons_succ]
  rw [cl_ok (f14_ok (by omega) h' h.a), g3, g4, hk, hj]
  simp only [compT, List.getElem?_cons_zero, List.getElem?_cons_succ, bT, Bool.not_true, cond_false, chkAll, anyT_int, List.length_map, Nat.zero_add, Int.toNat_natCast, cond_true]
  rw [decide_eq_true (show a.s.length * 64 ≤ 140737488355328 by omega), decide_eq_true (show b.s.length * 64 ≤ 140737488355328 by omega), decide_eq_true (show (0 : Int) ≤ (k : Int) by omega), decide_eq_true (show (0 : Int) ≤ (j : Int) by omega),
    decide_eq_true (show (k : Int) < (a.s.length : Int) by omega), decide_eq_true (show (j : Int) < (b.s.length : Int) by omega)]
  have e0 : T.okE 6 (T.agg [i64 0, i64 0, i64 0, i64 0, i64 2, i64 1]) = true := rfl
  simp only [Bool.and_self, chk_true, e0]
  have x1 := set_o hs []
  have x2 := set_i ht [leastR]
  simp only [List.map_nil] at x1
  rw [show ([leastR] : List Ru).map Ru.t = [T.agg [i64 0, i64 0, i64 0, i64 0, i64 2, i64 1]] from rfl] at x2
  rw [x1, x2]
  have p1 : (putS a k { s with o := [] }).ok := put_ok h ⟨hos.a, hos.r, hos.i, okL_nil⟩
  have p2 : (putS b j { t with i := [leastR] }).ok := put_ok h' ⟨hot.a, hot.r, okL_one ⟨rfl, ⟨rfl, rfl⟩, rfl, rfl, rfl⟩, hot.o⟩
  rw [cl_ok (f13_ok (by omega) p1 h'), r1]
  have pl : T.plain (T.bool true) = true := rfl
  simp only [pl, chk_true, bT, cond_true]
  rw [cl_ok (f13_ok (by omega) h p2), r2]
  simp only [pl, chk_true, bT, cond_true]
  rw [cl_ok (f13_ok (by omega) p1 p2), r3]
  rfl
theorem slT_map {β : Type} {l : List T} {K : List T → Res β} : slT 6 (.sl 6 l) K = K l := rfl
theorem f4_ok {M : Nat} {a b : Cf} {n : Int} (hM : big + 18 ≤ M) (h : a.ok) (h' : b.ok) (hn : ok64 n = true) : callP env (M + 1) 4 [a.t, b.t, i64 n] = .ok (.bool true) := by
  obtain ⟨m, rfl⟩ := exM (show 1 ≤ M by omega)
  have hbg := big_val
  rw [q4, W_ok (wfs3 h.wf h'.wf (wf_int hn)), cl_ok (f11_ok (by omega)), cl_ok (f12_ok (by omega) h)]
  cases h1 : few12 a with
  | false => rfl
  | true =>
  simp only [bT, Bool.not_true, cond_false]
  rw [cl_ok (f12_ok (by omega) h')]
  cases h2 : few12 b with
  | false => rfl
  | true =>
  simp only [Bool.not_true, cond_false]
  rw [cl_ok (f13_ok (by omega) h h')]
  cases h3 : risesB a b with
  | false => rfl
  | true =>
  simp only [Bool.not_true, cond_false]
  by_cases n0 : n < 0
  · rw [decide_eq_true n0]; rfl
  by_cases n3 : n > 3
  · rw [decide_eq_false n0, decide_eq_true n3]; rfl
  rw [decide_eq_false n0, decide_eq_false n3]
  obtain ⟨g1, g2, g3, g4, _⟩ := rises_iff.1 h3
  obtain ⟨k, s, hk, hkl, hs⟩ := idx_nat g3
  have hos := h.s.2 _ (List.mem_of_getElem? hs)
  have l1 : a.s.length ≤ 20 := by unfold few12 at h1; simp only [Bool.and_eq_true, decide_eq_true_eq] at h1; exact h1.2.2
  have l2 := (csane_small g1 _ (List.mem_of_getElem? hs)).2
  have l3 : s.o.length ≤ 20 := by unfold few12 at h1; simp only [Bool.and_eq_true, decide_eq_true_eq, List.all_eq_true] at h1; exact (h1.1 _ (List.mem_of_getElem? hs)).2
  obtain ⟨r1, r2⟩ := few_law h3 (show 0 ≤ n by omega) (show n ≤ 3 by omega) hk hs
  simp only [cond_false]
  rw [cl_ok (f14_ok (by omega) h h'.a), g3, hk]
  simp only [compT, List.getElem?_cons_zero, List.getElem?_cons_succ, bT, Bool.not_true, cond_false, chkAll, anyT_int, iT_int, List.length_map, Nat.zero_add, Int.toNat_natCast, cond_true, atT_get (map_get hs), sd_o, slT_map]
  have e0 : T.okE 6 (T.agg [i64 4, i64 0, i64 0, i64 n, i64 0, i64 0]) = true := rfl
  rw [decide_eq_false (show ¬ (k : Int) ≥ (a.s.length : Int) by omega), decide_eq_true (show a.s.length * 64 ≤ 140737488355328 by omega), decide_eq_true (show (0 : Int) ≤ (k : Int) by omega),
    decide_eq_true (show (k : Int) < (a.s.length : Int) by omega), decide_eq_true (show (1 + s.o.length) * 48 ≤ 140737488355328 by omega)]
  simp only [Bool.and_self, chk_true, e0, cond_false]
  have x1 := set_o hs ((shutR n :: s.o).take 8)
  have pr : okL Ru.ok ((shutR n :: s.o).take 8) := okL_take ⟨by simp only [List.length_cons]; omega, fun y hy => (List.mem_cons.1 hy).elim (fun e => e ▸ ⟨rfl, ⟨rfl, rfl⟩, hn, rfl, rfl⟩) (hos.o.2 y)⟩ 8
  have p1 : (putS a k { s with o := (shutR n :: s.o).take 8 }).ok := put_ok h ⟨hos.a, hos.r, hos.i, pr⟩
  have p2 : smallC (putS a k { s with o := (shutR n :: s.o).take 8 }) := csane_small (rises_iff.1 r1).1
  have pl : T.plain (T.bool true) = true := rfl
  have pl2 : T.plain (T.bool false) = true := rfl
  have hk64 : ok64 (k : Int) = true := ok64_iff.2 (by omega)
  have c1 := f13_ok (M := m) (by omega) p1 h'
  have c2 := f15_ok (M := m) (n := n) (by omega) p1 hk64 hn p2
  rw [← x1] at c1 c2
  rw [r1] at c1
  rw [r2] at c2
  by_cases h8 : ([T.agg [i64 4, i64 0, i64 0, i64 n, i64 0, i64 0]] ++ List.map Ru.t s.o).length > 8
  · have ex : List.drop 0 (List.take 8 ([T.agg [i64 4, i64 0, i64 0, i64 n, i64 0, i64 0]] ++ List.map Ru.t s.o)) = ((shutR n :: s.o).take 8).map Ru.t := by rw [List.drop_zero, List.map_take]; rfl
    rw [decide_eq_true (show ((([T.agg [i64 4, i64 0, i64 0, i64 n, i64 0, i64 0]] ++ List.map Ru.t s.o).length : Nat) : Int) > 8 by omega), decide_eq_true (show (8 : Int) ≤ ((([T.agg [i64 4, i64 0, i64 0, i64 n, i64 0, i64 0]] ++ List.map Ru.t s.o).length : Nat) : Int) by omega),
      decide_eq_true (show 8 ≤ ([T.agg [i64 4, i64 0, i64 0, i64 n, i64 0, i64 0]] ++ List.map Ru.t s.o).length by omega), ex]
    simp only [cond_true, chk_true, someK]
    refine (cl_ok c1).trans ?_
    simp only [pl, chk_true, cond_true]
    refine (cl_ok c2).trans ?_
    rfl
  · have ex : [T.agg [i64 4, i64 0, i64 0, i64 n, i64 0, i64 0]] ++ List.map Ru.t s.o = ((shutR n :: s.o).take 8).map Ru.t := by rw [List.take_of_length_le (by simp at h8 ⊢; omega)]; rfl
    rw [decide_eq_false (show ¬ ((([T.agg [i64 4, i64 0, i64 0, i64 n, i64 0, i64 0]] ++ List.map Ru.t s.o).length : Nat) : Int) > 8 by omega), ex]
    simp only [cond_false]
    rw [cl_ok c1]
    simp only [pl, chk_true, cond_true]
    rw [cl_ok c2]
    rfl
end Go.Sim
