/- The texts of a proof, one behind the other: an interpreter and its soundness, what the functions of the program answer, and plain laws on that. -/
import Derived.Test.YtckfafoabnfbpaaX6
import Derived.Test.YtckfafoabnfbpaaX2
import Derived.Test.YtckfafoabnfbpaaX5
set_option linter.unusedVariables false
set_option linter.unusedSimpArgs false
set_option linter.unnecessarySimpa false
set_option linter.unusedSectionVars false
set_option maxRecDepth 100000
namespace Go.aO
section
open Go.RowKit Go.Proofs
variable [Lv]
def uY (l:List Lk) (t:List Cf) (j:Int) (b:Bool):St:=⟨slots 153 ((58,.t (.bool b))::rC l j),aP t.length t []⟩
theorem bW {e:Ex} {st:St} {mk:(Nat→PV)→St} (h:st=mk (TW st)):∃ d,(aj.ok (e,st):aj (Ex×St))= .ok (e,mk d):=⟨TW st,congrArg (fun s=>aj.ok (e,s)) h⟩
def jW (N:Nat) (l:List Lk) (t:List Cf) (j:Nat) (x:Lk) (b:Bool):Prop:=(pK t.length x=false→∃ d,bF env (N+1) 21 [6,2] 0 3 (uY l t j b)= .ok (.exit 3,jf l t j x d))∧(pK t.length x=true→∃ d,bF env (N+1) 21 [6,2] 0 3 (uY l t j b)= .ok (.norm,jf l t j x d))
theorem aeW {N:Nat} {c0:Cf} {l:List Lk} {j:Nat} {x:Lk} {b:Bool} (hx:l[j]? =some x):jW N l [c0] j x b:=by
 have e0:bF env (N+1) 21 [6,2] 0 3 (uY l [c0] j b)=_:=ahW N c0 l j b
 rw[aF (aI hx),show(x.t.cells.length==3&& !x.t.dS)=true from rfl,bD,show x.t.ah 0 1 false=i64 x.a from rfl,show x.t.ah 1 1 false=i64 x.b from rfl,show x.t.ah 2 1 false=i64 x.r from rfl] at e0
 simp only[bM] at e0
 unfold jW pK
 simp only[List.length_cons,List.length_nil,Nat.zero_add,Nat.reduceAdd]
 rw[e0]
 by_cases h1:x.a≥0
 case neg=>
  rw[decide_eq_false h1]
  refine⟨fun _=>bW (mk:=fun d=>jf l [c0] j x d) (by kernel_rfl),fun h=>by cases h⟩
 rw[decide_eq_true h1]
 simp only[cond_true,Bool.true_and]
 by_cases h2:x.a < 1
 case neg=>
  rw[decide_eq_false h2,decide_eq_false (show ¬ x.a < ((1:Nat):Int) by omega)]
  refine⟨fun _=>bW (mk:=fun d=>jf l [c0] j x d) (by kernel_rfl),fun h=>by cases h⟩
 rw[decide_eq_true h2,decide_eq_true (show x.a < ((1:Nat):Int) by omega)]
 simp only[Bool.not_true,cond_false,Bool.true_and]
 by_cases h3:x.b≥0
 case neg=>
  rw[decide_eq_false h3]
  refine⟨fun _=>bW (mk:=fun d=>jf l [c0] j x d) (by kernel_rfl),fun h=>by cases h⟩
 rw[decide_eq_true h3]
 simp only[cond_true,Bool.true_and]
 by_cases h4:x.b < 1
 case neg=>
  rw[decide_eq_false h4,decide_eq_false (show ¬ x.b < ((1:Nat):Int) by omega)]
  refine⟨fun _=>bW (mk:=fun d=>jf l [c0] j x d) (by kernel_rfl),fun h=>by cases h⟩
 rw[decide_eq_true h4,decide_eq_true (show x.b < ((1:Nat):Int) by omega)]
 simp only[Bool.not_true,cond_false,Bool.true_and]
 cases h5:x.a==x.b with
 |true=>exact⟨fun _=>bW (mk:=fun d=>jf l [c0] j x d) (by kernel_rfl),fun h=>(by cases h)⟩
 |false=>
 simp only[cond_false,Bool.not_false,Bool.true_and]
 by_cases h6:x.r < 1
 case pos=>
  rw[decide_eq_true h6,decide_eq_false (show ¬ 1≤x.r by omega)]
  refine⟨fun _=>bW (mk:=fun d=>jf l [c0] j x d) (by kernel_rfl),fun h=>by cases h⟩
 rw[decide_eq_false h6,decide_eq_true (show 1≤x.r by omega)]
 simp only[cond_false,Bool.true_and]
 by_cases h7:x.r > 3
 case pos=>
  rw[decide_eq_true h7,decide_eq_false (show ¬ x.r≤3 by omega)]
  refine⟨fun _=>bW (mk:=fun d=>jf l [c0] j x d) (by kernel_rfl),fun h=>by cases h⟩
 rw[decide_eq_false h7,decide_eq_true (show x.r≤3 by omega)]
 exact⟨fun h=>(by cases h),fun _=>bW (mk:=fun d=>jf l [c0] j x d) (by kernel_rfl)⟩
theorem aeX {N:Nat} {c0 c1:Cf} {l:List Lk} {j:Nat} {x:Lk} {b:Bool} (hx:l[j]? =some x):jW N l [c0,c1] j x b:=by
 have e0:bF env (N+1) 21 [6,2] 0 3 (uY l [c0,c1] j b)=_:=ahX N c0 c1 l j b
 rw[aF (aI hx),show(x.t.cells.length==3&& !x.t.dS)=true from rfl,bD,show x.t.ah 0 1 false=i64 x.a from rfl,show x.t.ah 1 1 false=i64 x.b from rfl,show x.t.ah 2 1 false=i64 x.r from rfl] at e0
 simp only[bM] at e0
 unfold jW pK
 simp only[List.length_cons,List.length_nil,Nat.zero_add,Nat.reduceAdd]
 rw[e0]
 by_cases h1:x.a≥0
 case neg=>
  rw[decide_eq_false h1]
  refine⟨fun _=>bW (mk:=fun d=>jf l [c0,c1] j x d) (by kernel_rfl),fun h=>by cases h⟩
 rw[decide_eq_true h1]
 simp only[cond_true,Bool.true_and]
 by_cases h2:x.a < 2
 case neg=>
  rw[decide_eq_false h2,decide_eq_false (show ¬ x.a < ((2:Nat):Int) by omega)]
  refine⟨fun _=>bW (mk:=fun d=>jf l [c0,c1] j x d) (by kernel_rfl),fun h=>by cases h⟩
 rw[decide_eq_true h2,decide_eq_true (show x.a < ((2:Nat):Int) by omega)]
 simp only[Bool.not_true,cond_false,Bool.true_and]
 by_cases h3:x.b≥0
 case neg=>
  rw[decide_eq_false h3]
  refine⟨fun _=>bW (mk:=fun d=>jf l [c0,c1] j x d) (by kernel_rfl),fun h=>by cases h⟩
 rw[decide_eq_true h3]
 simp only[cond_true,Bool.true_and]
 by_cases h4:x.b < 2
 case neg=>
  rw[decide_eq_false h4,decide_eq_false (show ¬ x.b < ((2:Nat):Int) by omega)]
  refine⟨fun _=>bW (mk:=fun d=>jf l [c0,c1] j x d) (by kernel_rfl),fun h=>by cases h⟩
 rw[decide_eq_true h4,decide_eq_true (show x.b < ((2:Nat):Int) by omega)]
 simp only[Bool.not_true,cond_false,Bool.true_and]
 cases h5:x.a==x.b with
 |true=>exact⟨fun _=>bW (mk:=fun d=>jf l [c0,c1] j x d) (by kernel_rfl),fun h=>(by cases h)⟩
 |false=>
 simp only[cond_false,Bool.not_false,Bool.true_and]
 by_cases h6:x.r < 1
 case pos=>
  rw[decide_eq_true h6,decide_eq_false (show ¬ 1≤x.r by omega)]
  refine⟨fun _=>bW (mk:=fun d=>jf l [c0,c1] j x d) (by kernel_rfl),fun h=>by cases h⟩
 rw[decide_eq_false h6,decide_eq_true (show 1≤x.r by omega)]
 simp only[cond_false,Bool.true_and]
 by_cases h7:x.r > 3
 case pos=>
  rw[decide_eq_true h7,decide_eq_false (show ¬ x.r≤3 by omega)]
  refine⟨fun _=>bW (mk:=fun d=>jf l [c0,c1] j x d) (by kernel_rfl),fun h=>by cases h⟩
 rw[decide_eq_false h7,decide_eq_true (show x.r≤3 by omega)]
 exact⟨fun h=>(by cases h),fun _=>bW (mk:=fun d=>jf l [c0,c1] j x d) (by kernel_rfl)⟩
theorem aeY {N:Nat} {c0 c1 c2:Cf} {l:List Lk} {j:Nat} {x:Lk} {b:Bool} (hx:l[j]? =some x):jW N l [c0,c1,c2] j x b:=by
 have e0:bF env (N+1) 21 [6,2] 0 3 (uY l [c0,c1,c2] j b)=_:=ahY N c0 c1 c2 l j b
 rw[aF (aI hx),show(x.t.cells.length==3&& !x.t.dS)=true from rfl,bD,show x.t.ah 0 1 false=i64 x.a from rfl,show x.t.ah 1 1 false=i64 x.b from rfl,show x.t.ah 2 1 false=i64 x.r from rfl] at e0
 simp only[bM] at e0
 unfold jW pK
 simp only[List.length_cons,List.length_nil,Nat.zero_add,Nat.reduceAdd]
 rw[e0]
 by_cases h1:x.a≥0
 case neg=>
  rw[decide_eq_false h1]
  refine⟨fun _=>bW (mk:=fun d=>jf l [c0,c1,c2] j x d) (by kernel_rfl),fun h=>by cases h⟩
 rw[decide_eq_true h1]
 simp only[cond_true,Bool.true_and]
 by_cases h2:x.a < 3
 case neg=>
  rw[decide_eq_false h2,decide_eq_false (show ¬ x.a < ((3:Nat):Int) by omega)]
  refine⟨fun _=>bW (mk:=fun d=>jf l [c0,c1,c2] j x d) (by kernel_rfl),fun h=>by cases h⟩
 rw[decide_eq_true h2,decide_eq_true (show x.a < ((3:Nat):Int) by omega)]
 simp only[Bool.not_true,cond_false,Bool.true_and]
 by_cases h3:x.b≥0
 case neg=>
  rw[decide_eq_false h3]
  refine⟨fun _=>bW (mk:=fun d=>jf l [c0,c1,c2] j x d) (by kernel_rfl),fun h=>by cases h⟩
 rw[decide_eq_true h3]
 simp only[cond_true,Bool.true_and]
 by_cases h4:x.b < 3
 case neg=>
  rw[decide_eq_false h4,decide_eq_false (show ¬ x.b < ((3:Nat):Int) by omega)]
  refine⟨fun _=>bW (mk:=fun d=>jf l [c0,c1,c2] j x d) (by kernel_rfl),fun h=>by cases h⟩
 rw[decide_eq_true h4,decide_eq_true (show x.b < ((3:Nat):Int) by omega)]
 simp only[Bool.not_true,cond_false,Bool.true_and]
 cases h5:x.a==x.b with
 |true=>exact⟨fun _=>bW (mk:=fun d=>jf l [c0,c1,c2] j x d) (by kernel_rfl),fun h=>(by cases h)⟩
 |false=>
 simp only[cond_false,Bool.not_false,Bool.true_and]
 by_cases h6:x.r < 1
 case pos=>
  rw[decide_eq_true h6,decide_eq_false (show ¬ 1≤x.r by omega)]
  refine⟨fun _=>bW (mk:=fun d=>jf l [c0,c1,c2] j x d) (by kernel_rfl),fun h=>by cases h⟩
 rw[decide_eq_false h6,decide_eq_true (show 1≤x.r by omega)]
 simp only[cond_false,Bool.true_and]
 by_cases h7:x.r > 3
 case pos=>
  rw[decide_eq_true h7,decide_eq_false (show ¬ x.r≤3 by omega)]
  refine⟨fun _=>bW (mk:=fun d=>jf l [c0,c1,c2] j x d) (by kernel_rfl),fun h=>by cases h⟩
 rw[decide_eq_false h7,decide_eq_true (show x.r≤3 by omega)]
 exact⟨fun h=>(by cases h),fun _=>bW (mk:=fun d=>jf l [c0,c1,c2] j x d) (by kernel_rfl)⟩
theorem aeZ {N:Nat} {c0 c1 c2 c3:Cf} {l:List Lk} {j:Nat} {x:Lk} {b:Bool} (hx:l[j]? =some x):jW N l [c0,c1,c2,c3] j x b:=by
 have e0:bF env (N+1) 21 [6,2] 0 3 (uY l [c0,c1,c2,c3] j b)=_:=ahZ N c0 c1 c2 c3 l j b
 rw[aF (aI hx),show(x.t.cells.length==3&& !x.t.dS)=true from rfl,bD,show x.t.ah 0 1 false=i64 x.a from rfl,show x.t.ah 1 1 false=i64 x.b from rfl,show x.t.ah 2 1 false=i64 x.r from rfl] at e0
 simp only[bM] at e0
 unfold jW pK
 simp only[List.length_cons,List.length_nil,Nat.zero_add,Nat.reduceAdd]
 rw[e0]
 by_cases h1:x.a≥0
 case neg=>
  rw[decide_eq_false h1]
  refine⟨fun _=>bW (mk:=fun d=>jf l [c0,c1,c2,c3] j x d) (by kernel_rfl),fun h=>by cases h⟩
 rw[decide_eq_true h1]
 simp only[cond_true,Bool.true_and]
 by_cases h2:x.a < 4
 case neg=>
  rw[decide_eq_false h2,decide_eq_false (show ¬ x.a < ((4:Nat):Int) by omega)]
  refine⟨fun _=>bW (mk:=fun d=>jf l [c0,c1,c2,c3] j x d) (by kernel_rfl),fun h=>by cases h⟩
 rw[decide_eq_true h2,decide_eq_true (show x.a < ((4:Nat):Int) by omega)]
 simp only[Bool.not_true,cond_false,Bool.true_and]
 by_cases h3:x.b≥0
 case neg=>
  rw[decide_eq_false h3]
  refine⟨fun _=>bW (mk:=fun d=>jf l [c0,c1,c2,c3] j x d) (by kernel_rfl),fun h=>by cases h⟩
 rw[decide_eq_true h3]
 simp only[cond_true,Bool.true_and]
 by_cases h4:x.b < 4
 case neg=>
  rw[decide_eq_false h4,decide_eq_false (show ¬ x.b < ((4:Nat):Int) by omega)]
  refine⟨fun _=>bW (mk:=fun d=>jf l [c0,c1,c2,c3] j x d) (by kernel_rfl),fun h=>by cases h⟩
 rw[decide_eq_true h4,decide_eq_true (show x.b < ((4:Nat):Int) by omega)]
 simp only[Bool.not_true,cond_false,Bool.true_and]
 cases h5:x.a==x.b with
 |true=>exact⟨fun _=>bW (mk:=fun d=>jf l [c0,c1,c2,c3] j x d) (by kernel_rfl),fun h=>(by cases h)⟩
 |false=>
 simp only[cond_false,Bool.not_false,Bool.true_and]
 by_cases h6:x.r < 1
 case pos=>
  rw[decide_eq_true h6,decide_eq_false (show ¬ 1≤x.r by omega)]
  refine⟨fun _=>bW (mk:=fun d=>jf l [c0,c1,c2,c3] j x d) (by kernel_rfl),fun h=>by cases h⟩
 rw[decide_eq_false h6,decide_eq_true (show 1≤x.r by omega)]
 simp only[cond_false,Bool.true_and]
 by_cases h7:x.r > 3
 case pos=>
  rw[decide_eq_true h7,decide_eq_false (show ¬ x.r≤3 by omega)]
  refine⟨fun _=>bW (mk:=fun d=>jf l [c0,c1,c2,c3] j x d) (by kernel_rfl),fun h=>by cases h⟩
 rw[decide_eq_false h7,decide_eq_true (show x.r≤3 by omega)]
 exact⟨fun h=>(by cases h),fun _=>bW (mk:=fun d=>jf l [c0,c1,c2,c3] j x d) (by kernel_rfl)⟩
theorem ae0 {N:Nat} {c0 c1 c2 c3 c4:Cf} {l:List Lk} {j:Nat} {x:Lk} {b:Bool} (hx:l[j]? =some x):jW N l [c0,c1,c2,c3,c4] j x b:=by
 have e0:bF env (N+1) 21 [6,2] 0 3 (uY l [c0,c1,c2,c3,c4] j b)=_:=ah0 N c0 c1 c2 c3 c4 l j b
 rw[aF (aI hx),show(x.t.cells.length==3&& !x.t.dS)=true from rfl,bD,show x.t.ah 0 1 false=i64 x.a from rfl,show x.t.ah 1 1 false=i64 x.b from rfl,show x.t.ah 2 1 false=i64 x.r from rfl] at e0
 simp only[bM] at e0
 unfold jW pK
 simp only[List.length_cons,List.length_nil,Nat.zero_add,Nat.reduceAdd]
 rw[e0]
 by_cases h1:x.a≥0
 case neg=>
  rw[decide_eq_false h1]
  refine⟨fun _=>bW (mk:=fun d=>jf l [c0,c1,c2,c3,c4] j x d) (by kernel_rfl),fun h=>by cases h⟩
 rw[decide_eq_true h1]
 simp only[cond_true,Bool.true_and]
 by_cases h2:x.a < 5
 case neg=>
  rw[decide_eq_false h2,decide_eq_false (show ¬ x.a < ((5:Nat):Int) by omega)]
  refine⟨fun _=>bW (mk:=fun d=>jf l [c0,c1,c2,c3,c4] j x d) (by kernel_rfl),fun h=>by cases h⟩
 rw[decide_eq_true h2,decide_eq_true (show x.a < ((5:Nat):Int) by omega)]
 simp only[Bool.not_true,cond_false,Bool.true_and]
 by_cases h3:x.b≥0
 case neg=>
  rw[decide_eq_false h3]
  refine⟨fun _=>bW (mk:=fun d=>jf l [c0,c1,c2,c3,c4] j x d) (by kernel_rfl),fun h=>by cases h⟩
 rw[decide_eq_true h3]
 simp only[cond_true,Bool.true_and]
 by_cases h4:x.b < 5
 case neg=>
  rw[decide_eq_false h4,decide_eq_false (show ¬ x.b < ((5:Nat):Int) by omega)]
  refine⟨fun _=>bW (mk:=fun d=>jf l [c0,c1,c2,c3,c4] j x d) (by kernel_rfl),fun h=>by cases h⟩
 rw[decide_eq_true h4,decide_eq_true (show x.b < ((5:Nat):Int) by omega)]
 simp only[Bool.not_true,cond_false,Bool.true_and]
 cases h5:x.a==x.b with
 |true=>exact⟨fun _=>bW (mk:=fun d=>jf l [c0,c1,c2,c3,c4] j x d) (by kernel_rfl),fun h=>(by cases h)⟩
 |false=>
 simp only[cond_false,Bool.not_false,Bool.true_and]
 by_cases h6:x.r < 1
 case pos=>
  rw[decide_eq_true h6,decide_eq_false (show ¬ 1≤x.r by omega)]
  refine⟨fun _=>bW (mk:=fun d=>jf l [c0,c1,c2,c3,c4] j x d) (by kernel_rfl),fun h=>by cases h⟩
 rw[decide_eq_false h6,decide_eq_true (show 1≤x.r by omega)]
 simp only[cond_false,Bool.true_and]
 by_cases h7:x.r > 3
 case pos=>
  rw[decide_eq_true h7,decide_eq_false (show ¬ x.r≤3 by omega)]
  refine⟨fun _=>bW (mk:=fun d=>jf l [c0,c1,c2,c3,c4] j x d) (by kernel_rfl),fun h=>by cases h⟩
 rw[decide_eq_false h7,decide_eq_true (show x.r≤3 by omega)]
 exact⟨fun h=>(by cases h),fun _=>bW (mk:=fun d=>jf l [c0,c1,c2,c3,c4] j x d) (by kernel_rfl)⟩
theorem ae1 {N:Nat} {c0 c1 c2 c3 c4 c5:Cf} {l:List Lk} {j:Nat} {x:Lk} {b:Bool} (hx:l[j]? =some x):jW N l [c0,c1,c2,c3,c4,c5] j x b:=by
 have e0:bF env (N+1) 21 [6,2] 0 3 (uY l [c0,c1,c2,c3,c4,c5] j b)=_:=ah1 N c0 c1 c2 c3 c4 c5 l j b
 rw[aF (aI hx),show(x.t.cells.length==3&& !x.t.dS)=true from rfl,bD,show x.t.ah 0 1 false=i64 x.a from rfl,show x.t.ah 1 1 false=i64 x.b from rfl,show x.t.ah 2 1 false=i64 x.r from rfl] at e0
 simp only[bM] at e0
 unfold jW pK
 simp only[List.length_cons,List.length_nil,Nat.zero_add,Nat.reduceAdd]
 rw[e0]
 by_cases h1:x.a≥0
 case neg=>
  rw[decide_eq_false h1]
  refine⟨fun _=>bW (mk:=fun d=>jf l [c0,c1,c2,c3,c4,c5] j x d) (by kernel_rfl),fun h=>by cases h⟩
 rw[decide_eq_true h1]
 simp only[cond_true,Bool.true_and]
 by_cases h2:x.a < 6
 case neg=>
  rw[decide_eq_false h2,decide_eq_false (show ¬ x.a < ((6:Nat):Int) by omega)]
  refine⟨fun _=>bW (mk:=fun d=>jf l [c0,c1,c2,c3,c4,c5] j x d) (by kernel_rfl),fun h=>by cases h⟩
 rw[decide_eq_true h2,decide_eq_true (show x.a < ((6:Nat):Int) by omega)]
 simp only[Bool.not_true,cond_false,Bool.true_and]
 by_cases h3:x.b≥0
 case neg=>
  rw[decide_eq_false h3]
  refine⟨fun _=>bW (mk:=fun d=>jf l [c0,c1,c2,c3,c4,c5] j x d) (by kernel_rfl),fun h=>by cases h⟩
 rw[decide_eq_true h3]
 simp only[cond_true,Bool.true_and]
 by_cases h4:x.b < 6
 case neg=>
  rw[decide_eq_false h4,decide_eq_false (show ¬ x.b < ((6:Nat):Int) by omega)]
  refine⟨fun _=>bW (mk:=fun d=>jf l [c0,c1,c2,c3,c4,c5] j x d) (by kernel_rfl),fun h=>by cases h⟩
 rw[decide_eq_true h4,decide_eq_true (show x.b < ((6:Nat):Int) by omega)]
 simp only[Bool.not_true,cond_false,Bool.true_and]
 cases h5:x.a==x.b with
 |true=>exact⟨fun _=>bW (mk:=fun d=>jf l [c0,c1,c2,c3,c4,c5] j x d) (by kernel_rfl),fun h=>(by cases h)⟩
 |false=>
 simp only[cond_false,Bool.not_false,Bool.true_and]
 by_cases h6:x.r < 1
 case pos=>
  rw[decide_eq_true h6,decide_eq_false (show ¬ 1≤x.r by omega)]
  refine⟨fun _=>bW (mk:=fun d=>jf l [c0,c1,c2,c3,c4,c5] j x d) (by kernel_rfl),fun h=>by cases h⟩
 rw[decide_eq_false h6,decide_eq_true (show 1≤x.r by omega)]
 simp only[cond_false,Bool.true_and]
 by_cases h7:x.r > 3
 case pos=>
  rw[decide_eq_true h7,decide_eq_false (show ¬ x.r≤3 by omega)]
  refine⟨fun _=>bW (mk:=fun d=>jf l [c0,c1,c2,c3,c4,c5] j x d) (by kernel_rfl),fun h=>by cases h⟩
 rw[decide_eq_false h7,decide_eq_true (show x.r≤3 by omega)]
 exact⟨fun h=>(by cases h),fun _=>bW (mk:=fun d=>jf l [c0,c1,c2,c3,c4,c5] j x d) (by kernel_rfl)⟩
theorem ae2 {N:Nat} {c0 c1 c2 c3 c4 c5 c6:Cf} {l:List Lk} {j:Nat} {x:Lk} {b:Bool} (hx:l[j]? =some x):jW N l [c0,c1,c2,c3,c4,c5,c6] j x b:=by
 have e0:bF env (N+1) 21 [6,2] 0 3 (uY l [c0,c1,c2,c3,c4,c5,c6] j b)=_:=ah2 N c0 c1 c2 c3 c4 c5 c6 l j b
 rw[aF (aI hx),show(x.t.cells.length==3&& !x.t.dS)=true from rfl,bD,show x.t.ah 0 1 false=i64 x.a from rfl,show x.t.ah 1 1 false=i64 x.b from rfl,show x.t.ah 2 1 false=i64 x.r from rfl] at e0
 simp only[bM] at e0
 unfold jW pK
 simp only[List.length_cons,List.length_nil,Nat.zero_add,Nat.reduceAdd]
 rw[e0]
 by_cases h1:x.a≥0
 case neg=>
  rw[decide_eq_false h1]
  refine⟨fun _=>bW (mk:=fun d=>jf l [c0,c1,c2,c3,c4,c5,c6] j x d) (by kernel_rfl),fun h=>by cases h⟩
 rw[decide_eq_true h1]
 simp only[cond_true,Bool.true_and]
 by_cases h2:x.a < 7
 case neg=>
  rw[decide_eq_false h2,decide_eq_false (show ¬ x.a < ((7:Nat):Int) by omega)]
  refine⟨fun _=>bW (mk:=fun d=>jf l [c0,c1,c2,c3,c4,c5,c6] j x d) (by kernel_rfl),fun h=>by cases h⟩
 rw[decide_eq_true h2,decide_eq_true (show x.a < ((7:Nat):Int) by omega)]
 simp only[Bool.not_true,cond_false,Bool.true_and]
 by_cases h3:x.b≥0
 case neg=>
  rw[decide_eq_false h3]
  refine⟨fun _=>bW (mk:=fun d=>jf l [c0,c1,c2,c3,c4,c5,c6] j x d) (by kernel_rfl),fun h=>by cases h⟩
 rw[decide_eq_true h3]
 simp only[cond_true,Bool.true_and]
 by_cases h4:x.b < 7
 case neg=>
  rw[decide_eq_false h4,decide_eq_false (show ¬ x.b < ((7:Nat):Int) by omega)]
  refine⟨fun _=>bW (mk:=fun d=>jf l [c0,c1,c2,c3,c4,c5,c6] j x d) (by kernel_rfl),fun h=>by cases h⟩
 rw[decide_eq_true h4,decide_eq_true (show x.b < ((7:Nat):Int) by omega)]
 simp only[Bool.not_true,cond_false,Bool.true_and]
 cases h5:x.a==x.b with
 |true=>exact⟨fun _=>bW (mk:=fun d=>jf l [c0,c1,c2,c3,c4,c5,c6] j x d) (by kernel_rfl),fun h=>(by cases h)⟩
 |false=>
 simp only[cond_false,Bool.not_false,Bool.true_and]
 by_cases h6:x.r < 1
 case pos=>
  rw[decide_eq_true h6,decide_eq_false (show ¬ 1≤x.r by omega)]
  refine⟨fun _=>bW (mk:=fun d=>jf l [c0,c1,c2,c3,c4,c5,c6] j x d) (by kernel_rfl),fun h=>by cases h⟩
 rw[decide_eq_false h6,decide_eq_true (show 1≤x.r by omega)]
 simp only[cond_false,Bool.true_and]
 by_cases h7:x.r > 3
 case pos=>
  rw[decide_eq_true h7,decide_eq_false (show ¬ x.r≤3 by omega)]
  refine⟨fun _=>bW (mk:=fun d=>jf l [c0,c1,c2,c3,c4,c5,c6] j x d) (by kernel_rfl),fun h=>by cases h⟩
 rw[decide_eq_false h7,decide_eq_true (show x.r≤3 by omega)]
 exact⟨fun h=>(by cases h),fun _=>bW (mk:=fun d=>jf l [c0,c1,c2,c3,c4,c5,c6] j x d) (by kernel_rfl)⟩
theorem ae3 {N:Nat} {c0 c1 c2 c3 c4 c5 c6 c7:Cf} {l:List Lk} {j:Nat} {x:Lk} {b:Bool} (hx:l[j]? =some x):jW N l [c0,c1,c2,c3,c4,c5,c6,c7] j x b:=by
 have e0:bF env (N+1) 21 [6,2] 0 3 (uY l [c0,c1,c2,c3,c4,c5,c6,c7] j b)=_:=ah3 N c0 c1 c2 c3 c4 c5 c6 c7 l j b
 rw[aF (aI hx),show(x.t.cells.length==3&& !x.t.dS)=true from rfl,bD,show x.t.ah 0 1 false=i64 x.a from rfl,show x.t.ah 1 1 false=i64 x.b from rfl,show x.t.ah 2 1 false=i64 x.r from rfl] at e0
 simp only[bM] at e0
 unfold jW pK
 simp only[List.length_cons,List.length_nil,Nat.zero_add,Nat.reduceAdd]
 rw[e0]
 by_cases h1:x.a≥0
 case neg=>
  rw[decide_eq_false h1]
  refine⟨fun _=>bW (mk:=fun d=>jf l [c0,c1,c2,c3,c4,c5,c6,c7] j x d) (by kernel_rfl),fun h=>by cases h⟩
 rw[decide_eq_true h1]
 simp only[cond_true,Bool.true_and]
 by_cases h2:x.a < 8
 case neg=>
  rw[decide_eq_false h2,decide_eq_false (show ¬ x.a < ((8:Nat):Int) by omega)]
  refine⟨fun _=>bW (mk:=fun d=>jf l [c0,c1,c2,c3,c4,c5,c6,c7] j x d) (by kernel_rfl),fun h=>by cases h⟩
 rw[decide_eq_true h2,decide_eq_true (show x.a < ((8:Nat):Int) by omega)]
 simp only[Bool.not_true,cond_false,Bool.true_and]
 by_cases h3:x.b≥0
 case neg=>
  rw[decide_eq_false h3]
  refine⟨fun _=>bW (mk:=fun d=>jf l [c0,c1,c2,c3,c4,c5,c6,c7] j x d) (by kernel_rfl),fun h=>by cases h⟩
 rw[decide_eq_true h3]
 simp only[cond_true,Bool.true_and]
 by_cases h4:x.b < 8
 case neg=>
  rw[decide_eq_false h4,decide_eq_false (show ¬ x.b < ((8:Nat):Int) by omega)]
  refine⟨fun _=>bW (mk:=fun d=>jf l [c0,c1,c2,c3,c4,c5,c6,c7] j x d) (by kernel_rfl),fun h=>by cases h⟩
 rw[decide_eq_true h4,decide_eq_true (show x.b < ((8:Nat):Int) by omega)]
 simp only[Bool.not_true,cond_false,Bool.true_and]
 cases h5:x.a==x.b with
 |true=>exact⟨fun _=>bW (mk:=fun d=>jf l [c0,c1,c2,c3,c4,c5,c6,c7] j x d) (by kernel_rfl),fun h=>(by cases h)⟩
 |false=>
 simp only[cond_false,Bool.not_false,Bool.true_and]
 by_cases h6:x.r < 1
 case pos=>
  rw[decide_eq_true h6,decide_eq_false (show ¬ 1≤x.r by omega)]
  refine⟨fun _=>bW (mk:=fun d=>jf l [c0,c1,c2,c3,c4,c5,c6,c7] j x d) (by kernel_rfl),fun h=>by cases h⟩
 rw[decide_eq_false h6,decide_eq_true (show 1≤x.r by omega)]
 simp only[cond_false,Bool.true_and]
 by_cases h7:x.r > 3
 case pos=>
  rw[decide_eq_true h7,decide_eq_false (show ¬ x.r≤3 by omega)]
  refine⟨fun _=>bW (mk:=fun d=>jf l [c0,c1,c2,c3,c4,c5,c6,c7] j x d) (by kernel_rfl),fun h=>by cases h⟩
 rw[decide_eq_false h7,decide_eq_true (show x.r≤3 by omega)]
 exact⟨fun h=>(by cases h),fun _=>bW (mk:=fun d=>jf l [c0,c1,c2,c3,c4,c5,c6,c7] j x d) (by kernel_rfl)⟩
theorem CS {P:List Cf→Prop} (h1:∀ c0,P [c0]) (h2:∀ c0 c1,P [c0,c1]) (h3:∀ c0 c1 c2,P [c0,c1,c2]) (h4:∀ c0 c1 c2 c3,P [c0,c1,c2,c3]) (h5:∀ c0 c1 c2 c3 c4,P [c0,c1,c2,c3,c4]) (h6:∀ c0 c1 c2 c3 c4 c5,P [c0,c1,c2,c3,c4,c5]) (h7:∀ c0 c1 c2 c3 c4 c5 c6,P [c0,c1,c2,c3,c4,c5,c6]) (h8:∀ c0 c1 c2 c3 c4 c5 c6 c7,P [c0,c1,c2,c3,c4,c5,c6,c7]):∀ t:List Cf,t≠ []→t.length≤8→P t
 | [],h,_=>absurd rfl h
 | [c0],_,_=>h1 c0
 | [c0,c1],_,_=>h2 c0 c1
 | [c0,c1,c2],_,_=>h3 c0 c1 c2
 | [c0,c1,c2,c3],_,_=>h4 c0 c1 c2 c3
 | [c0,c1,c2,c3,c4],_,_=>h5 c0 c1 c2 c3 c4
 | [c0,c1,c2,c3,c4,c5],_,_=>h6 c0 c1 c2 c3 c4 c5
 | [c0,c1,c2,c3,c4,c5,c6],_,_=>h7 c0 c1 c2 c3 c4 c5 c6
 | [c0,c1,c2,c3,c4,c5,c6,c7],_,_=>h8 c0 c1 c2 c3 c4 c5 c6 c7
 |_::_::_::_::_::_::_::_::_::_,_,h=>by simp at h
theorem ahr {N:Nat} {t:List Cf} (h0:t≠ []) (h8:t.length≤8) {l:List Lk} {j:Nat} {x:Lk} {b:Bool} (hx:l[j]? =some x):jW N l t j x b:=
 CS (P:=fun t=>jW N l t j x b) (fun _=>aeW hx) (fun _ _=>aeX hx) (fun _ _ _=>aeY hx) (fun _ _ _ _=>aeZ hx) (fun _ _ _ _ _=>ae0 hx) (fun _ _ _ _ _ _=>ae1 hx) (fun _ _ _ _ _ _ _=>ae2 hx) (fun _ _ _ _ _ _ _ _=>ae3 hx) t h0 h8
end
section
open Go.RowKit Go.Proofs
variable [Lv]
noncomputable def rD (i:Nat):Array Oper:=gI env 21 [6,2] i
noncomputable def N8 (N i k n:Nat) (s:St):aj St:=aQ env (aJ env N) (rD i) (((bG (rD i)).drop k).take n) s fun s=>(.ok s:aj St)
noncomputable def Ac (N Nc i k n:Nat) (s:St):aj St:=QZ env (aJ env N) (rD i) Nc (((bG (rD i)).drop k).take n) s fun s=>(.ok s:aj St)
def lkH (a b:Nat) (r:Int):List au:=[.box 40 3 (.t (.agg [i64 a,i64 b,i64 r]))]
def F9 (l:List Lk) (t:List Cf) (j:Int) (a b:Nat) (r:Int):St:=⟨slots 153 ((11,.ptr (t.length+2) 0)::rC l j),aP t.length t (lkH a b r)⟩
def WB (l:List Lk) (t:List Cf) (j:Int) (a b:Nat) (r:Int) (v:Bool):St:=⟨slots 153 ((11,.ptr (t.length+2) 0)::(13,.t (.bool v))::rC l j),aP t.length t (lkH a b r)⟩
def sGe (l:List Lk) (t:List Cf) (j:Int) (a b:Nat) (r:Int) (v:Bool):St:=⟨slots 153 ((11,.ptr (t.length+2) 0)::(13,.t (.bool v))::(105,.t (.bool v))::rC l j),aP t.length t (lkH a b r)⟩
noncomputable def s14 (N:Nat) (l:List Lk) (t:List Cf) (j:Int) (a b:Nat) (r:Int):St:=TD (N8 N 3 0 11 (F9 l t j a b r))
noncomputable def aef (N:Nat) (l:List Lk) (t:List Cf) (j:Int) (a b:Nat) (r k:Int) (v:Bool):St:=⟨(s14 N l t j a b r).tmps.set 102 (.t (.ak [i64 k,.bool v])),(s14 N l t j a b r).heap⟩
noncomputable def s16 (N i n:Nat) (s:St):St:=TD (Ac N s.heap.length i 0 n s)
noncomputable def aeh (N i n d:Nat) (s:St) (x:T):St:=⟨(s16 N i n s).tmps.set d (.t x),(s16 N i n s).heap⟩
noncomputable def VP (N i n d:Nat) (s:St) (x:T):St:=TD (Ac N s.heap.length i (n+1) 1 (aeh N i n d s x))
noncomputable def aeg (N i n d dd ra:Nat) (s:St) (xs:List T) (x:T):St:=⟨(PV.kills (· ==ra) (VP N i n d s x).tmps).set dd (.own ra),((VP N i n d s x).heap.map (au.kill (· ==ra))).set ra (.row 48 4 (xs++ [x]))⟩
structure Tm (N i n d dd ra:Nat) (s:St) (xs:List T) (p w:Int):Prop where
 a1:Ac N s.heap.length i 0 n s= .ok (s16 N i n s)
 a2:Ac N s.heap.length i n 1 (s16 N i n s)=(aB env N 43 [i64 p,i64 w]).bind fun x=> .ok ⟨(s16 N i n s).tmps.set d (.t x),(s16 N i n s).heap⟩
 a3:∀ S:Sd,Ac N s.heap.length i (n+1) 1 (aeh N i n d s S.t)= .ok (VP N i n d s S.t)
 a4:∀ S:Sd,Ac N s.heap.length i (n+2) 1 (VP N i n d s S.t)=chk (decide ((xs.length+1)*64≤140737488355328)) (.ok (aeg N i n d dd ra s xs S.t))
 a5:∀ S:Sd,(Ac N s.heap.length i (n+3) 3 (aeg N i n d dd ra s xs S.t)).bind (fun s=>(.ok ⟨bZ [7,9,11,55,56,57] s.tmps,s.heap⟩:aj St))= .ok ⟨s.tmps,s.heap.set ra (.row 48 4 (xs++ [S.t]))⟩
structure ay (N:Nat) (l:List Lk) (t:List Cf) (a b:Nat) (ca cb:Cf):Prop where
 r1:∀ j r,N8 N 3 0 11 (F9 l t j a b r)= .ok (s14 N l t j a b r)
 r2:∀ j r,N8 N 3 11 1 (s14 N l t j a b r)=(aB env N 29 [ca.t,i64 cb.a]).bind fun x=>chk x.plain (.ok ⟨(s14 N l t j a b r).tmps.set 102 (.t x),(s14 N l t j a b r).heap⟩)
 r3:∀ j r k v,(N8 N 3 12 9 (aef N l t j a b r k v)).bind (fun s=>(.ok ⟨bZ [7,9,11,13,55,56,57] s.tmps,s.heap⟩:aj St))= .ok (WB l t j a b r v)
 ra:∀ j r,Tm N 6 17 123 125 (2+a) (F9 l t j a b r) (ca.s.map Sd.t) cb.a r
 rb:∀ j r,Tm N 7 18 146 148 (2+b) (F9 l t j a b r) (cb.s.map Sd.t) ca.a (IntKind.i64.wrap (4 - r))
end
section
open Go.RowKit Go.Proofs
variable [Lv]
theorem Y9 (N:Nat) (l:List Lk) (c0 c1 c2 c3 c4 c5 c6 c7:Cf):ay N l [c0,c1,c2,c3,c4,c5,c6,c7] 0 1 c0 c1:=⟨fun j r=>by kernel_rfl,fun j r=>by kernel_rfl,fun j r k v=>by kernel_rfl,fun j r=>⟨by kernel_rfl,by kernel_rfl,fun S=>by kernel_rfl,fun S=>by kernel_rfl,fun S=>by kernel_rfl⟩,fun j r=>⟨by kernel_rfl,by kernel_rfl,fun S=>by kernel_rfl,fun S=>by kernel_rfl,fun S=>by kernel_rfl⟩⟩
theorem Za (N:Nat) (l:List Lk) (c0 c1 c2 c3 c4 c5 c6 c7:Cf):ay N l [c0,c1,c2,c3,c4,c5,c6,c7] 0 2 c0 c2:=⟨fun j r=>by kernel_rfl,fun j r=>by kernel_rfl,fun j r k v=>by kernel_rfl,fun j r=>⟨by kernel_rfl,by kernel_rfl,fun S=>by kernel_rfl,fun S=>by kernel_rfl,fun S=>by kernel_rfl⟩,fun j r=>⟨by kernel_rfl,by kernel_rfl,fun S=>by kernel_rfl,fun S=>by kernel_rfl,fun S=>by kernel_rfl⟩⟩
theorem Zb (N:Nat) (l:List Lk) (c0 c1 c2 c3 c4 c5 c6 c7:Cf):ay N l [c0,c1,c2,c3,c4,c5,c6,c7] 0 3 c0 c3:=⟨fun j r=>by kernel_rfl,fun j r=>by kernel_rfl,fun j r k v=>by kernel_rfl,fun j r=>⟨by kernel_rfl,by kernel_rfl,fun S=>by kernel_rfl,fun S=>by kernel_rfl,fun S=>by kernel_rfl⟩,fun j r=>⟨by kernel_rfl,by kernel_rfl,fun S=>by kernel_rfl,fun S=>by kernel_rfl,fun S=>by kernel_rfl⟩⟩
theorem Zc (N:Nat) (l:List Lk) (c0 c1 c2 c3 c4 c5 c6 c7:Cf):ay N l [c0,c1,c2,c3,c4,c5,c6,c7] 0 4 c0 c4:=⟨fun j r=>by kernel_rfl,fun j r=>by kernel_rfl,fun j r k v=>by kernel_rfl,fun j r=>⟨by kernel_rfl,by kernel_rfl,fun S=>by kernel_rfl,fun S=>by kernel_rfl,fun S=>by kernel_rfl⟩,fun j r=>⟨by kernel_rfl,by kernel_rfl,fun S=>by kernel_rfl,fun S=>by kernel_rfl,fun S=>by kernel_rfl⟩⟩
theorem Zd (N:Nat) (l:List Lk) (c0 c1 c2 c3 c4 c5 c6 c7:Cf):ay N l [c0,c1,c2,c3,c4,c5,c6,c7] 0 5 c0 c5:=⟨fun j r=>by kernel_rfl,fun j r=>by kernel_rfl,fun j r k v=>by kernel_rfl,fun j r=>⟨by kernel_rfl,by kernel_rfl,fun S=>by kernel_rfl,fun S=>by kernel_rfl,fun S=>by kernel_rfl⟩,fun j r=>⟨by kernel_rfl,by kernel_rfl,fun S=>by kernel_rfl,fun S=>by kernel_rfl,fun S=>by kernel_rfl⟩⟩
theorem Ze (N:Nat) (l:List Lk) (c0 c1 c2 c3 c4 c5 c6 c7:Cf):ay N l [c0,c1,c2,c3,c4,c5,c6,c7] 0 6 c0 c6:=⟨fun j r=>by kernel_rfl,fun j r=>by kernel_rfl,fun j r k v=>by kernel_rfl,fun j r=>⟨by kernel_rfl,by kernel_rfl,fun S=>by kernel_rfl,fun S=>by kernel_rfl,fun S=>by kernel_rfl⟩,fun j r=>⟨by kernel_rfl,by kernel_rfl,fun S=>by kernel_rfl,fun S=>by kernel_rfl,fun S=>by kernel_rfl⟩⟩
theorem Zf (N:Nat) (l:List Lk) (c0 c1 c2 c3 c4 c5 c6 c7:Cf):ay N l [c0,c1,c2,c3,c4,c5,c6,c7] 0 7 c0 c7:=⟨fun j r=>by kernel_rfl,fun j r=>by kernel_rfl,fun j r k v=>by kernel_rfl,fun j r=>⟨by kernel_rfl,by kernel_rfl,fun S=>by kernel_rfl,fun S=>by kernel_rfl,fun S=>by kernel_rfl⟩,fun j r=>⟨by kernel_rfl,by kernel_rfl,fun S=>by kernel_rfl,fun S=>by kernel_rfl,fun S=>by kernel_rfl⟩⟩
theorem Zg (N:Nat) (l:List Lk) (c0 c1 c2 c3 c4 c5 c6 c7:Cf):ay N l [c0,c1,c2,c3,c4,c5,c6,c7] 1 0 c1 c0:=⟨fun j r=>by kernel_rfl,fun j r=>by kernel_rfl,fun j r k v=>by kernel_rfl,fun j r=>⟨by kernel_rfl,by kernel_rfl,fun S=>by kernel_rfl,fun S=>by kernel_rfl,fun S=>by kernel_rfl⟩,fun j r=>⟨by kernel_rfl,by kernel_rfl,fun S=>by kernel_rfl,fun S=>by kernel_rfl,fun S=>by kernel_rfl⟩⟩
theorem Zh (N:Nat) (l:List Lk) (c0 c1 c2 c3 c4 c5 c6 c7:Cf):ay N l [c0,c1,c2,c3,c4,c5,c6,c7] 1 2 c1 c2:=⟨fun j r=>by kernel_rfl,fun j r=>by kernel_rfl,fun j r k v=>by kernel_rfl,fun j r=>⟨by kernel_rfl,by kernel_rfl,fun S=>by kernel_rfl,fun S=>by kernel_rfl,fun S=>by kernel_rfl⟩,fun j r=>⟨by kernel_rfl,by kernel_rfl,fun S=>by kernel_rfl,fun S=>by kernel_rfl,fun S=>by kernel_rfl⟩⟩
theorem Zi (N:Nat) (l:List Lk) (c0 c1 c2 c3 c4 c5 c6 c7:Cf):ay N l [c0,c1,c2,c3,c4,c5,c6,c7] 1 3 c1 c3:=⟨fun j r=>by kernel_rfl,fun j r=>by kernel_rfl,fun j r k v=>by kernel_rfl,fun j r=>⟨by kernel_rfl,by kernel_rfl,fun S=>by kernel_rfl,fun S=>by kernel_rfl,fun S=>by kernel_rfl⟩,fun j r=>⟨by kernel_rfl,by kernel_rfl,fun S=>by kernel_rfl,fun S=>by kernel_rfl,fun S=>by kernel_rfl⟩⟩
theorem Zj (N:Nat) (l:List Lk) (c0 c1 c2 c3 c4 c5 c6 c7:Cf):ay N l [c0,c1,c2,c3,c4,c5,c6,c7] 1 4 c1 c4:=⟨fun j r=>by kernel_rfl,fun j r=>by kernel_rfl,fun j r k v=>by kernel_rfl,fun j r=>⟨by kernel_rfl,by kernel_rfl,fun S=>by kernel_rfl,fun S=>by kernel_rfl,fun S=>by kernel_rfl⟩,fun j r=>⟨by kernel_rfl,by kernel_rfl,fun S=>by kernel_rfl,fun S=>by kernel_rfl,fun S=>by kernel_rfl⟩⟩
theorem Zk (N:Nat) (l:List Lk) (c0 c1 c2 c3 c4 c5 c6 c7:Cf):ay N l [c0,c1,c2,c3,c4,c5,c6,c7] 1 5 c1 c5:=⟨fun j r=>by kernel_rfl,fun j r=>by kernel_rfl,fun j r k v=>by kernel_rfl,fun j r=>⟨by kernel_rfl,by kernel_rfl,fun S=>by kernel_rfl,fun S=>by kernel_rfl,fun S=>by kernel_rfl⟩,fun j r=>⟨by kernel_rfl,by kernel_rfl,fun S=>by kernel_rfl,fun S=>by kernel_rfl,fun S=>by kernel_rfl⟩⟩
theorem Zl (N:Nat) (l:List Lk) (c0 c1 c2 c3 c4 c5 c6 c7:Cf):ay N l [c0,c1,c2,c3,c4,c5,c6,c7] 1 6 c1 c6:=⟨fun j r=>by kernel_rfl,fun j r=>by kernel_rfl,fun j r k v=>by kernel_rfl,fun j r=>⟨by kernel_rfl,by kernel_rfl,fun S=>by kernel_rfl,fun S=>by kernel_rfl,fun S=>by kernel_rfl⟩,fun j r=>⟨by kernel_rfl,by kernel_rfl,fun S=>by kernel_rfl,fun S=>by kernel_rfl,fun S=>by kernel_rfl⟩⟩
theorem Zm (N:Nat) (l:List Lk) (c0 c1 c2 c3 c4 c5 c6 c7:Cf):ay N l [c0,c1,c2,c3,c4,c5,c6,c7] 1 7 c1 c7:=⟨fun j r=>by kernel_rfl,fun j r=>by kernel_rfl,fun j r k v=>by kernel_rfl,fun j r=>⟨by kernel_rfl,by kernel_rfl,fun S=>by kernel_rfl,fun S=>by kernel_rfl,fun S=>by kernel_rfl⟩,fun j r=>⟨by kernel_rfl,by kernel_rfl,fun S=>by kernel_rfl,fun S=>by kernel_rfl,fun S=>by kernel_rfl⟩⟩
theorem Zn (N:Nat) (l:List Lk) (c0 c1 c2 c3 c4 c5 c6 c7:Cf):ay N l [c0,c1,c2,c3,c4,c5,c6,c7] 2 0 c2 c0:=⟨fun j r=>by kernel_rfl,fun j r=>by kernel_rfl,fun j r k v=>by kernel_rfl,fun j r=>⟨by kernel_rfl,by kernel_rfl,fun S=>by kernel_rfl,fun S=>by kernel_rfl,fun S=>by kernel_rfl⟩,fun j r=>⟨by kernel_rfl,by kernel_rfl,fun S=>by kernel_rfl,fun S=>by kernel_rfl,fun S=>by kernel_rfl⟩⟩
theorem Zo (N:Nat) (l:List Lk) (c0 c1 c2 c3 c4 c5 c6 c7:Cf):ay N l [c0,c1,c2,c3,c4,c5,c6,c7] 2 1 c2 c1:=⟨fun j r=>by kernel_rfl,fun j r=>by kernel_rfl,fun j r k v=>by kernel_rfl,fun j r=>⟨by kernel_rfl,by kernel_rfl,fun S=>by kernel_rfl,fun S=>by kernel_rfl,fun S=>by kernel_rfl⟩,fun j r=>⟨by kernel_rfl,by kernel_rfl,fun S=>by kernel_rfl,fun S=>by kernel_rfl,fun S=>by kernel_rfl⟩⟩
theorem Zp (N:Nat) (l:List Lk) (c0 c1 c2 c3 c4 c5 c6 c7:Cf):ay N l [c0,c1,c2,c3,c4,c5,c6,c7] 2 3 c2 c3:=⟨fun j r=>by kernel_rfl,fun j r=>by kernel_rfl,fun j r k v=>by kernel_rfl,fun j r=>⟨by kernel_rfl,by kernel_rfl,fun S=>by kernel_rfl,fun S=>by kernel_rfl,fun S=>by kernel_rfl⟩,fun j r=>⟨by kernel_rfl,by kernel_rfl,fun S=>by kernel_rfl,fun S=>by kernel_rfl,fun S=>by kernel_rfl⟩⟩
theorem Zq (N:Nat) (l:List Lk) (c0 c1 c2 c3 c4 c5 c6 c7:Cf):ay N l [c0,c1,c2,c3,c4,c5,c6,c7] 2 4 c2 c4:=⟨fun j r=>by kernel_rfl,fun j r=>by kernel_rfl,fun j r k v=>by kernel_rfl,fun j r=>⟨by kernel_rfl,by kernel_rfl,fun S=>by kernel_rfl,fun S=>by kernel_rfl,fun S=>by kernel_rfl⟩,fun j r=>⟨by kernel_rfl,by kernel_rfl,fun S=>by kernel_rfl,fun S=>by kernel_rfl,fun S=>by kernel_rfl⟩⟩
theorem Zr (N:Nat) (l:List Lk) (c0 c1 c2 c3 c4 c5 c6 c7:Cf):ay N l [c0,c1,c2,c3,c4,c5,c6,c7] 2 5 c2 c5:=⟨fun j r=>by kernel_rfl,fun j r=>by kernel_rfl,fun j r k v=>by kernel_rfl,fun j r=>⟨by kernel_rfl,by kernel_rfl,fun S=>by kernel_rfl,fun S=>by kernel_rfl,fun S=>by kernel_rfl⟩,fun j r=>⟨by kernel_rfl,by kernel_rfl,fun S=>by kernel_rfl,fun S=>by kernel_rfl,fun S=>by kernel_rfl⟩⟩
theorem Zt (N:Nat) (l:List Lk) (c0 c1 c2 c3 c4 c5 c6 c7:Cf):ay N l [c0,c1,c2,c3,c4,c5,c6,c7] 2 6 c2 c6:=⟨fun j r=>by kernel_rfl,fun j r=>by kernel_rfl,fun j r k v=>by kernel_rfl,fun j r=>⟨by kernel_rfl,by kernel_rfl,fun S=>by kernel_rfl,fun S=>by kernel_rfl,fun S=>by kernel_rfl⟩,fun j r=>⟨by kernel_rfl,by kernel_rfl,fun S=>by kernel_rfl,fun S=>by kernel_rfl,fun S=>by kernel_rfl⟩⟩
theorem Zu (N:Nat) (l:List Lk) (c0 c1 c2 c3 c4 c5 c6 c7:Cf):ay N l [c0,c1,c2,c3,c4,c5,c6,c7] 2 7 c2 c7:=⟨fun j r=>by kernel_rfl,fun j r=>by kernel_rfl,fun j r k v=>by kernel_rfl,fun j r=>⟨by kernel_rfl,by kernel_rfl,fun S=>by kernel_rfl,fun S=>by kernel_rfl,fun S=>by kernel_rfl⟩,fun j r=>⟨by kernel_rfl,by kernel_rfl,fun S=>by kernel_rfl,fun S=>by kernel_rfl,fun S=>by kernel_rfl⟩⟩
theorem Zv (N:Nat) (l:List Lk) (c0 c1 c2 c3 c4 c5 c6 c7:Cf):ay N l [c0,c1,c2,c3,c4,c5,c6,c7] 3 0 c3 c0:=⟨fun j r=>by kernel_rfl,fun j r=>by kernel_rfl,fun j r k v=>by kernel_rfl,fun j r=>⟨by kernel_rfl,by kernel_rfl,fun S=>by kernel_rfl,fun S=>by kernel_rfl,fun S=>by kernel_rfl⟩,fun j r=>⟨by kernel_rfl,by kernel_rfl,fun S=>by kernel_rfl,fun S=>by kernel_rfl,fun S=>by kernel_rfl⟩⟩
theorem Zw (N:Nat) (l:List Lk) (c0 c1 c2 c3 c4 c5 c6 c7:Cf):ay N l [c0,c1,c2,c3,c4,c5,c6,c7] 3 1 c3 c1:=⟨fun j r=>by kernel_rfl,fun j r=>by kernel_rfl,fun j r k v=>by kernel_rfl,fun j r=>⟨by kernel_rfl,by kernel_rfl,fun S=>by kernel_rfl,fun S=>by kernel_rfl,fun S=>by kernel_rfl⟩,fun j r=>⟨by kernel_rfl,by kernel_rfl,fun S=>by kernel_rfl,fun S=>by kernel_rfl,fun S=>by kernel_rfl⟩⟩
theorem Zx (N:Nat) (l:List Lk) (c0 c1 c2 c3 c4 c5 c6 c7:Cf):ay N l [c0,c1,c2,c3,c4,c5,c6,c7] 3 2 c3 c2:=⟨fun j r=>by kernel_rfl,fun j r=>by kernel_rfl,fun j r k v=>by kernel_rfl,fun j r=>⟨by kernel_rfl,by kernel_rfl,fun S=>by kernel_rfl,fun S=>by kernel_rfl,fun S=>by kernel_rfl⟩,fun j r=>⟨by kernel_rfl,by kernel_rfl,fun S=>by kernel_rfl,fun S=>by kernel_rfl,fun S=>by kernel_rfl⟩⟩
theorem Zy (N:Nat) (l:List Lk) (c0 c1 c2 c3 c4 c5 c6 c7:Cf):ay N l [c0,c1,c2,c3,c4,c5,c6,c7] 3 4 c3 c4:=⟨fun j r=>by kernel_rfl,fun j r=>by kernel_rfl,fun j r k v=>by kernel_rfl,fun j r=>⟨by kernel_rfl,by kernel_rfl,fun S=>by kernel_rfl,fun S=>by kernel_rfl,fun S=>by kernel_rfl⟩,fun j r=>⟨by kernel_rfl,by kernel_rfl,fun S=>by kernel_rfl,fun S=>by kernel_rfl,fun S=>by kernel_rfl⟩⟩
theorem Zz (N:Nat) (l:List Lk) (c0 c1 c2 c3 c4 c5 c6 c7:Cf):ay N l [c0,c1,c2,c3,c4,c5,c6,c7] 3 5 c3 c5:=⟨fun j r=>by kernel_rfl,fun j r=>by kernel_rfl,fun j r k v=>by kernel_rfl,fun j r=>⟨by kernel_rfl,by kernel_rfl,fun S=>by kernel_rfl,fun S=>by kernel_rfl,fun S=>by kernel_rfl⟩,fun j r=>⟨by kernel_rfl,by kernel_rfl,fun S=>by kernel_rfl,fun S=>by kernel_rfl,fun S=>by kernel_rfl⟩⟩
theorem ZA (N:Nat) (l:List Lk) (c0 c1 c2 c3 c4 c5 c6 c7:Cf):ay N l [c0,c1,c2,c3,c4,c5,c6,c7] 3 6 c3 c6:=⟨fun j r=>by kernel_rfl,fun j r=>by kernel_rfl,fun j r k v=>by kernel_rfl,fun j r=>⟨by kernel_rfl,by kernel_rfl,fun S=>by kernel_rfl,fun S=>by kernel_rfl,fun S=>by kernel_rfl⟩,fun j r=>⟨by kernel_rfl,by kernel_rfl,fun S=>by kernel_rfl,fun S=>by kernel_rfl,fun S=>by kernel_rfl⟩⟩
theorem ZB (N:Nat) (l:List Lk) (c0 c1 c2 c3 c4 c5 c6 c7:Cf):ay N l [c0,c1,c2,c3,c4,c5,c6,c7] 3 7 c3 c7:=⟨fun j r=>by kernel_rfl,fun j r=>by kernel_rfl,fun j r k v=>by kernel_rfl,fun j r=>⟨by kernel_rfl,by kernel_rfl,fun S=>by kernel_rfl,fun S=>by kernel_rfl,fun S=>by kernel_rfl⟩,fun j r=>⟨by kernel_rfl,by kernel_rfl,fun S=>by kernel_rfl,fun S=>by kernel_rfl,fun S=>by kernel_rfl⟩⟩
theorem ZC (N:Nat) (l:List Lk) (c0 c1 c2 c3 c4 c5 c6 c7:Cf):ay N l [c0,c1,c2,c3,c4,c5,c6,c7] 4 0 c4 c0:=⟨fun j r=>by kernel_rfl,fun j r=>by kernel_rfl,fun j r k v=>by kernel_rfl,fun j r=>⟨by kernel_rfl,by kernel_rfl,fun S=>by kernel_rfl,fun S=>by kernel_rfl,fun S=>by kernel_rfl⟩,fun j r=>⟨by kernel_rfl,by kernel_rfl,fun S=>by kernel_rfl,fun S=>by kernel_rfl,fun S=>by kernel_rfl⟩⟩
theorem ZE (N:Nat) (l:List Lk) (c0 c1 c2 c3 c4 c5 c6 c7:Cf):ay N l [c0,c1,c2,c3,c4,c5,c6,c7] 4 1 c4 c1:=⟨fun j r=>by kernel_rfl,fun j r=>by kernel_rfl,fun j r k v=>by kernel_rfl,fun j r=>⟨by kernel_rfl,by kernel_rfl,fun S=>by kernel_rfl,fun S=>by kernel_rfl,fun S=>by kernel_rfl⟩,fun j r=>⟨by kernel_rfl,by kernel_rfl,fun S=>by kernel_rfl,fun S=>by kernel_rfl,fun S=>by kernel_rfl⟩⟩
theorem ZF (N:Nat) (l:List Lk) (c0 c1 c2 c3 c4 c5 c6 c7:Cf):ay N l [c0,c1,c2,c3,c4,c5,c6,c7] 4 2 c4 c2:=⟨fun j r=>by kernel_rfl,fun j r=>by kernel_rfl,fun j r k v=>by kernel_rfl,fun j r=>⟨by kernel_rfl,by kernel_rfl,fun S=>by kernel_rfl,fun S=>by kernel_rfl,fun S=>by kernel_rfl⟩,fun j r=>⟨by kernel_rfl,by kernel_rfl,fun S=>by kernel_rfl,fun S=>by kernel_rfl,fun S=>by kernel_rfl⟩⟩
theorem ZG (N:Nat) (l:List Lk) (c0 c1 c2 c3 c4 c5 c6 c7:Cf):ay N l [c0,c1,c2,c3,c4,c5,c6,c7] 4 3 c4 c3:=⟨fun j r=>by kernel_rfl,fun j r=>by kernel_rfl,fun j r k v=>by kernel_rfl,fun j r=>⟨by kernel_rfl,by kernel_rfl,fun S=>by kernel_rfl,fun S=>by kernel_rfl,fun S=>by kernel_rfl⟩,fun j r=>⟨by kernel_rfl,by kernel_rfl,fun S=>by kernel_rfl,fun S=>by kernel_rfl,fun S=>by kernel_rfl⟩⟩
theorem ZH (N:Nat) (l:List Lk) (c0 c1 c2 c3 c4 c5 c6 c7:Cf):ay N l [c0,c1,c2,c3,c4,c5,c6,c7] 4 5 c4 c5:=⟨fun j r=>by kernel_rfl,fun j r=>by kernel_rfl,fun j r k v=>by kernel_rfl,fun j r=>⟨by kernel_rfl,by kernel_rfl,fun S=>by kernel_rfl,fun S=>by kernel_rfl,fun S=>by kernel_rfl⟩,fun j r=>⟨by kernel_rfl,by kernel_rfl,fun S=>by kernel_rfl,fun S=>by kernel_rfl,fun S=>by kernel_rfl⟩⟩
theorem ZI (N:Nat) (l:List Lk) (c0 c1 c2 c3 c4 c5 c6 c7:Cf):ay N l [c0,c1,c2,c3,c4,c5,c6,c7] 4 6 c4 c6:=⟨fun j r=>by kernel_rfl,fun j r=>by kernel_rfl,fun j r k v=>by kernel_rfl,fun j r=>⟨by kernel_rfl,by kernel_rfl,fun S=>by kernel_rfl,fun S=>by kernel_rfl,fun S=>by kernel_rfl⟩,fun j r=>⟨by kernel_rfl,by kernel_rfl,fun S=>by kernel_rfl,fun S=>by kernel_rfl,fun S=>by kernel_rfl⟩⟩
theorem ZJ (N:Nat) (l:List Lk) (c0 c1 c2 c3 c4 c5 c6 c7:Cf):ay N l [c0,c1,c2,c3,c4,c5,c6,c7] 4 7 c4 c7:=⟨fun j r=>by kernel_rfl,fun j r=>by kernel_rfl,fun j r k v=>by kernel_rfl,fun j r=>⟨by kernel_rfl,by kernel_rfl,fun S=>by kernel_rfl,fun S=>by kernel_rfl,fun S=>by kernel_rfl⟩,fun j r=>⟨by kernel_rfl,by kernel_rfl,fun S=>by kernel_rfl,fun S=>by kernel_rfl,fun S=>by kernel_rfl⟩⟩
theorem ZK (N:Nat) (l:List Lk) (c0 c1 c2 c3 c4 c5 c6 c7:Cf):ay N l [c0,c1,c2,c3,c4,c5,c6,c7] 5 0 c5 c0:=⟨fun j r=>by kernel_rfl,fun j r=>by kernel_rfl,fun j r k v=>by kernel_rfl,fun j r=>⟨by kernel_rfl,by kernel_rfl,fun S=>by kernel_rfl,fun S=>by kernel_rfl,fun S=>by kernel_rfl⟩,fun j r=>⟨by kernel_rfl,by kernel_rfl,fun S=>by kernel_rfl,fun S=>by kernel_rfl,fun S=>by kernel_rfl⟩⟩
theorem ZL (N:Nat) (l:List Lk) (c0 c1 c2 c3 c4 c5 c6 c7:Cf):ay N l [c0,c1,c2,c3,c4,c5,c6,c7] 5 1 c5 c1:=⟨fun j r=>by kernel_rfl,fun j r=>by kernel_rfl,fun j r k v=>by kernel_rfl,fun j r=>⟨by kernel_rfl,by kernel_rfl,fun S=>by kernel_rfl,fun S=>by kernel_rfl,fun S=>by kernel_rfl⟩,fun j r=>⟨by kernel_rfl,by kernel_rfl,fun S=>by kernel_rfl,fun S=>by kernel_rfl,fun S=>by kernel_rfl⟩⟩
theorem ZM (N:Nat) (l:List Lk) (c0 c1 c2 c3 c4 c5 c6 c7:Cf):ay N l [c0,c1,c2,c3,c4,c5,c6,c7] 5 2 c5 c2:=⟨fun j r=>by kernel_rfl,fun j r=>by kernel_rfl,fun j r k v=>by kernel_rfl,fun j r=>⟨by kernel_rfl,by kernel_rfl,fun S=>by kernel_rfl,fun S=>by kernel_rfl,fun S=>by kernel_rfl⟩,fun j r=>⟨by kernel_rfl,by kernel_rfl,fun S=>by kernel_rfl,fun S=>by kernel_rfl,fun S=>by kernel_rfl⟩⟩
theorem ZN (N:Nat) (l:List Lk) (c0 c1 c2 c3 c4 c5 c6 c7:Cf):ay N l [c0,c1,c2,c3,c4,c5,c6,c7] 5 3 c5 c3:=⟨fun j r=>by kernel_rfl,fun j r=>by kernel_rfl,fun j r k v=>by kernel_rfl,fun j r=>⟨by kernel_rfl,by kernel_rfl,fun S=>by kernel_rfl,fun S=>by kernel_rfl,fun S=>by kernel_rfl⟩,fun j r=>⟨by kernel_rfl,by kernel_rfl,fun S=>by kernel_rfl,fun S=>by kernel_rfl,fun S=>by kernel_rfl⟩⟩
theorem ZO (N:Nat) (l:List Lk) (c0 c1 c2 c3 c4 c5 c6 c7:Cf):ay N l [c0,c1,c2,c3,c4,c5,c6,c7] 5 4 c5 c4:=⟨fun j r=>by kernel_rfl,fun j r=>by kernel_rfl,fun j r k v=>by kernel_rfl,fun j r=>⟨by kernel_rfl,by kernel_rfl,fun S=>by kernel_rfl,fun S=>by kernel_rfl,fun S=>by kernel_rfl⟩,fun j r=>⟨by kernel_rfl,by kernel_rfl,fun S=>by kernel_rfl,fun S=>by kernel_rfl,fun S=>by kernel_rfl⟩⟩
theorem ZP (N:Nat) (l:List Lk) (c0 c1 c2 c3 c4 c5 c6 c7:Cf):ay N l [c0,c1,c2,c3,c4,c5,c6,c7] 5 6 c5 c6:=⟨fun j r=>by kernel_rfl,fun j r=>by kernel_rfl,fun j r k v=>by kernel_rfl,fun j r=>⟨by kernel_rfl,by kernel_rfl,fun S=>by kernel_rfl,fun S=>by kernel_rfl,fun S=>by kernel_rfl⟩,fun j r=>⟨by kernel_rfl,by kernel_rfl,fun S=>by kernel_rfl,fun S=>by kernel_rfl,fun S=>by kernel_rfl⟩⟩
theorem ZQ (N:Nat) (l:List Lk) (c0 c1 c2 c3 c4 c5 c6 c7:Cf):ay N l [c0,c1,c2,c3,c4,c5,c6,c7] 5 7 c5 c7:=⟨fun j r=>by kernel_rfl,fun j r=>by kernel_rfl,fun j r k v=>by kernel_rfl,fun j r=>⟨by kernel_rfl,by kernel_rfl,fun S=>by kernel_rfl,fun S=>by kernel_rfl,fun S=>by kernel_rfl⟩,fun j r=>⟨by kernel_rfl,by kernel_rfl,fun S=>by kernel_rfl,fun S=>by kernel_rfl,fun S=>by kernel_rfl⟩⟩
theorem ZR (N:Nat) (l:List Lk) (c0 c1 c2 c3 c4 c5 c6 c7:Cf):ay N l [c0,c1,c2,c3,c4,c5,c6,c7] 6 0 c6 c0:=⟨fun j r=>by kernel_rfl,fun j r=>by kernel_rfl,fun j r k v=>by kernel_rfl,fun j r=>⟨by kernel_rfl,by kernel_rfl,fun S=>by kernel_rfl,fun S=>by kernel_rfl,fun S=>by kernel_rfl⟩,fun j r=>⟨by kernel_rfl,by kernel_rfl,fun S=>by kernel_rfl,fun S=>by kernel_rfl,fun S=>by kernel_rfl⟩⟩
theorem ZT (N:Nat) (l:List Lk) (c0 c1 c2 c3 c4 c5 c6 c7:Cf):ay N l [c0,c1,c2,c3,c4,c5,c6,c7] 6 1 c6 c1:=⟨fun j r=>by kernel_rfl,fun j r=>by kernel_rfl,fun j r k v=>by kernel_rfl,fun j r=>⟨by kernel_rfl,by kernel_rfl,fun S=>by kernel_rfl,fun S=>by kernel_rfl,fun S=>by kernel_rfl⟩,fun j r=>⟨by kernel_rfl,by kernel_rfl,fun S=>by kernel_rfl,fun S=>by kernel_rfl,fun S=>by kernel_rfl⟩⟩
theorem ZU (N:Nat) (l:List Lk) (c0 c1 c2 c3 c4 c5 c6 c7:Cf):ay N l [c0,c1,c2,c3,c4,c5,c6,c7] 6 2 c6 c2:=⟨fun j r=>by kernel_rfl,fun j r=>by kernel_rfl,fun j r k v=>by kernel_rfl,fun j r=>⟨by kernel_rfl,by kernel_rfl,fun S=>by kernel_rfl,fun S=>by kernel_rfl,fun S=>by kernel_rfl⟩,fun j r=>⟨by kernel_rfl,by kernel_rfl,fun S=>by kernel_rfl,fun S=>by kernel_rfl,fun S=>by kernel_rfl⟩⟩
theorem ZV (N:Nat) (l:List Lk) (c0 c1 c2 c3 c4 c5 c6 c7:Cf):ay N l [c0,c1,c2,c3,c4,c5,c6,c7] 6 3 c6 c3:=⟨fun j r=>by kernel_rfl,fun j r=>by kernel_rfl,fun j r k v=>by kernel_rfl,fun j r=>⟨by kernel_rfl,by kernel_rfl,fun S=>by kernel_rfl,fun S=>by kernel_rfl,fun S=>by kernel_rfl⟩,fun j r=>⟨by kernel_rfl,by kernel_rfl,fun S=>by kernel_rfl,fun S=>by kernel_rfl,fun S=>by kernel_rfl⟩⟩
theorem ZW (N:Nat) (l:List Lk) (c0 c1 c2 c3 c4 c5 c6 c7:Cf):ay N l [c0,c1,c2,c3,c4,c5,c6,c7] 6 4 c6 c4:=⟨fun j r=>by kernel_rfl,fun j r=>by kernel_rfl,fun j r k v=>by kernel_rfl,fun j r=>⟨by kernel_rfl,by kernel_rfl,fun S=>by kernel_rfl,fun S=>by kernel_rfl,fun S=>by kernel_rfl⟩,fun j r=>⟨by kernel_rfl,by kernel_rfl,fun S=>by kernel_rfl,fun S=>by kernel_rfl,fun S=>by kernel_rfl⟩⟩
theorem ZX (N:Nat) (l:List Lk) (c0 c1 c2 c3 c4 c5 c6 c7:Cf):ay N l [c0,c1,c2,c3,c4,c5,c6,c7] 6 5 c6 c5:=⟨fun j r=>by kernel_rfl,fun j r=>by kernel_rfl,fun j r k v=>by kernel_rfl,fun j r=>⟨by kernel_rfl,by kernel_rfl,fun S=>by kernel_rfl,fun S=>by kernel_rfl,fun S=>by kernel_rfl⟩,fun j r=>⟨by kernel_rfl,by kernel_rfl,fun S=>by kernel_rfl,fun S=>by kernel_rfl,fun S=>by kernel_rfl⟩⟩
theorem ZY (N:Nat) (l:List Lk) (c0 c1 c2 c3 c4 c5 c6 c7:Cf):ay N l [c0,c1,c2,c3,c4,c5,c6,c7] 6 7 c6 c7:=⟨fun j r=>by kernel_rfl,fun j r=>by kernel_rfl,fun j r k v=>by kernel_rfl,fun j r=>⟨by kernel_rfl,by kernel_rfl,fun S=>by kernel_rfl,fun S=>by kernel_rfl,fun S=>by kernel_rfl⟩,fun j r=>⟨by kernel_rfl,by kernel_rfl,fun S=>by kernel_rfl,fun S=>by kernel_rfl,fun S=>by kernel_rfl⟩⟩
theorem Z4 (N:Nat) (l:List Lk) (c0 c1 c2 c3 c4 c5 c6 c7:Cf):ay N l [c0,c1,c2,c3,c4,c5,c6,c7] 7 0 c7 c0:=⟨fun j r=>by kernel_rfl,fun j r=>by kernel_rfl,fun j r k v=>by kernel_rfl,fun j r=>⟨by kernel_rfl,by kernel_rfl,fun S=>by kernel_rfl,fun S=>by kernel_rfl,fun S=>by kernel_rfl⟩,fun j r=>⟨by kernel_rfl,by kernel_rfl,fun S=>by kernel_rfl,fun S=>by kernel_rfl,fun S=>by kernel_rfl⟩⟩
theorem Z5 (N:Nat) (l:List Lk) (c0 c1 c2 c3 c4 c5 c6 c7:Cf):ay N l [c0,c1,c2,c3,c4,c5,c6,c7] 7 1 c7 c1:=⟨fun j r=>by kernel_rfl,fun j r=>by kernel_rfl,fun j r k v=>by kernel_rfl,fun j r=>⟨by kernel_rfl,by kernel_rfl,fun S=>by kernel_rfl,fun S=>by kernel_rfl,fun S=>by kernel_rfl⟩,fun j r=>⟨by kernel_rfl,by kernel_rfl,fun S=>by kernel_rfl,fun S=>by kernel_rfl,fun S=>by kernel_rfl⟩⟩
theorem Z7 (N:Nat) (l:List Lk) (c0 c1 c2 c3 c4 c5 c6 c7:Cf):ay N l [c0,c1,c2,c3,c4,c5,c6,c7] 7 2 c7 c2:=⟨fun j r=>by kernel_rfl,fun j r=>by kernel_rfl,fun j r k v=>by kernel_rfl,fun j r=>⟨by kernel_rfl,by kernel_rfl,fun S=>by kernel_rfl,fun S=>by kernel_rfl,fun S=>by kernel_rfl⟩,fun j r=>⟨by kernel_rfl,by kernel_rfl,fun S=>by kernel_rfl,fun S=>by kernel_rfl,fun S=>by kernel_rfl⟩⟩
theorem Z8 (N:Nat) (l:List Lk) (c0 c1 c2 c3 c4 c5 c6 c7:Cf):ay N l [c0,c1,c2,c3,c4,c5,c6,c7] 7 3 c7 c3:=⟨fun j r=>by kernel_rfl,fun j r=>by kernel_rfl,fun j r k v=>by kernel_rfl,fun j r=>⟨by kernel_rfl,by kernel_rfl,fun S=>by kernel_rfl,fun S=>by kernel_rfl,fun S=>by kernel_rfl⟩,fun j r=>⟨by kernel_rfl,by kernel_rfl,fun S=>by kernel_rfl,fun S=>by kernel_rfl,fun S=>by kernel_rfl⟩⟩
theorem Z9 (N:Nat) (l:List Lk) (c0 c1 c2 c3 c4 c5 c6 c7:Cf):ay N l [c0,c1,c2,c3,c4,c5,c6,c7] 7 4 c7 c4:=⟨fun j r=>by kernel_rfl,fun j r=>by kernel_rfl,fun j r k v=>by kernel_rfl,fun j r=>⟨by kernel_rfl,by kernel_rfl,fun S=>by kernel_rfl,fun S=>by kernel_rfl,fun S=>by kernel_rfl⟩,fun j r=>⟨by kernel_rfl,by kernel_rfl,fun S=>by kernel_rfl,fun S=>by kernel_rfl,fun S=>by kernel_rfl⟩⟩
theorem aac (N:Nat) (l:List Lk) (c0 c1 c2 c3 c4 c5 c6 c7:Cf):ay N l [c0,c1,c2,c3,c4,c5,c6,c7] 7 5 c7 c5:=⟨fun j r=>by kernel_rfl,fun j r=>by kernel_rfl,fun j r k v=>by kernel_rfl,fun j r=>⟨by kernel_rfl,by kernel_rfl,fun S=>by kernel_rfl,fun S=>by kernel_rfl,fun S=>by kernel_rfl⟩,fun j r=>⟨by kernel_rfl,by kernel_rfl,fun S=>by kernel_rfl,fun S=>by kernel_rfl,fun S=>by kernel_rfl⟩⟩
theorem aad (N:Nat) (l:List Lk) (c0 c1 c2 c3 c4 c5 c6 c7:Cf):ay N l [c0,c1,c2,c3,c4,c5,c6,c7] 7 6 c7 c6:=⟨fun j r=>by kernel_rfl,fun j r=>by kernel_rfl,fun j r k v=>by kernel_rfl,fun j r=>⟨by kernel_rfl,by kernel_rfl,fun S=>by kernel_rfl,fun S=>by kernel_rfl,fun S=>by kernel_rfl⟩,fun j r=>⟨by kernel_rfl,by kernel_rfl,fun S=>by kernel_rfl,fun S=>by kernel_rfl,fun S=>by kernel_rfl⟩⟩
theorem lk8 {N:Nat} {l:List Lk} {c0 c1 c2 c3 c4 c5 c6 c7 ca cb:Cf}:∀ {a b:Nat},a≠b→ [c0,c1,c2,c3,c4,c5,c6,c7][a]? =some ca→ [c0,c1,c2,c3,c4,c5,c6,c7][b]? =some cb→ay N l [c0,c1,c2,c3,c4,c5,c6,c7] a b ca cb
 |0,0,h,_,_=>absurd rfl h
 |0,1,_,ha,hb=>by cases ha; cases hb; exact Y9 N l c0 c1 c2 c3 c4 c5 c6 c7
 |0,2,_,ha,hb=>by cases ha; cases hb; exact Za N l c0 c1 c2 c3 c4 c5 c6 c7
 |0,3,_,ha,hb=>by cases ha; cases hb; exact Zb N l c0 c1 c2 c3 c4 c5 c6 c7
 |0,4,_,ha,hb=>by cases ha; cases hb; exact Zc N l c0 c1 c2 c3 c4 c5 c6 c7
 |0,5,_,ha,hb=>by cases ha; cases hb; exact Zd N l c0 c1 c2 c3 c4 c5 c6 c7
 |0,6,_,ha,hb=>by cases ha; cases hb; exact Ze N l c0 c1 c2 c3 c4 c5 c6 c7
 |0,7,_,ha,hb=>by cases ha; cases hb; exact Zf N l c0 c1 c2 c3 c4 c5 c6 c7
 |0,b+8,_,_,hb=>by simp at hb
 |1,0,_,ha,hb=>by cases ha; cases hb; exact Zg N l c0 c1 c2 c3 c4 c5 c6 c7
 |1,1,h,_,_=>absurd rfl h
 |1,2,_,ha,hb=>by cases ha; cases hb; exact Zh N l c0 c1 c2 c3 c4 c5 c6 c7
 |1,3,_,ha,hb=>by cases ha; cases hb; exact Zi N l c0 c1 c2 c3 c4 c5 c6 c7
 |1,4,_,ha,hb=>by cases ha; cases hb; exact Zj N l c0 c1 c2 c3 c4 c5 c6 c7
 |1,5,_,ha,hb=>by cases ha; cases hb; exact Zk N l c0 c1 c2 c3 c4 c5 c6 c7
 |1,6,_,ha,hb=>by cases ha; cases hb; exact Zl N l c0 c1 c2 c3 c4 c5 c6 c7
 |1,7,_,ha,hb=>by cases ha; cases hb; exact Zm N l c0 c1 c2 c3 c4 c5 c6 c7
 |1,b+8,_,_,hb=>by simp at hb
 |2,0,_,ha,hb=>by cases ha; cases hb; exact Zn N l c0 c1 c2 c3 c4 c5 c6 c7
 |2,1,_,ha,hb=>by cases ha; cases hb; exact Zo N l c0 c1 c2 c3 c4 c5 c6 c7
 |2,2,h,_,_=>absurd rfl h
 |2,3,_,ha,hb=>by cases ha; cases hb; exact Zp N l c0 c1 c2 c3 c4 c5 c6 c7
 |2,4,_,ha,hb=>by cases ha; cases hb; exact Zq N l c0 c1 c2 c3 c4 c5 c6 c7
 |2,5,_,ha,hb=>by cases ha; cases hb; exact Zr N l c0 c1 c2 c3 c4 c5 c6 c7
 |2,6,_,ha,hb=>by cases ha; cases hb; exact Zt N l c0 c1 c2 c3 c4 c5 c6 c7
 |2,7,_,ha,hb=>by cases ha; cases hb; exact Zu N l c0 c1 c2 c3 c4 c5 c6 c7
 |2,b+8,_,_,hb=>by simp at hb
 |3,0,_,ha,hb=>by cases ha; cases hb; exact Zv N l c0 c1 c2 c3 c4 c5 c6 c7
 |3,1,_,ha,hb=>by cases ha; cases hb; exact Zw N l c0 c1 c2 c3 c4 c5 c6 c7
 |3,2,_,ha,hb=>by cases ha; cases hb; exact Zx N l c0 c1 c2 c3 c4 c5 c6 c7
 |3,3,h,_,_=>absurd rfl h
 |3,4,_,ha,hb=>by cases ha; cases hb; exact Zy N l c0 c1 c2 c3 c4 c5 c6 c7
 |3,5,_,ha,hb=>by cases ha; cases hb; exact Zz N l c0 c1 c2 c3 c4 c5 c6 c7
 |3,6,_,ha,hb=>by cases ha; cases hb; exact ZA N l c0 c1 c2 c3 c4 c5 c6 c7
 |3,7,_,ha,hb=>by cases ha; cases hb; exact ZB N l c0 c1 c2 c3 c4 c5 c6 c7
 |3,b+8,_,_,hb=>by simp at hb
 |4,0,_,ha,hb=>by cases ha; cases hb; exact ZC N l c0 c1 c2 c3 c4 c5 c6 c7
 |4,1,_,ha,hb=>by cases ha; cases hb; exact ZE N l c0 c1 c2 c3 c4 c5 c6 c7
 |4,2,_,ha,hb=>by cases ha; cases hb; exact ZF N l c0 c1 c2 c3 c4 c5 c6 c7
 |4,3,_,ha,hb=>by cases ha; cases hb; exact ZG N l c0 c1 c2 c3 c4 c5 c6 c7
 |4,4,h,_,_=>absurd rfl h
 |4,5,_,ha,hb=>by cases ha; cases hb; exact ZH N l c0 c1 c2 c3 c4 c5 c6 c7
 |4,6,_,ha,hb=>by cases ha; cases hb; exact ZI N l c0 c1 c2 c3 c4 c5 c6 c7
 |4,7,_,ha,hb=>by cases ha; cases hb; exact ZJ N l c0 c1 c2 c3 c4 c5 c6 c7
 |4,b+8,_,_,hb=>by simp at hb
 |5,0,_,ha,hb=>by cases ha; cases hb; exact ZK N l c0 c1 c2 c3 c4 c5 c6 c7
 |5,1,_,ha,hb=>by cases ha; cases hb; exact ZL N l c0 c1 c2 c3 c4 c5 c6 c7
 |5,2,_,ha,hb=>by cases ha; cases hb; exact ZM N l c0 c1 c2 c3 c4 c5 c6 c7
 |5,3,_,ha,hb=>by cases ha; cases hb; exact ZN N l c0 c1 c2 c3 c4 c5 c6 c7
 |5,4,_,ha,hb=>by cases ha; cases hb; exact ZO N l c0 c1 c2 c3 c4 c5 c6 c7
 |5,5,h,_,_=>absurd rfl h
 |5,6,_,ha,hb=>by cases ha; cases hb; exact ZP N l c0 c1 c2 c3 c4 c5 c6 c7
 |5,7,_,ha,hb=>by cases ha; cases hb; exact ZQ N l c0 c1 c2 c3 c4 c5 c6 c7
 |5,b+8,_,_,hb=>by simp at hb
 |6,0,_,ha,hb=>by cases ha; cases hb; exact ZR N l c0 c1 c2 c3 c4 c5 c6 c7
 |6,1,_,ha,hb=>by cases ha; cases hb; exact ZT N l c0 c1 c2 c3 c4 c5 c6 c7
 |6,2,_,ha,hb=>by cases ha; cases hb; exact ZU N l c0 c1 c2 c3 c4 c5 c6 c7
 |6,3,_,ha,hb=>by cases ha; cases hb; exact ZV N l c0 c1 c2 c3 c4 c5 c6 c7
 |6,4,_,ha,hb=>by cases ha; cases hb; exact ZW N l c0 c1 c2 c3 c4 c5 c6 c7
 |6,5,_,ha,hb=>by cases ha; cases hb; exact ZX N l c0 c1 c2 c3 c4 c5 c6 c7
 |6,6,h,_,_=>absurd rfl h
 |6,7,_,ha,hb=>by cases ha; cases hb; exact ZY N l c0 c1 c2 c3 c4 c5 c6 c7
 |6,b+8,_,_,hb=>by simp at hb
 |7,0,_,ha,hb=>by cases ha; cases hb; exact Z4 N l c0 c1 c2 c3 c4 c5 c6 c7
 |7,1,_,ha,hb=>by cases ha; cases hb; exact Z5 N l c0 c1 c2 c3 c4 c5 c6 c7
 |7,2,_,ha,hb=>by cases ha; cases hb; exact Z7 N l c0 c1 c2 c3 c4 c5 c6 c7
 |7,3,_,ha,hb=>by cases ha; cases hb; exact Z8 N l c0 c1 c2 c3 c4 c5 c6 c7
 |7,4,_,ha,hb=>by cases ha; cases hb; exact Z9 N l c0 c1 c2 c3 c4 c5 c6 c7
 |7,5,_,ha,hb=>by cases ha; cases hb; exact aac N l c0 c1 c2 c3 c4 c5 c6 c7
 |7,6,_,ha,hb=>by cases ha; cases hb; exact aad N l c0 c1 c2 c3 c4 c5 c6 c7
 |7,7,h,_,_=>absurd rfl h
 |7,b+8,_,_,hb=>by simp at hb
 |a+8,_,_,ha,_=>by simp at ha
end
section
open Go.RowKit Go.Proofs
variable [Lv]
theorem Yr (N:Nat) (l:List Lk) (c0 c1 c2 c3 c4 c5 c6:Cf):ay N l [c0,c1,c2,c3,c4,c5,c6] 0 1 c0 c1:=⟨fun j r=>by kernel_rfl,fun j r=>by kernel_rfl,fun j r k v=>by kernel_rfl,fun j r=>⟨by kernel_rfl,by kernel_rfl,fun S=>by kernel_rfl,fun S=>by kernel_rfl,fun S=>by kernel_rfl⟩,fun j r=>⟨by kernel_rfl,by kernel_rfl,fun S=>by kernel_rfl,fun S=>by kernel_rfl,fun S=>by kernel_rfl⟩⟩
theorem Yt (N:Nat) (l:List Lk) (c0 c1 c2 c3 c4 c5 c6:Cf):ay N l [c0,c1,c2,c3,c4,c5,c6] 0 2 c0 c2:=⟨fun j r=>by kernel_rfl,fun j r=>by kernel_rfl,fun j r k v=>by kernel_rfl,fun j r=>⟨by kernel_rfl,by kernel_rfl,fun S=>by kernel_rfl,fun S=>by kernel_rfl,fun S=>by kernel_rfl⟩,fun j r=>⟨by kernel_rfl,by kernel_rfl,fun S=>by kernel_rfl,fun S=>by kernel_rfl,fun S=>by kernel_rfl⟩⟩
theorem Yu (N:Nat) (l:List Lk) (c0 c1 c2 c3 c4 c5 c6:Cf):ay N l [c0,c1,c2,c3,c4,c5,c6] 0 3 c0 c3:=⟨fun j r=>by kernel_rfl,fun j r=>by kernel_rfl,fun j r k v=>by kernel_rfl,fun j r=>⟨by kernel_rfl,by kernel_rfl,fun S=>by kernel_rfl,fun S=>by kernel_rfl,fun S=>by kernel_rfl⟩,fun j r=>⟨by kernel_rfl,by kernel_rfl,fun S=>by kernel_rfl,fun S=>by kernel_rfl,fun S=>by kernel_rfl⟩⟩
theorem Yv (N:Nat) (l:List Lk) (c0 c1 c2 c3 c4 c5 c6:Cf):ay N l [c0,c1,c2,c3,c4,c5,c6] 0 4 c0 c4:=⟨fun j r=>by kernel_rfl,fun j r=>by kernel_rfl,fun j r k v=>by kernel_rfl,fun j r=>⟨by kernel_rfl,by kernel_rfl,fun S=>by kernel_rfl,fun S=>by kernel_rfl,fun S=>by kernel_rfl⟩,fun j r=>⟨by kernel_rfl,by kernel_rfl,fun S=>by kernel_rfl,fun S=>by kernel_rfl,fun S=>by kernel_rfl⟩⟩
theorem Yw (N:Nat) (l:List Lk) (c0 c1 c2 c3 c4 c5 c6:Cf):ay N l [c0,c1,c2,c3,c4,c5,c6] 0 5 c0 c5:=⟨fun j r=>by kernel_rfl,fun j r=>by kernel_rfl,fun j r k v=>by kernel_rfl,fun j r=>⟨by kernel_rfl,by kernel_rfl,fun S=>by kernel_rfl,fun S=>by kernel_rfl,fun S=>by kernel_rfl⟩,fun j r=>⟨by kernel_rfl,by kernel_rfl,fun S=>by kernel_rfl,fun S=>by kernel_rfl,fun S=>by kernel_rfl⟩⟩
theorem Yx (N:Nat) (l:List Lk) (c0 c1 c2 c3 c4 c5 c6:Cf):ay N l [c0,c1,c2,c3,c4,c5,c6] 0 6 c0 c6:=⟨fun j r=>by kernel_rfl,fun j r=>by kernel_rfl,fun j r k v=>by kernel_rfl,fun j r=>⟨by kernel_rfl,by kernel_rfl,fun S=>by kernel_rfl,fun S=>by kernel_rfl,fun S=>by kernel_rfl⟩,fun j r=>⟨by kernel_rfl,by kernel_rfl,fun S=>by kernel_rfl,fun S=>by kernel_rfl,fun S=>by kernel_rfl⟩⟩
theorem Yy (N:Nat) (l:List Lk) (c0 c1 c2 c3 c4 c5 c6:Cf):ay N l [c0,c1,c2,c3,c4,c5,c6] 1 0 c1 c0:=⟨fun j r=>by kernel_rfl,fun j r=>by kernel_rfl,fun j r k v=>by kernel_rfl,fun j r=>⟨by kernel_rfl,by kernel_rfl,fun S=>by kernel_rfl,fun S=>by kernel_rfl,fun S=>by kernel_rfl⟩,fun j r=>⟨by kernel_rfl,by kernel_rfl,fun S=>by kernel_rfl,fun S=>by kernel_rfl,fun S=>by kernel_rfl⟩⟩
theorem Yz (N:Nat) (l:List Lk) (c0 c1 c2 c3 c4 c5 c6:Cf):ay N l [c0,c1,c2,c3,c4,c5,c6] 1 2 c1 c2:=⟨fun j r=>by kernel_rfl,fun j r=>by kernel_rfl,fun j r k v=>by kernel_rfl,fun j r=>⟨by kernel_rfl,by kernel_rfl,fun S=>by kernel_rfl,fun S=>by kernel_rfl,fun S=>by kernel_rfl⟩,fun j r=>⟨by kernel_rfl,by kernel_rfl,fun S=>by kernel_rfl,fun S=>by kernel_rfl,fun S=>by kernel_rfl⟩⟩
theorem YA (N:Nat) (l:List Lk) (c0 c1 c2 c3 c4 c5 c6:Cf):ay N l [c0,c1,c2,c3,c4,c5,c6] 1 3 c1 c3:=⟨fun j r=>by kernel_rfl,fun j r=>by kernel_rfl,fun j r k v=>by kernel_rfl,fun j r=>⟨by kernel_rfl,by kernel_rfl,fun S=>by kernel_rfl,fun S=>by kernel_rfl,fun S=>by kernel_rfl⟩,fun j r=>⟨by kernel_rfl,by kernel_rfl,fun S=>by kernel_rfl,fun S=>by kernel_rfl,fun S=>by kernel_rfl⟩⟩
theorem YB (N:Nat) (l:List Lk) (c0 c1 c2 c3 c4 c5 c6:Cf):ay N l [c0,c1,c2,c3,c4,c5,c6] 1 4 c1 c4:=⟨fun j r=>by kernel_rfl,fun j r=>by kernel_rfl,fun j r k v=>by kernel_rfl,fun j r=>⟨by kernel_rfl,by kernel_rfl,fun S=>by kernel_rfl,fun S=>by kernel_rfl,fun S=>by kernel_rfl⟩,fun j r=>⟨by kernel_rfl,by kernel_rfl,fun S=>by kernel_rfl,fun S=>by kernel_rfl,fun S=>by kernel_rfl⟩⟩
theorem YC (N:Nat) (l:List Lk) (c0 c1 c2 c3 c4 c5 c6:Cf):ay N l [c0,c1,c2,c3,c4,c5,c6] 1 5 c1 c5:=⟨fun j r=>by kernel_rfl,fun j r=>by kernel_rfl,fun j r k v=>by kernel_rfl,fun j r=>⟨by kernel_rfl,by kernel_rfl,fun S=>by kernel_rfl,fun S=>by kernel_rfl,fun S=>by kernel_rfl⟩,fun j r=>⟨by kernel_rfl,by kernel_rfl,fun S=>by kernel_rfl,fun S=>by kernel_rfl,fun S=>by kernel_rfl⟩⟩
theorem YD (N:Nat) (l:List Lk) (c0 c1 c2 c3 c4 c5 c6:Cf):ay N l [c0,c1,c2,c3,c4,c5,c6] 1 6 c1 c6:=⟨fun j r=>by kernel_rfl,fun j r=>by kernel_rfl,fun j r k v=>by kernel_rfl,fun j r=>⟨by kernel_rfl,by kernel_rfl,fun S=>by kernel_rfl,fun S=>by kernel_rfl,fun S=>by kernel_rfl⟩,fun j r=>⟨by kernel_rfl,by kernel_rfl,fun S=>by kernel_rfl,fun S=>by kernel_rfl,fun S=>by kernel_rfl⟩⟩
theorem YE (N:Nat) (l:List Lk) (c0 c1 c2 c3 c4 c5 c6:Cf):ay N l [c0,c1,c2,c3,c4,c5,c6] 2 0 c2 c0:=⟨fun j r=>by kernel_rfl,fun j r=>by kernel_rfl,fun j r k v=>by kernel_rfl,fun j r=>⟨by kernel_rfl,by kernel_rfl,fun S=>by kernel_rfl,fun S=>by kernel_rfl,fun S=>by kernel_rfl⟩,fun j r=>⟨by kernel_rfl,by kernel_rfl,fun S=>by kernel_rfl,fun S=>by kernel_rfl,fun S=>by kernel_rfl⟩⟩
theorem YF (N:Nat) (l:List Lk) (c0 c1 c2 c3 c4 c5 c6:Cf):ay N l [c0,c1,c2,c3,c4,c5,c6] 2 1 c2 c1:=⟨fun j r=>by kernel_rfl,fun j r=>by kernel_rfl,fun j r k v=>by kernel_rfl,fun j r=>⟨by kernel_rfl,by kernel_rfl,fun S=>by kernel_rfl,fun S=>by kernel_rfl,fun S=>by kernel_rfl⟩,fun j r=>⟨by kernel_rfl,by kernel_rfl,fun S=>by kernel_rfl,fun S=>by kernel_rfl,fun S=>by kernel_rfl⟩⟩
theorem YG (N:Nat) (l:List Lk) (c0 c1 c2 c3 c4 c5 c6:Cf):ay N l [c0,c1,c2,c3,c4,c5,c6] 2 3 c2 c3:=⟨fun j r=>by kernel_rfl,fun j r=>by kernel_rfl,fun j r k v=>by kernel_rfl,fun j r=>⟨by kernel_rfl,by kernel_rfl,fun S=>by kernel_rfl,fun S=>by kernel_rfl,fun S=>by kernel_rfl⟩,fun j r=>⟨by kernel_rfl,by kernel_rfl,fun S=>by kernel_rfl,fun S=>by kernel_rfl,fun S=>by kernel_rfl⟩⟩
theorem YH (N:Nat) (l:List Lk) (c0 c1 c2 c3 c4 c5 c6:Cf):ay N l [c0,c1,c2,c3,c4,c5,c6] 2 4 c2 c4:=⟨fun j r=>by kernel_rfl,fun j r=>by kernel_rfl,fun j r k v=>by kernel_rfl,fun j r=>⟨by kernel_rfl,by kernel_rfl,fun S=>by kernel_rfl,fun S=>by kernel_rfl,fun S=>by kernel_rfl⟩,fun j r=>⟨by kernel_rfl,by kernel_rfl,fun S=>by kernel_rfl,fun S=>by kernel_rfl,fun S=>by kernel_rfl⟩⟩
theorem YI (N:Nat) (l:List Lk) (c0 c1 c2 c3 c4 c5 c6:Cf):ay N l [c0,c1,c2,c3,c4,c5,c6] 2 5 c2 c5:=⟨fun j r=>by kernel_rfl,fun j r=>by kernel_rfl,fun j r k v=>by kernel_rfl,fun j r=>⟨by kernel_rfl,by kernel_rfl,fun S=>by kernel_rfl,fun S=>by kernel_rfl,fun S=>by kernel_rfl⟩,fun j r=>⟨by kernel_rfl,by kernel_rfl,fun S=>by kernel_rfl,fun S=>by kernel_rfl,fun S=>by kernel_rfl⟩⟩
theorem YJ (N:Nat) (l:List Lk) (c0 c1 c2 c3 c4 c5 c6:Cf):ay N l [c0,c1,c2,c3,c4,c5,c6] 2 6 c2 c6:=⟨fun j r=>by kernel_rfl,fun j r=>by kernel_rfl,fun j r k v=>by kernel_rfl,fun j r=>⟨by kernel_rfl,by kernel_rfl,fun S=>by kernel_rfl,fun S=>by kernel_rfl,fun S=>by kernel_rfl⟩,fun j r=>⟨by kernel_rfl,by kernel_rfl,fun S=>by kernel_rfl,fun S=>by kernel_rfl,fun S=>by kernel_rfl⟩⟩
theorem YK (N:Nat) (l:List Lk) (c0 c1 c2 c3 c4 c5 c6:Cf):ay N l [c0,c1,c2,c3,c4,c5,c6] 3 0 c3 c0:=⟨fun j r=>by kernel_rfl,fun j r=>by kernel_rfl,fun j r k v=>by kernel_rfl,fun j r=>⟨by kernel_rfl,by kernel_rfl,fun S=>by kernel_rfl,fun S=>by kernel_rfl,fun S=>by kernel_rfl⟩,fun j r=>⟨by kernel_rfl,by kernel_rfl,fun S=>by kernel_rfl,fun S=>by kernel_rfl,fun S=>by kernel_rfl⟩⟩
theorem YL (N:Nat) (l:List Lk) (c0 c1 c2 c3 c4 c5 c6:Cf):ay N l [c0,c1,c2,c3,c4,c5,c6] 3 1 c3 c1:=⟨fun j r=>by kernel_rfl,fun j r=>by kernel_rfl,fun j r k v=>by kernel_rfl,fun j r=>⟨by kernel_rfl,by kernel_rfl,fun S=>by kernel_rfl,fun S=>by kernel_rfl,fun S=>by kernel_rfl⟩,fun j r=>⟨by kernel_rfl,by kernel_rfl,fun S=>by kernel_rfl,fun S=>by kernel_rfl,fun S=>by kernel_rfl⟩⟩
theorem YM (N:Nat) (l:List Lk) (c0 c1 c2 c3 c4 c5 c6:Cf):ay N l [c0,c1,c2,c3,c4,c5,c6] 3 2 c3 c2:=⟨fun j r=>by kernel_rfl,fun j r=>by kernel_rfl,fun j r k v=>by kernel_rfl,fun j r=>⟨by kernel_rfl,by kernel_rfl,fun S=>by kernel_rfl,fun S=>by kernel_rfl,fun S=>by kernel_rfl⟩,fun j r=>⟨by kernel_rfl,by kernel_rfl,fun S=>by kernel_rfl,fun S=>by kernel_rfl,fun S=>by kernel_rfl⟩⟩
theorem YN (N:Nat) (l:List Lk) (c0 c1 c2 c3 c4 c5 c6:Cf):ay N l [c0,c1,c2,c3,c4,c5,c6] 3 4 c3 c4:=⟨fun j r=>by kernel_rfl,fun j r=>by kernel_rfl,fun j r k v=>by kernel_rfl,fun j r=>⟨by kernel_rfl,by kernel_rfl,fun S=>by kernel_rfl,fun S=>by kernel_rfl,fun S=>by kernel_rfl⟩,fun j r=>⟨by kernel_rfl,by kernel_rfl,fun S=>by kernel_rfl,fun S=>by kernel_rfl,fun S=>by kernel_rfl⟩⟩
theorem YO (N:Nat) (l:List Lk) (c0 c1 c2 c3 c4 c5 c6:Cf):ay N l [c0,c1,c2,c3,c4,c5,c6] 3 5 c3 c5:=⟨fun j r=>by kernel_rfl,fun j r=>by kernel_rfl,fun j r k v=>by kernel_rfl,fun j r=>⟨by kernel_rfl,by kernel_rfl,fun S=>by kernel_rfl,fun S=>by kernel_rfl,fun S=>by kernel_rfl⟩,fun j r=>⟨by kernel_rfl,by kernel_rfl,fun S=>by kernel_rfl,fun S=>by kernel_rfl,fun S=>by kernel_rfl⟩⟩
theorem YP (N:Nat) (l:List Lk) (c0 c1 c2 c3 c4 c5 c6:Cf):ay N l [c0,c1,c2,c3,c4,c5,c6] 3 6 c3 c6:=⟨fun j r=>by kernel_rfl,fun j r=>by kernel_rfl,fun j r k v=>by kernel_rfl,fun j r=>⟨by kernel_rfl,by kernel_rfl,fun S=>by kernel_rfl,fun S=>by kernel_rfl,fun S=>by kernel_rfl⟩,fun j r=>⟨by kernel_rfl,by kernel_rfl,fun S=>by kernel_rfl,fun S=>by kernel_rfl,fun S=>by kernel_rfl⟩⟩
theorem YQ (N:Nat) (l:List Lk) (c0 c1 c2 c3 c4 c5 c6:Cf):ay N l [c0,c1,c2,c3,c4,c5,c6] 4 0 c4 c0:=⟨fun j r=>by kernel_rfl,fun j r=>by kernel_rfl,fun j r k v=>by kernel_rfl,fun j r=>⟨by kernel_rfl,by kernel_rfl,fun S=>by kernel_rfl,fun S=>by kernel_rfl,fun S=>by kernel_rfl⟩,fun j r=>⟨by kernel_rfl,by kernel_rfl,fun S=>by kernel_rfl,fun S=>by kernel_rfl,fun S=>by kernel_rfl⟩⟩
theorem YR (N:Nat) (l:List Lk) (c0 c1 c2 c3 c4 c5 c6:Cf):ay N l [c0,c1,c2,c3,c4,c5,c6] 4 1 c4 c1:=⟨fun j r=>by kernel_rfl,fun j r=>by kernel_rfl,fun j r k v=>by kernel_rfl,fun j r=>⟨by kernel_rfl,by kernel_rfl,fun S=>by kernel_rfl,fun S=>by kernel_rfl,fun S=>by kernel_rfl⟩,fun j r=>⟨by kernel_rfl,by kernel_rfl,fun S=>by kernel_rfl,fun S=>by kernel_rfl,fun S=>by kernel_rfl⟩⟩
theorem YS (N:Nat) (l:List Lk) (c0 c1 c2 c3 c4 c5 c6:Cf):ay N l [c0,c1,c2,c3,c4,c5,c6] 4 2 c4 c2:=⟨fun j r=>by kernel_rfl,fun j r=>by kernel_rfl,fun j r k v=>by kernel_rfl,fun j r=>⟨by kernel_rfl,by kernel_rfl,fun S=>by kernel_rfl,fun S=>by kernel_rfl,fun S=>by kernel_rfl⟩,fun j r=>⟨by kernel_rfl,by kernel_rfl,fun S=>by kernel_rfl,fun S=>by kernel_rfl,fun S=>by kernel_rfl⟩⟩
theorem YT (N:Nat) (l:List Lk) (c0 c1 c2 c3 c4 c5 c6:Cf):ay N l [c0,c1,c2,c3,c4,c5,c6] 4 3 c4 c3:=⟨fun j r=>by kernel_rfl,fun j r=>by kernel_rfl,fun j r k v=>by kernel_rfl,fun j r=>⟨by kernel_rfl,by kernel_rfl,fun S=>by kernel_rfl,fun S=>by kernel_rfl,fun S=>by kernel_rfl⟩,fun j r=>⟨by kernel_rfl,by kernel_rfl,fun S=>by kernel_rfl,fun S=>by kernel_rfl,fun S=>by kernel_rfl⟩⟩
theorem YU (N:Nat) (l:List Lk) (c0 c1 c2 c3 c4 c5 c6:Cf):ay N l [c0,c1,c2,c3,c4,c5,c6] 4 5 c4 c5:=⟨fun j r=>by kernel_rfl,fun j r=>by kernel_rfl,fun j r k v=>by kernel_rfl,fun j r=>⟨by kernel_rfl,by kernel_rfl,fun S=>by kernel_rfl,fun S=>by kernel_rfl,fun S=>by kernel_rfl⟩,fun j r=>⟨by kernel_rfl,by kernel_rfl,fun S=>by kernel_rfl,fun S=>by kernel_rfl,fun S=>by kernel_rfl⟩⟩
theorem YV (N:Nat) (l:List Lk) (c0 c1 c2 c3 c4 c5 c6:Cf):ay N l [c0,c1,c2,c3,c4,c5,c6] 4 6 c4 c6:=⟨fun j r=>by kernel_rfl,fun j r=>by kernel_rfl,fun j r k v=>by kernel_rfl,fun j r=>⟨by kernel_rfl,by kernel_rfl,fun S=>by kernel_rfl,fun S=>by kernel_rfl,fun S=>by kernel_rfl⟩,fun j r=>⟨by kernel_rfl,by kernel_rfl,fun S=>by kernel_rfl,fun S=>by kernel_rfl,fun S=>by kernel_rfl⟩⟩
theorem YW (N:Nat) (l:List Lk) (c0 c1 c2 c3 c4 c5 c6:Cf):ay N l [c0,c1,c2,c3,c4,c5,c6] 5 0 c5 c0:=⟨fun j r=>by kernel_rfl,fun j r=>by kernel_rfl,fun j r k v=>by kernel_rfl,fun j r=>⟨by kernel_rfl,by kernel_rfl,fun S=>by kernel_rfl,fun S=>by kernel_rfl,fun S=>by kernel_rfl⟩,fun j r=>⟨by kernel_rfl,by kernel_rfl,fun S=>by kernel_rfl,fun S=>by kernel_rfl,fun S=>by kernel_rfl⟩⟩
theorem YX (N:Nat) (l:List Lk) (c0 c1 c2 c3 c4 c5 c6:Cf):ay N l [c0,c1,c2,c3,c4,c5,c6] 5 1 c5 c1:=⟨fun j r=>by kernel_rfl,fun j r=>by kernel_rfl,fun j r k v=>by kernel_rfl,fun j r=>⟨by kernel_rfl,by kernel_rfl,fun S=>by kernel_rfl,fun S=>by kernel_rfl,fun S=>by kernel_rfl⟩,fun j r=>⟨by kernel_rfl,by kernel_rfl,fun S=>by kernel_rfl,fun S=>by kernel_rfl,fun S=>by kernel_rfl⟩⟩
theorem YZ (N:Nat) (l:List Lk) (c0 c1 c2 c3 c4 c5 c6:Cf):ay N l [c0,c1,c2,c3,c4,c5,c6] 5 2 c5 c2:=⟨fun j r=>by kernel_rfl,fun j r=>by kernel_rfl,fun j r k v=>by kernel_rfl,fun j r=>⟨by kernel_rfl,by kernel_rfl,fun S=>by kernel_rfl,fun S=>by kernel_rfl,fun S=>by kernel_rfl⟩,fun j r=>⟨by kernel_rfl,by kernel_rfl,fun S=>by kernel_rfl,fun S=>by kernel_rfl,fun S=>by kernel_rfl⟩⟩
theorem Y0 (N:Nat) (l:List Lk) (c0 c1 c2 c3 c4 c5 c6:Cf):ay N l [c0,c1,c2,c3,c4,c5,c6] 5 3 c5 c3:=⟨fun j r=>by kernel_rfl,fun j r=>by kernel_rfl,fun j r k v=>by kernel_rfl,fun j r=>⟨by kernel_rfl,by kernel_rfl,fun S=>by kernel_rfl,fun S=>by kernel_rfl,fun S=>by kernel_rfl⟩,fun j r=>⟨by kernel_rfl,by kernel_rfl,fun S=>by kernel_rfl,fun S=>by kernel_rfl,fun S=>by kernel_rfl⟩⟩
theorem Y1 (N:Nat) (l:List Lk) (c0 c1 c2 c3 c4 c5 c6:Cf):ay N l [c0,c1,c2,c3,c4,c5,c6] 5 4 c5 c4:=⟨fun j r=>by kernel_rfl,fun j r=>by kernel_rfl,fun j r k v=>by kernel_rfl,fun j r=>⟨by kernel_rfl,by kernel_rfl,fun S=>by kernel_rfl,fun S=>by kernel_rfl,fun S=>by kernel_rfl⟩,fun j r=>⟨by kernel_rfl,by kernel_rfl,fun S=>by kernel_rfl,fun S=>by kernel_rfl,fun S=>by kernel_rfl⟩⟩
theorem Y2 (N:Nat) (l:List Lk) (c0 c1 c2 c3 c4 c5 c6:Cf):ay N l [c0,c1,c2,c3,c4,c5,c6] 5 6 c5 c6:=⟨fun j r=>by kernel_rfl,fun j r=>by kernel_rfl,fun j r k v=>by kernel_rfl,fun j r=>⟨by kernel_rfl,by kernel_rfl,fun S=>by kernel_rfl,fun S=>by kernel_rfl,fun S=>by kernel_rfl⟩,fun j r=>⟨by kernel_rfl,by kernel_rfl,fun S=>by kernel_rfl,fun S=>by kernel_rfl,fun S=>by kernel_rfl⟩⟩
theorem Y3 (N:Nat) (l:List Lk) (c0 c1 c2 c3 c4 c5 c6:Cf):ay N l [c0,c1,c2,c3,c4,c5,c6] 6 0 c6 c0:=⟨fun j r=>by kernel_rfl,fun j r=>by kernel_rfl,fun j r k v=>by kernel_rfl,fun j r=>⟨by kernel_rfl,by kernel_rfl,fun S=>by kernel_rfl,fun S=>by kernel_rfl,fun S=>by kernel_rfl⟩,fun j r=>⟨by kernel_rfl,by kernel_rfl,fun S=>by kernel_rfl,fun S=>by kernel_rfl,fun S=>by kernel_rfl⟩⟩
theorem Y4 (N:Nat) (l:List Lk) (c0 c1 c2 c3 c4 c5 c6:Cf):ay N l [c0,c1,c2,c3,c4,c5,c6] 6 1 c6 c1:=⟨fun j r=>by kernel_rfl,fun j r=>by kernel_rfl,fun j r k v=>by kernel_rfl,fun j r=>⟨by kernel_rfl,by kernel_rfl,fun S=>by kernel_rfl,fun S=>by kernel_rfl,fun S=>by kernel_rfl⟩,fun j r=>⟨by kernel_rfl,by kernel_rfl,fun S=>by kernel_rfl,fun S=>by kernel_rfl,fun S=>by kernel_rfl⟩⟩
theorem Y5 (N:Nat) (l:List Lk) (c0 c1 c2 c3 c4 c5 c6:Cf):ay N l [c0,c1,c2,c3,c4,c5,c6] 6 2 c6 c2:=⟨fun j r=>by kernel_rfl,fun j r=>by kernel_rfl,fun j r k v=>by kernel_rfl,fun j r=>⟨by kernel_rfl,by kernel_rfl,fun S=>by kernel_rfl,fun S=>by kernel_rfl,fun S=>by kernel_rfl⟩,fun j r=>⟨by kernel_rfl,by kernel_rfl,fun S=>by kernel_rfl,fun S=>by kernel_rfl,fun S=>by kernel_rfl⟩⟩
theorem Y6 (N:Nat) (l:List Lk) (c0 c1 c2 c3 c4 c5 c6:Cf):ay N l [c0,c1,c2,c3,c4,c5,c6] 6 3 c6 c3:=⟨fun j r=>by kernel_rfl,fun j r=>by kernel_rfl,fun j r k v=>by kernel_rfl,fun j r=>⟨by kernel_rfl,by kernel_rfl,fun S=>by kernel_rfl,fun S=>by kernel_rfl,fun S=>by kernel_rfl⟩,fun j r=>⟨by kernel_rfl,by kernel_rfl,fun S=>by kernel_rfl,fun S=>by kernel_rfl,fun S=>by kernel_rfl⟩⟩
theorem Y7 (N:Nat) (l:List Lk) (c0 c1 c2 c3 c4 c5 c6:Cf):ay N l [c0,c1,c2,c3,c4,c5,c6] 6 4 c6 c4:=⟨fun j r=>by kernel_rfl,fun j r=>by kernel_rfl,fun j r k v=>by kernel_rfl,fun j r=>⟨by kernel_rfl,by kernel_rfl,fun S=>by kernel_rfl,fun S=>by kernel_rfl,fun S=>by kernel_rfl⟩,fun j r=>⟨by kernel_rfl,by kernel_rfl,fun S=>by kernel_rfl,fun S=>by kernel_rfl,fun S=>by kernel_rfl⟩⟩
theorem Y8 (N:Nat) (l:List Lk) (c0 c1 c2 c3 c4 c5 c6:Cf):ay N l [c0,c1,c2,c3,c4,c5,c6] 6 5 c6 c5:=⟨fun j r=>by kernel_rfl,fun j r=>by kernel_rfl,fun j r k v=>by kernel_rfl,fun j r=>⟨by kernel_rfl,by kernel_rfl,fun S=>by kernel_rfl,fun S=>by kernel_rfl,fun S=>by kernel_rfl⟩,fun j r=>⟨by kernel_rfl,by kernel_rfl,fun S=>by kernel_rfl,fun S=>by kernel_rfl,fun S=>by kernel_rfl⟩⟩
theorem lk7 {N:Nat} {l:List Lk} {c0 c1 c2 c3 c4 c5 c6 ca cb:Cf}:∀ {a b:Nat},a≠b→ [c0,c1,c2,c3,c4,c5,c6][a]? =some ca→ [c0,c1,c2,c3,c4,c5,c6][b]? =some cb→ay N l [c0,c1,c2,c3,c4,c5,c6] a b ca cb
 |0,0,h,_,_=>absurd rfl h
 |0,1,_,ha,hb=>by cases ha; cases hb; exact Yr N l c0 c1 c2 c3 c4 c5 c6
 |0,2,_,ha,hb=>by cases ha; cases hb; exact Yt N l c0 c1 c2 c3 c4 c5 c6
 |0,3,_,ha,hb=>by cases ha; cases hb; exact Yu N l c0 c1 c2 c3 c4 c5 c6
 |0,4,_,ha,hb=>by cases ha; cases hb; exact Yv N l c0 c1 c2 c3 c4 c5 c6
 |0,5,_,ha,hb=>by cases ha; cases hb; exact Yw N l c0 c1 c2 c3 c4 c5 c6
 |0,6,_,ha,hb=>by cases ha; cases hb; exact Yx N l c0 c1 c2 c3 c4 c5 c6
 |0,b+7,_,_,hb=>by simp at hb
 |1,0,_,ha,hb=>by cases ha; cases hb; exact Yy N l c0 c1 c2 c3 c4 c5 c6
 |1,1,h,_,_=>absurd rfl h
 |1,2,_,ha,hb=>by cases ha; cases hb; exact Yz N l c0 c1 c2 c3 c4 c5 c6
 |1,3,_,ha,hb=>by cases ha; cases hb; exact YA N l c0 c1 c2 c3 c4 c5 c6
 |1,4,_,ha,hb=>by cases ha; cases hb; exact YB N l c0 c1 c2 c3 c4 c5 c6
 |1,5,_,ha,hb=>by cases ha; cases hb; exact YC N l c0 c1 c2 c3 c4 c5 c6
 |1,6,_,ha,hb=>by cases ha; cases hb; exact YD N l c0 c1 c2 c3 c4 c5 c6
 |1,b+7,_,_,hb=>by simp at hb
 |2,0,_,ha,hb=>by cases ha; cases hb; exact YE N l c0 c1 c2 c3 c4 c5 c6
 |2,1,_,ha,hb=>by cases ha; cases hb; exact YF N l c0 c1 c2 c3 c4 c5 c6
 |2,2,h,_,_=>absurd rfl h
 |2,3,_,ha,hb=>by cases ha; cases hb; exact YG N l c0 c1 c2 c3 c4 c5 c6
 |2,4,_,ha,hb=>by cases ha; cases hb; exact YH N l c0 c1 c2 c3 c4 c5 c6
 |2,5,_,ha,hb=>by cases ha; cases hb; exact YI N l c0 c1 c2 c3 c4 c5 c6
 |2,6,_,ha,hb=>by cases ha; cases hb; exact YJ N l c0 c1 c2 c3 c4 c5 c6
 |2,b+7,_,_,hb=>by simp at hb
 |3,0,_,ha,hb=>by cases ha; cases hb; exact YK N l c0 c1 c2 c3 c4 c5 c6
 |3,1,_,ha,hb=>by cases ha; cases hb; exact YL N l c0 c1 c2 c3 c4 c5 c6
 |3,2,_,ha,hb=>by cases ha; cases hb; exact YM N l c0 c1 c2 c3 c4 c5 c6
 |3,3,h,_,_=>absurd rfl h
 |3,4,_,ha,hb=>by cases ha; cases hb; exact YN N l c0 c1 c2 c3 c4 c5 c6
 |3,5,_,ha,hb=>by cases ha; cases hb; exact YO N l c0 c1 c2 c3 c4 c5 c6
 |3,6,_,ha,hb=>by cases ha; cases hb; exact YP N l c0 c1 c2 c3 c4 c5 c6
 |3,b+7,_,_,hb=>by simp at hb
 |4,0,_,ha,hb=>by cases ha; cases hb; exact YQ N l c0 c1 c2 c3 c4 c5 c6
 |4,1,_,ha,hb=>by cases ha; cases hb; exact YR N l c0 c1 c2 c3 c4 c5 c6
 |4,2,_,ha,hb=>by cases ha; cases hb; exact YS N l c0 c1 c2 c3 c4 c5 c6
 |4,3,_,ha,hb=>by cases ha; cases hb; exact YT N l c0 c1 c2 c3 c4 c5 c6
 |4,4,h,_,_=>absurd rfl h
 |4,5,_,ha,hb=>by cases ha; cases hb; exact YU N l c0 c1 c2 c3 c4 c5 c6
 |4,6,_,ha,hb=>by cases ha; cases hb; exact YV N l c0 c1 c2 c3 c4 c5 c6
 |4,b+7,_,_,hb=>by simp at hb
 |5,0,_,ha,hb=>by cases ha; cases hb; exact YW N l c0 c1 c2 c3 c4 c5 c6
 |5,1,_,ha,hb=>by cases ha; cases hb; exact YX N l c0 c1 c2 c3 c4 c5 c6
 |5,2,_,ha,hb=>by cases ha; cases hb; exact YZ N l c0 c1 c2 c3 c4 c5 c6
 |5,3,_,ha,hb=>by cases ha; cases hb; exact Y0 N l c0 c1 c2 c3 c4 c5 c6
 |5,4,_,ha,hb=>by cases ha; cases hb; exact Y1 N l c0 c1 c2 c3 c4 c5 c6
 |5,5,h,_,_=>absurd rfl h
 |5,6,_,ha,hb=>by cases ha; cases hb; exact Y2 N l c0 c1 c2 c3 c4 c5 c6
 |5,b+7,_,_,hb=>by simp at hb
 |6,0,_,ha,hb=>by cases ha; cases hb; exact Y3 N l c0 c1 c2 c3 c4 c5 c6
 |6,1,_,ha,hb=>by cases ha; cases hb; exact Y4 N l c0 c1 c2 c3 c4 c5 c6
 |6,2,_,ha,hb=>by cases ha; cases hb; exact Y5 N l c0 c1 c2 c3 c4 c5 c6
 |6,3,_,ha,hb=>by cases ha; cases hb; exact Y6 N l c0 c1 c2 c3 c4 c5 c6
 |6,4,_,ha,hb=>by cases ha; cases hb; exact Y7 N l c0 c1 c2 c3 c4 c5 c6
 |6,5,_,ha,hb=>by cases ha; cases hb; exact Y8 N l c0 c1 c2 c3 c4 c5 c6
 |6,6,h,_,_=>absurd rfl h
 |6,b+7,_,_,hb=>by simp at hb
 |a+7,_,_,ha,_=>by simp at ha
theorem Xd (N:Nat) (l:List Lk) (c0 c1:Cf):ay N l [c0,c1] 0 1 c0 c1:=⟨fun j r=>by kernel_rfl,fun j r=>by kernel_rfl,fun j r k v=>by kernel_rfl,fun j r=>⟨by kernel_rfl,by kernel_rfl,fun S=>by kernel_rfl,fun S=>by kernel_rfl,fun S=>by kernel_rfl⟩,fun j r=>⟨by kernel_rfl,by kernel_rfl,fun S=>by kernel_rfl,fun S=>by kernel_rfl,fun S=>by kernel_rfl⟩⟩
theorem Xe (N:Nat) (l:List Lk) (c0 c1:Cf):ay N l [c0,c1] 1 0 c1 c0:=⟨fun j r=>by kernel_rfl,fun j r=>by kernel_rfl,fun j r k v=>by kernel_rfl,fun j r=>⟨by kernel_rfl,by kernel_rfl,fun S=>by kernel_rfl,fun S=>by kernel_rfl,fun S=>by kernel_rfl⟩,fun j r=>⟨by kernel_rfl,by kernel_rfl,fun S=>by kernel_rfl,fun S=>by kernel_rfl,fun S=>by kernel_rfl⟩⟩
theorem lk2 {N:Nat} {l:List Lk} {c0 c1 ca cb:Cf}:∀ {a b:Nat},a≠b→ [c0,c1][a]? =some ca→ [c0,c1][b]? =some cb→ay N l [c0,c1] a b ca cb
 |0,0,h,_,_=>absurd rfl h
 |0,1,_,ha,hb=>by cases ha; cases hb; exact Xd N l c0 c1
 |0,b+2,_,_,hb=>by simp at hb
 |1,0,_,ha,hb=>by cases ha; cases hb; exact Xe N l c0 c1
 |1,1,h,_,_=>absurd rfl h
 |1,b+2,_,_,hb=>by simp at hb
 |a+2,_,_,ha,_=>by simp at ha
theorem lk1 {N:Nat} {l:List Lk} {c0 ca cb:Cf}:∀ {a b:Nat},a≠b→ [c0][a]? =some ca→ [c0][b]? =some cb→ay N l [c0] a b ca cb
 |0,0,h,_,_=>absurd rfl h
 |0,b+1,_,_,hb=>by simp at hb
 |a+1,_,_,ha,_=>by simp at ha
end
end Go.aO
