/- How a loop is met: the code of a loop within a function, what stands behind it, states written out. -/
import Derived.Test.YtmidmdabmalhgaaD25
namespace Go.Sim
open Go.RowKit
set_option linter.unusedVariables false

inductive Frm where
  | seq (b : Code)
  | block (id : Nat)

/-- The loop whose body begins with region r, and what stands behind it. -/
def findL (r : Nat) : Code → Option (Code × List Frm)
  | .seq a b => match findL r a with
    | some (c, fs) => some (c, fs ++ [.seq b])
    | none => findL r b
  | .block id c => match findL r c with
    | some (c', fs) => some (c', fs ++ [.block id])
    | none => none
  | .scope c => findL r c
  | .cond _ a b => match findL r a with
    | some x => some x
    | none => findL r b
  | .loop c => bif Nat.beq (firstRegion c) r then some (c, []) else none
  | _ => none

section
variable {β : Type} (E : Env) (rc : Caller) (f : FuncId) (fn : Func) (n base : Nat)
def tailK : List Frm → (Ex → St → Res β) → Ex → St → Res β
  | [], K => K
  | .seq b :: r, K => fun e st => e.k (codeK E rc f fn n base b st (tailK r K)) (fun i => tailK r K (.exit i) st) (tailK r K .ret st)
  | .block id :: r, K => fun e st => e.k (tailK r K .norm st) (fun i => if i = id then tailK r K .norm st else tailK r K (.exit i) st) (tailK r K .ret st)
def loopB (c : Code) : St → Res (Ex × St) := fun st => codeK E rc f fn n base c st fun e st => e.k (.ok (.norm, canon base (E.hint f (firstRegion c)).1 st))
      (fun i => .ok (.exit i, canon base (E.hint f (firstRegion c)).2 st)) (.ok (.ret, canon base (resTmps fn) st))
def rootK (K : PV → List AObj → Res β) : Ex → St → Res β := fun e st => e.k (resultsK E st fn.results.toList fun ps => K (pvRes ps) st.heap) (fun _ => .stuck) (resultsK E st fn.results.toList fun ps => K (pvRes ps) st.heap)
end

/-- A loop of a function. -/
def bodyL (E : Env) (n : Nat) (f : FuncId) (base r : Nat) : St → Res (Ex × St) := match E.P.funcs[f]? with
  | some fn => (match fn.body with
    | some c => (match findL r c with
      | some (c', _) => loopB E (recOf E n) f fn n base c'
      | none => fun _ => .stuck)
    | none => fun _ => .stuck)
  | none => fun _ => .stuck
/-- What stands behind it. -/
def tailL {β : Type} (E : Env) (n : Nat) (f : FuncId) (base r : Nat) (K : PV → List AObj → Res β) : Ex → St → Res β := match E.P.funcs[f]? with
  | some fn => (match fn.body with
    | some c => (match findL r c with
      | some (_, fs) => tailK E (recOf E n) f fn n base fs (rootK E fn K)
      | none => fun _ _ => .stuck)
    | none => fun _ _ => .stuck)
  | none => fun _ _ => .stuck
/-- A loop within a loop. -/
def bodyI (E : Env) (n : Nat) (f : FuncId) (base r q : Nat) : St → Res (Ex × St) := match E.P.funcs[f]? with
  | some fn => (match fn.body with
    | some c => (match findL r c with
      | some (c1, _) => (match findL q c1 with
        | some (c2, _) => loopB E (recOf E n) f fn n base c2
        | none => fun _ => .stuck)
      | none => fun _ => .stuck)
    | none => fun _ => .stuck)
  | none => fun _ => .stuck
def tailI (E : Env) (n : Nat) (f : FuncId) (base r q : Nat) : Ex → St → Res (Ex × St) := match E.P.funcs[f]? with
  | some fn => (match fn.body with
    | some c => (match findL r c with
      | some (c1, _) => (match findL q c1 with
        | some (_, fs) => tailK E (recOf E n) f fn n base fs fun e st => e.k (.ok (.norm, canon base (E.hint f (firstRegion c1)).1 st))
            (fun i => .ok (.exit i, canon base (E.hint f (firstRegion c1)).2 st)) (.ok (.ret, canon base (resTmps fn) st))
        | none => fun _ _ => .stuck)
      | none => fun _ _ => .stuck)
    | none => fun _ _ => .stuck)
  | none => fun _ _ => .stuck

/-- A loop, and what stands behind it. -/
def loopL (E : Env) (n : Nat) (f : FuncId) (r : Nat) (st : St) : Res T := (iterR (bodyL E n f 0 r) n st).bind fun p => tailL E n f 0 r (outK E f) p.1 p.2
def loopI (E : Env) (n : Nat) (f : FuncId) (r q : Nat) (st : St) : Res (Ex × St) := (iterR (bodyI E n f 0 r q) n st).bind fun p => tailI E n f 0 r q p.1 p.2

/-- Slots, written out: those that are not named are junk. -/
def slotAt : List (Nat × PV) → Nat → PV
  | [], _ => .junk
  | (j, p) :: r, i => bif Nat.beq j i then p else slotAt r i
def slots (n : Nat) (l : List (Nat × PV)) : List PV := (List.range n).map (slotAt l)

/-- Loops over a list: state by what is done and what is left. -/
theorem iterR_step {B : St → Res (Ex × St)} {n : Nat} {s s' : St} (h : B s = .ok (.norm, s')) : iterR B (n + 1) s = iterR B n s' := by simp [iterR, h, Ex.k]
theorem iterR_exit {B : St → Res (Ex × St)} {n : Nat} {s s' : St} {i : Nat} (h : B s = .ok (.exit i, s')) : iterR B (n + 1) s = .ok (.exit i, s') := by simp [iterR, h, Ex.k]
theorem iterR_ret {B : St → Res (Ex × St)} {n : Nat} {s s' : St} (h : B s = .ok (.ret, s')) : iterR B (n + 1) s = .ok (.ret, s') := by simp [iterR, h, Ex.k]

abbrev i64 (n : Int) : T := .int .i64 n
abbrev ok64 (n : Int) : Bool := kindOk .i64 n
theorem ok64_iff {n : Int} : ok64 n = true ↔ -9223372036854775808 ≤ n ∧ n ≤ 9223372036854775807 := by
  have h1 : IntKind.i64.min = -9223372036854775808 := by decide
  have h2 : IntKind.i64.max = 9223372036854775807 := by decide
  simp [ok64, kindOk, h1, h2]
theorem wrap64 {n : Int} (h : -9223372036854775808 ≤ n ∧ n ≤ 9223372036854775807) : IntKind.i64.wrap n = n := by
  rw [IntKind.wrap_i64]; omega
theorem wf_big {xs : List T} {k : Nat} (h : (T.sl k xs).wf = true) : xs.length ≤ big ∧ T.wfs xs = true := by simpa [T.wf] using h
theorem ok64_nat {n : Nat} (h : n ≤ big) : ok64 n = true := kindOk_nat h
theorem big_val : big = 140737488355328 := rfl

end Go.Sim
