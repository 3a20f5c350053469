/- The interpreter: one operation, regions, code, calls. -/
import Derived.Test.YtmidmdabmalhgaaC3
namespace Go.Sim
open Go.RowKit

structure Caller where
  pure : FuncId → List T → Res T
  go : (β : Type) → FuncId → List PV → List AObj → (PV → List AObj → Res β) → Res β

section
variable {β : Type} (E : Env) (rc : Caller)

/-- Do a function's results lead to no memory? -/
def retFree (f : FuncId) : Bool := match E.P.funcs[f]? with
  | some fn => fn.resultTypes.toList.all (freeP E.P 20)
  | none => false
/-- The element type of a function's first result, and its cells. -/
def retRow (f : FuncId) : Option (TypeId × Nat) := match E.P.funcs[f]? with
  | some fn => (fn.resultTypes[0]?).bind fun t => (elP E.P t).bind fun e => (szP E.P e).map fun k => (e, k)
  | none => none
def retCount (f : FuncId) : Nat := match E.P.funcs[f]? with | some fn => fn.resultTypes.size | none => 0

def compsK (x : T) (i : Nat) : Nat → (List PV → Res β) → Res β
  | 0, K => K []
  | n + 1, K => compT x i fun y => compsK x (i + 1) n fun ys => K (.t y :: ys)

/-- What a callee may come to: the rows that its arguments and the boxes name. -/
def exposed (args : List PV) (H : List AObj) : List Nat := PV.rowss args ++ H.flatMap AObj.rows
def hideRows (ex : List Nat) (H : List AObj) : List AObj := H.zipIdx.map fun (o, i) => match o with
  | .row e k xs => bif ex.contains i then .row e k xs else .dead
  | o => o
def showRows (ex : List Nat) (H H' : List AObj) : List AObj := H'.zipIdx.map fun (o, i) => match H[i]? with
  | some (.row e k xs) => bif ex.contains i then o else .row e k xs
  | _ => o

/-- A part of a row that comes of a call, and begins where the row does, becomes the row itself. -/
def trimK (p : PV) (st : St) (K : PV → St → Res β) : Res β := match p with
  | .view l k 0 hi => (match st.heap[l]? with
    | some (.row e k' xs) => bif k' == k && decide (hi ≤ xs.length) then K (.own l) ⟨PV.kills (· == l) st.tmps, (st.heap.map (AObj.kill (· == l))).set l (.row e k (xs.take hi))⟩ else K p st
    | _ => K p st)
  | _ => K p st

/-- A call that writes on a row of the caller's own. -/
def inplK (dr : Bool) (f : FuncId) (g : List AObj → List T → List PV → Res (List T)) (args : List PV) (st : St) (K : PV → St → Res β) : Res β := match args with
  | .own l :: rest => match st.heap[l]? with
    | some (.row e k xs) => bif !dr && retRow E f == some (e, k) && !(PV.rowss rest).contains l then
        (g st.heap xs rest).bind fun ys => K (.own l) ⟨PV.kills (· == l) st.tmps, ((freezeRows (PV.rowss rest) st.heap).map (AObj.kill (· == l))).set l (.row e k ys)⟩ else .stuck
    | _ => .stuck
  | _ => .stuck

def callK (dr : Bool) (f : FuncId) (args : List PV) (st : St) (K : PV → St → Res β) : Res β :=
  match E.inpl f with
  | some g => inplK E dr f g args st K
  | none =>
  match bif E.mode f == 3 then none else PV.frzs st.heap args with
  | some ts =>
    let rows := PV.rowss args
    match E.mode f with
    | 0 => (rc.pure f ts).bind fun x =>
      bif rows.isEmpty then K (.t x) st else bif retFree E f then chk x.plain (K (.t x) st) else bif dr then .stuck else K (.t x) ⟨st.tmps, freezeRows rows st.heap⟩
    | 1 => bif dr then .stuck else someK (retRow E f) fun (e, k) => (rc.pure f ts).bind fun x => slT k x fun xs =>
      K (.own st.heap.length) ⟨st.tmps, freezeRows rows st.heap ++ [.row e k xs]⟩
    | _ => bif dr then .stuck else someK (retRow E f) fun (e, k) => (rc.pure f ts).bind fun x => compT x 0 fun y => slT k y fun xs => compsK x 1 (retCount E f - 1) fun ys =>
      K (.tup (.own st.heap.length :: ys)) ⟨st.tmps, freezeRows rows st.heap ++ [.row e k xs]⟩
  | none => bif dr || (E.ext f).isSome then .stuck else
    let ex := exposed args st.heap
    rc.go β f args (hideRows ex st.heap) fun r H' => trimK r ⟨PV.kills (ex.contains ·) st.tmps, showRows ex st.heap H'⟩ K

/-- A call through a function value that is a tree. -/
def apK (x : T) (ts : List T) (K : T → Res β) : Res β := match x with
  | .fn g fs cs => bif E.mode g == 0 then (rc.pure g (fs ++ ts ++ cs)).bind K else .stuck
  | _ => .stuck

def funcOf : Fn → Option FuncId
  | .func f => some f
  | _ => none

/-- A captured variable, frozen. -/
def capture (H : List AObj) : PV → Option (T × List AObj)
  | .ptr l 0 => match H[l]? with
    | some (.box e n v) => match v.frz H with
      | some x => bif x.cells.length == n && (!(n == 1) || !x.isAgg) then some (.ref x, (freezeRows v.rows H).set l (.fbox e n x)) else none
      | none => none
    | some (.fbox _ _ x) => some (.ref x, H)
    | _ => none
  | .t x => some (x, H)
  | _ => none
def captures (H : List AObj) : List PV → Option (List T × List AObj)
  | [] => some ([], H)
  | p :: r => match capture H p with
    | some (x, H1) => match captures H1 r with
      | some (xs, H2) => some (x :: xs, H2)
      | none => none
    | none => none

def minmax (mx : Bool) : List Int → Int → Int
  | [], m => m
  | x :: r, m => minmax mx r (bif mx then (if x > m then x else m) else (if x < m then x else m))
def intsK (k : IntKind) : List PV → (List Int → Res β) → Res β
  | [], K => K []
  | .t x :: r, K => iT k x fun n => intsK k r fun ns => K (n :: ns)
  | _ :: _, _ => .stuck

def builtinK (b : Builtin) (tys : List TypeId) (args : List PV) (st : St) (K : PV → St → Res β) : Res β :=
  match b, tys, args with
  | .len, [t], [p] => match E.P.underlying t with
    | some (.slice _) => (match p with
      | .nil _ _ => K (.t (.int .i64 0)) st
      | .own l => match st.heap[l]? with
        | some (.row _ _ xs) => K (.t (.int .i64 xs.length)) st
        | some (.frow _ _ xs) => K (.t (.int .i64 xs.length)) st
        | some (.vec _ xs) => chk (decide (xs.length ≤ big)) (K (.t (.int .i64 xs.length)) st)
        | _ => .stuck
      | .view _ _ lo hi => K (.t (.int .i64 ((hi - lo : Nat) : Int))) st
      | .full _ xs => K (.t (.int .i64 xs.length)) st
      | .t x => sllT x fun n => K (.t (.int .i64 n)) st
      | _ => .stuck)
    | some .string => (match p with
      | .t x => strT x fun s => K (.t (.int .i64 s.size)) st
      | _ => .stuck)
    | _ => .stuck
  | .append, [t, t'], [s, x] => appendK E st t t' s x K
  | .clear, [t], [p] => clearK E st t p fun st => K undefV st
  | .copy, [t, t'], [p, x] => copyK E st t t' p x K
  | .max, t :: _, .t x :: r => someK (kindP E.P t) fun k => iT k x fun n => intsK k r fun ns => K (.t (.int k (minmax true ns n))) st
  | .min, t :: _, .t x :: r => someK (kindP E.P t) fun k => iT k x fun n => intsK k r fun ns => K (.t (.int k (minmax false ns n))) st
  | _, _, _ => .stuck

/-- No interface. -/
def concP (P : Program) (t : TypeId) : Bool := match P.underlying t with | some (.interface _) => false | some _ => true | none => false
def partsOf (P : Program) (tm : List PV) (ty : Nat → TypeId) : List (Nat × Operand) → Option (List (Nat × PV))
  | [] => some []
  | (i, o) :: r => match evalO P tm (ty i) o, partsOf P tm ty r with | some p, some ps => some ((i, p) :: ps) | _, _ => none
def optO (P : Program) (tm : List PV) : Option Operand → Option (Option PV)
  | none => some none
  | some o => (evalO P tm 0 o).map some

def opK (dr : Bool) (o : Oper) (st : St) (K : PV → St → Res β) : Res β :=
  match o.op with
  | .move x => someK (evalO E.P st.tmps o.type x) fun p => K p st
  | .assign x => someK (evalO E.P st.tmps o.type x) fun p => K p st
  | .pick c a b => someK (evalO E.P st.tmps 0 c) fun c => match c with
    | .t x => bT x fun c => bif c then someK (evalO E.P st.tmps o.type a) fun p => K p st else someK (evalO E.P st.tmps o.type b) fun p => K p st
    | _ => .stuck
  | .alloc e => someK (szP E.P e) fun n => someK (((E.P.info? e).bind (·.zero)).bind (pvConst E.P e)) fun z =>
    chk (zeroOk E.P e n && z.okS n) (K (.ptr st.heap.length 0) ⟨st.tmps, st.heap ++ [.box e n z]⟩)
  | .box e x => someK (szP E.P e) fun n => someK (evalO E.P st.tmps e x) fun p =>
    chk (p.okS n) (K (.ptr st.heap.length 0) ⟨st.tmps, st.heap ++ [.box e n p]⟩)
  | .build t parts => someK (partsOf E.P st.tmps (fun i => (match E.P.underlying t with | some (.array _ e) => e | _ => ((fieldP E.P t i).map (·.2)).getD 0)) parts.toList) fun ps =>
    buildK E t ps fun p => K p st
  | .buildSlice t n parts => someK (partsOf E.P st.tmps (fun _ => (elP E.P t).getD 0) parts.toList) fun ps =>
    buildSliceK E dr st t n ps K
  | .load t a => someK (evalO E.P st.tmps 0 a) fun p => loadK E st t p fun v => K v st
  | .store t a x => someK (evalO E.P st.tmps 0 a) fun p => someK (evalO E.P st.tmps t x) fun v => storeK E st t p v fun st => K undefV st
  | .nilCheck x => someK (evalO E.P st.tmps 0 x) fun p => match p with
    | .ptr _ _ => K p st
    | .eptr _ _ _ _ => K p st
    | .rp _ _ _ => K p st
    | .t x => ptrT x .stuck fun _ => K p st
    | _ => .stuck
  | .binOp op t x y t' => someK (evalO E.P st.tmps t x) fun px => someK (evalO E.P st.tmps t' y) fun py => binK E op t t' x y px py fun p => K p st
  | .unOp op t x => someK (evalO E.P st.tmps t x) fun p => unK E op t p fun p => K p st
  | .convert s d x => someK (evalO E.P st.tmps s x) fun p => convK E s d p fun p => K p st
  | .makeInterface t x => bif !concP E.P t then .stuck else someK (evalO E.P st.tmps t x) fun p => someK (p.frz st.heap) fun x => bif p.rows.isEmpty then K (.t (.iface t x)) st else bif dr then .stuck else K (.t (.iface t x)) ⟨st.tmps, freezeRows p.rows st.heap⟩
  | .makeFunc fn first captured => someK (funcOf fn) fun f =>
    someK (evalOs E.P st.tmps (fun _ => 0) 0 first.toList) fun fs => someK (evalOs E.P st.tmps (fun _ => 0) 0 captured.toList) fun cs =>
      bif E.mcap f then K (.fn f fs cs) st else someK (captures st.heap fs) fun (xs, H1) => someK (captures H1 cs) fun (ys, H2) => K (.t (.fn f xs ys)) ⟨st.tmps, H2⟩
  | .makeSlice t n c => someK (evalO E.P st.tmps 0 n) fun n => someK (evalO E.P st.tmps 0 c) fun c => makeSliceK E st t n c K
  | .slice t x lo hi mx => someK (evalO E.P st.tmps t x) fun p => someK (optO E.P st.tmps lo) fun lo => someK (optO E.P st.tmps hi) fun hi => someK (optO E.P st.tmps mx) fun mx =>
    sliceK E dr st t p lo hi mx K
  | .fieldAddr t x f => someK (evalO E.P st.tmps 0 x) fun p => fieldAddrK E t f p fun p => K p st
  | .indexAddr t x ix => someK (evalO E.P st.tmps t x) fun p => someK (evalO E.P st.tmps 0 ix) fun i => indexK E st t p i fun p => K p st
  | .index t x ix => someK (evalO E.P st.tmps t x) fun p => someK (evalO E.P st.tmps 0 ix) fun i => arrK E t p i fun q => K q st
  | .field t x f => someK (evalO E.P st.tmps t x) fun p => fldK E t f p fun q => K q st
  | .extract x i => someK (evalO E.P st.tmps 0 x) fun p => match p with
    | .tup ps => someK ps[i]? fun q => K q st
    | .t x => compT x i fun y => K (.t y) st
    | _ => .stuck
  | .call c => match c.callee with
    | .builtin b => someK (evalOs E.P st.tmps (fun i => c.argTypes.getD i 0) 0 c.args.toList) fun args => builtinK E b c.argTypes.toList args st K
    | .value (.func f) => someK (evalOs E.P st.tmps (fun i => c.argTypes.getD i 0) 0 c.args.toList) fun args => callK E rc dr f args st K
    | .value fo => someK (evalO E.P st.tmps 0 fo) fun p => someK (evalOs E.P st.tmps (fun i => c.argTypes.getD i 0) 0 c.args.toList) fun args => match p with
      | .t x => someK (PV.frzs st.heap args) fun ts => bif (PV.rowss args).isEmpty then apK E rc x ts fun r => K (.t r) st else .stuck
      | .fn f fs cs => callK E rc dr f (fs ++ args ++ cs) st K
      | _ => .stuck
    | _ => .stuck
  | _ => .stuck

def setT (tm : List PV) (d : Option Tmp) (p : PV) : List PV := match d with | some d => tm.set d p | none => tm

/-- Operations in the text's order; a flag with each: it may come up beside another one. -/
def opsK (ops : Array Oper) : List (Oper × Bool) → St → (St → Res β) → Res β
  | [], st, K => K st
  | (o, dr) :: r, st, K =>
    match o.guard with
    | none => opK E rc dr o st fun p st' => opsK ops r ⟨setT st'.tmps o.dst p, st'.heap⟩ K
    | some (j, want) =>
      match (ops[j]?).bind (·.dst) with
      | none => opsK ops r ⟨setT st.tmps o.dst undefV, st.heap⟩ K
      | some d => match st.tmps.getD d .junk with
        | .tup [] => opsK ops r ⟨setT st.tmps o.dst undefV, st.heap⟩ K
        | .t x => bT x fun b =>
          bif b then (bif want then opK E rc dr o ⟨st.tmps.set d (.t (.bool true)), st.heap⟩ fun p st' => opsK ops r ⟨setT st'.tmps o.dst p, st'.heap⟩ K
            else opsK ops r ⟨setT (st.tmps.set d (.t (.bool true))) o.dst undefV, st.heap⟩ K)
          else (bif want then opsK ops r ⟨setT (st.tmps.set d (.t (.bool false))) o.dst undefV, st.heap⟩ K
            else opK E rc dr o ⟨st.tmps.set d (.t (.bool false)), st.heap⟩ fun p st' => opsK ops r ⟨setT st'.tmps o.dst p, st'.heap⟩ K)
        | _ => .stuck
end

/-! ### orders that are left open -/
/-- An operation that leaves memory as it is (in a region that draws its order). -/
def quietOp : Op → Bool
  | .move _ | .assign _ | .pick .. | .build .. | .buildSlice .. | .load .. | .nilCheck _ | .binOp .. | .unOp .. | .convert .. | .makeInterface .. | .slice .. | .fieldAddr ..
  | .indexAddr .. | .index .. | .field .. | .extract .. => true
  | .call c => match c.callee with
    | .builtin b => !(b matches .append) && !(b matches .clear) && !(b matches .copy)
    | _ => true
  | _ => false
/-- In a region that draws its order: which operations have no place of their own; 'none': one of them is not quiet, or names what another one names. -/
def ordered (b : Array Nat) (i j : Nat) : Bool := (b.getD j 0).testBit i || (b.getD i 0).testBit j
def beside (b : Array Nat) (n i : Nat) : Bool := (List.range n).any fun j => !(i == j) && !ordered b i j
def drawOk (ops : Array Oper) : Bool :=
  let b := Region.before ops
  let l := ops.toList.zipIdx
  (l.all fun (o, i) => o.after.all fun e => !Region.binds .any e || decide (e.on < i)) && l.all fun (y, j) => l.all fun (x, i) => !decide (i < j) || (b.getD j 0).testBit i || (!(b.getD i 0).testBit j && quietOp x.op && quietOp y.op && x.apart ops y)
def drawFlags (ops : Array Oper) : List (Oper × Bool) := let b := Region.before ops; ops.toList.zipIdx.map fun (o, i) => (o, beside b ops.size i)

def firstRegion : Code → Nat
  | .region id _ _ => id
  | .seq a _ => firstRegion a
  | .block _ c => firstRegion c
  | .loop c => firstRegion c
  | .cond _ a _ => firstRegion a
  | .scope c => firstRegion c
  | _ => 0

def iterR (B : St → Res (Ex × St)) : Nat → St → Res (Ex × St)
  | 0, _ => .stuck
  | n + 1, st => (B st).bind fun p => p.1.k (iterR B n p.2) (fun i => .ok (.exit i, p.2)) (.ok (.ret, p.2))

def resTmps (fn : Func) : List Nat := fn.results.toList.map fun | .tmp t => t | .cell a _ => a

/-- What a function hands back. -/
def resultsK {β : Type} (E : Env) (st : St) : List ResultVar → (List PV → Res β) → Res β
  | [], K => K []
  | .tmp t :: r, K => resultsK E st r fun ps => K (st.tmps.getD t undefV :: ps)
  | .cell a t :: r, K => loadK E st t (st.tmps.getD a undefV) fun p => resultsK E st r fun ps => K (p :: ps)

section
variable (E : Env) (rc : Caller) (f : FuncId) (fn : Func) (n : Nat) (base : Nat)

def codeK : {β : Type} → Code → St → (Ex → St → Res β) → Res β
  | _, .skip, st, K => K .norm st
  | _, .region _ ops dr, st, K => bif dr then (bif drawOk ops then opsK E rc ops (drawFlags ops) st fun st => K .norm st else .stuck) else opsK E rc ops (ops.toList.map fun o => (o, false)) st fun st => K .norm st
  | _, .seq a b, st, K => codeK a st fun e st => e.k (codeK b st K) (fun i => K (.exit i) st) (K .ret st)
  | _, .cond c a b, st, K => someK (evalO E.P st.tmps 0 c) fun p => match p with
    | .t x => bT x fun v => bif v then codeK a st K else codeK b st K
    | _ => .stuck
  | _, .block id c, st, K => codeK c st fun e st => e.k (K .norm st) (fun i => if i = id then K .norm st else K (.exit i) st) (K .ret st)
  | _, .loop c, st, K =>
    (iterR (fun st => codeK c st fun e st => e.k (.ok (.norm, canon base (E.hint f (firstRegion c)).1 st))
      (fun i => .ok (.exit i, canon base (E.hint f (firstRegion c)).2 st)) (.ok (.ret, canon base (resTmps fn) st))) n (canon base (E.hint f (firstRegion c)).1 st)).bind fun p => K p.1 p.2
  | _, .exit id, st, K => K (.exit id) st
  | _, .scope c, st, K => codeK c st K
  | _, .label _, st, K => K .norm st
  | _, .ret, st, K => K .ret st
  | _, _, _, _ => .stuck
end

/-- One result is itself, several are a tuple. -/
def pvRes : List PV → PV
  | [p] => p
  | ps => .tup ps

def funK {β : Type} (E : Env) (rc : Caller) (n : Nat) (f : FuncId) (args : List PV) (H : List AObj) (K : PV → List AObj → Res β) : Res β :=
  match E.P.funcs[f]? with
  | none => .stuck
  | some fn => match fn.body with
    | none => .stuck
    | some c => codeK E rc f fn n H.length c ⟨args ++ List.replicate (fn.ntmps - args.length) undefV, H⟩ fun e st =>
      e.k (resultsK E st fn.results.toList fun ps => K (pvRes ps) st.heap) (fun _ => .stuck) (resultsK E st fn.results.toList fun ps => K (pvRes ps) st.heap)

/-- What comes of a call whose arguments are trees, at a heap of its own. -/
def outK (E : Env) (f : FuncId) (p : PV) (H : List AObj) : Res T := match E.mode f with
  | 0 => someK (p.frz H) fun x => .ok x
  | 1 => match p with
    | .own l => match H[l]? with
      | some (.row e k xs) => bif retRow E f == some (e, k) then .ok (.sl k xs) else .stuck
      | _ => .stuck
    | .nil e k => bif retRow E f == some (e, k) then .ok (.sl k []) else .stuck
    | .view l k lo hi => match H[l]? with
      | some (.row e k' xs) => bif retRow E f == some (e, k) && k' == k && lo == 0 && decide (hi ≤ xs.length) then .ok (.sl k (xs.take hi)) else .stuck
      | _ => .stuck
    | _ => .stuck
  | _ => match p with
    | .tup (.own l :: ps) => match H[l]? with
      | some (.row e k xs) => bif (PV.rowss ps).contains l then .stuck else someK (PV.frzs H ps) fun ys => bif retRow E f == some (e, k) && ys.length + 1 == retCount E f then .ok (.tup (.sl k xs :: ys)) else .stuck
      | _ => .stuck
    | .tup (.nil e k :: ps) => someK (PV.frzs H ps) fun ys => bif retRow E f == some (e, k) && ys.length + 1 == retCount E f then .ok (.tup (.sl k [] :: ys)) else .stuck
    | _ => .stuck

def callPof (E : Env) (run : (β : Type) → FuncId → List PV → List AObj → (PV → List AObj → Res β) → Res β) (f : FuncId) (ts : List T) : Res T :=
  bif T.wfs ts then (match E.ext f with
    | some e => e ts
    | none => run T f (ts.map .t) [] (outK E f)) else .absurd

def runK (E : Env) : Nat → (β : Type) → FuncId → List PV → List AObj → (PV → List AObj → Res β) → Res β
  | 0, _, _, _, _, _ => .stuck
  | n + 1, _, f, args, H, K => funK E ⟨callPof E (runK E n), runK E n⟩ n f args H K

/-- A call whose arguments are trees. -/
def callP (E : Env) (n : Nat) (f : FuncId) (ts : List T) : Res T := callPof E (runK E n) f ts
def recOf (E : Env) (n : Nat) : Caller := ⟨callP E n, runK E n⟩

end Go.Sim
