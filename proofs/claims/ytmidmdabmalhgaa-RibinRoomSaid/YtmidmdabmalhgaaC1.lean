/- Trees of values (T), slot values (PV), objects of a call's own (AObj), results of an interpreter (Res). -/
import Derived.Maps.AppendAt
import Derived.Below
import Derived.KernelRfl
import Derived.Orders
import Derived.Laws.StructEq
import Derived.Laws.CopyRow
import Derived.Laws.Slices
namespace Go.Sim
open Go.RowKit

/-- A frozen tree: a value and all that it leads to, which nobody writes any more. -/
inductive T where
  | int (k : IntKind) (n : Int)
  | bool (b : Bool)
  | str (s : ByteArray)
  | nilp
  | ref (x : T)
  | sl (k : Nat) (xs : List T)
  | agg (cs : List T)
  | fn (f : FuncId) (fs cs : List T)
  | nilfn
  | iface (t : TypeId) (v : T)
  | nilif
  | tup (xs : List T)
  deriving Inhabited

def T.cells : T → List T
  | .agg cs => cs
  | x => [x]

def T.isAgg : T → Bool
  | .agg _ => true
  | _ => false

/-- No slice is longer, no string wider. -/
def big : Nat := 140737488355328

def kindOk (k : IntKind) (n : Int) : Bool := decide (k.min ≤ n) && decide (n ≤ k.max)

mutual
def T.wf : T → Bool
  | .int k n => kindOk k n
  | .bool _ => true
  | .str s => decide (s.size ≤ big)
  | .nilp => true
  | .ref x => x.wf
  | .sl _ xs => decide (xs.length ≤ big) && T.wfs xs
  | .agg cs => T.wfs cs
  | .fn _ fs cs => T.wfs fs && T.wfs cs
  | .nilfn => true
  | .iface _ v => v.wf
  | .nilif => true
  | .tup xs => T.wfs xs
def T.wfs : List T → Bool
  | [] => true
  | x :: xs => x.wf && T.wfs xs
end

theorem T.wfs_iff : ∀ {xs : List T}, T.wfs xs = true ↔ ∀ x ∈ xs, x.wf = true
  | [] => by simp [T.wfs]
  | x :: xs => by simp [T.wfs, T.wfs_iff (xs := xs)]

/-- No memory behind it. -/
def T.scalar : T → Bool
  | .int _ _ | .bool _ | .str _ | .nilp | .nilfn | .nilif => true
  | _ => false
def T.plain : T → Bool
  | .tup xs => xs.all T.scalar
  | .agg xs => xs.all T.scalar
  | x => x.scalar

/-- What a slot holds. -/
inductive PV where
  | t (x : T)
  | nil (e : TypeId) (k : Nat)
  | agg (cs : List PV)
  | ptr (l o : Nat)
  | own (l : Nat)
  | eptr (l k i o : Nat)
  | view (l k lo hi : Nat)
  | fn (f : FuncId) (fs cs : List PV)
  | tup (xs : List PV)
  | full (k : Nat) (xs : List T)
  | rp (k : Nat) (x : T) (o : Nat)
  | junk
  deriving Inhabited

inductive AObj where
  | box (e : TypeId) (n : Nat) (v : PV)
  | fbox (e : TypeId) (n : Nat) (v : T)
  | row (e : TypeId) (k : Nat) (xs : List T)
  | frow (e : TypeId) (k : Nat) (xs : List T)
  | vec (e : TypeId) (xs : List PV)
  | dead
  deriving Inhabited

structure St where
  tmps : List PV
  heap : List AObj

inductive Res (α : Type) where
  | ok (a : α)
  | absurd
  | stuck
  deriving Inhabited

def Res.bind {α β : Type} : Res α → (α → Res β) → Res β
  | .ok a, f => f a
  | .absurd, _ => .absurd
  | .stuck, _ => .stuck

/-- 'It is r, or cannot be.' -/
def Res.le {α : Type} : Res α → α → Prop
  | .ok a, b => a = b
  | .absurd, _ => True
  | .stuck, _ => False

@[simp] theorem Res.bind_ok {α β : Type} (a : α) (f : α → Res β) : (Res.ok a).bind f = f a := rfl
@[simp] theorem Res.bind_absurd {α β : Type} (f : α → Res β) : (Res.absurd : Res α).bind f = .absurd := rfl
@[simp] theorem Res.bind_stuck {α β : Type} (f : α → Res β) : (Res.stuck : Res α).bind f = .stuck := rfl
theorem Res.bind_assoc {α β γ : Type} (r : Res α) (f : α → Res β) (g : β → Res γ) : (r.bind f).bind g = r.bind fun a => (f a).bind g := by
  cases r <;> rfl

end Go.Sim
