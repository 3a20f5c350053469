/- The passing style is natural: what is done with the end may be done behind. -/
import Derived.Test.YtmidmdabmalhgaaD15
namespace Go.Sim
open Go.RowKit
set_option linter.unusedVariables false
set_option linter.unusedSimpArgs false
set_option linter.unusedSectionVars false

structure Strict {β γ : Type} (g : Res β → Res γ) : Prop where
  stuck : g .stuck = .stuck
  absurd : g .absurd = .absurd
theorem Strict.bind {β γ : Type} (k : β → Res γ) : Strict (fun r : Res β => r.bind k) := ⟨rfl, rfl⟩

section
variable {β γ α : Type} {g : Res β → Res γ} (hg : Strict g)
include hg

theorem nat_bind (r : Res α) (k : α → Res β) : g (r.bind k) = r.bind fun a => g (k a) := by cases r <;> simp [hg.stuck, hg.absurd]
theorem nat_cond (b : Bool) (x y : Res β) : g (bif b then x else y) = bif b then g x else g y := by cases b <;> rfl
theorem nat_ite (c : Prop) [Decidable c] (x y : Res β) : g (if c then x else y) = if c then g x else g y := by split <;> rfl
theorem nat_someK (o : Option α) (K : α → Res β) : g (someK o K) = someK o fun a => g (K a) := by cases o <;> simp [someK, hg.stuck]
theorem nat_chk (b : Bool) (r : Res β) : g (chk b r) = chk b (g r) := by cases b <;> simp [chk, hg.stuck]
theorem nat_bT (x : T) (K : Bool → Res β) : g (bT x K) = bT x fun b => g (K b) := by cases x <;> simp [bT, hg.stuck]
theorem nat_iT (k : IntKind) (x : T) (K : Int → Res β) : g (iT k x K) = iT k x fun b => g (K b) := by cases x <;> simp [iT, hg.stuck]; split <;> simp [hg.stuck]
theorem nat_anyT (x : T) (K : Int → Res β) : g (anyT x K) = anyT x fun b => g (K b) := by cases x <;> simp [anyT, hg.stuck]
theorem nat_slT (k : Nat) (x : T) (K : List T → Res β) : g (slT k x K) = slT k x fun b => g (K b) := by cases x <;> simp [slT, hg.stuck]; split <;> simp [hg.stuck]
theorem nat_strT (x : T) (K : ByteArray → Res β) : g (strT x K) = strT x fun b => g (K b) := by cases x <;> simp [strT, hg.stuck]
theorem nat_lenT (x : T) (K : Int → Res β) : g (lenT x K) = lenT x fun b => g (K b) := by cases x <;> simp [lenT, hg.stuck]
theorem nat_sllT (x : T) (K : Int → Res β) : g (sllT x K) = sllT x fun b => g (K b) := by cases x <;> simp [sllT, hg.stuck]
theorem nat_refT (x : T) (K : Nat → T → Res β) : g (refT x K) = refT x fun n b => g (K n b) := by cases x <;> simp [refT, hg.stuck]
theorem nat_compT (x : T) (i : Nat) (K : T → Res β) : g (compT x i K) = compT x i fun b => g (K b) := by cases x <;> simp [compT, hg.stuck]; split <;> simp [hg.stuck]
theorem nat_atT (xs : List T) (i : Int) (K : T → Res β) : g (atT xs i K) = atT xs i fun b => g (K b) := by unfold atT; split; split; all_goals simp [hg.stuck]
theorem nat_chkAll (f : α → Bool) (r : Res β) : ∀ (xs : List α), g (chkAll f xs r) = chkAll f xs (g r)
  | [] => rfl
  | x :: xs => by simp only [chkAll]; rw [nat_chk hg, nat_chkAll f r xs]
theorem nat_ptrT (x : T) (K : T → Res β) : g (ptrT x .stuck K) = ptrT x .stuck fun b => g (K b) := by cases x <;> simp [ptrT, hg.stuck]
theorem nat_eqT (l : List Nat) (x y : T) (K : Bool → Res β) : g (eqT l x y K) = eqT l x y fun b => g (K b) := by unfold eqT; split <;> simp [hg.stuck]

variable {E : Env} {st : St}
theorem nat_loadK (t : TypeId) (p : PV) (K : PV → Res β) : g (loadK E st t p K) = loadK E st t p fun b => g (K b) := by unfold loadK; repeat' (first | rfl | exact Strict.stuck hg | exact Strict.absurd hg | simp only [nat_cond hg, nat_ite hg, nat_chk hg, nat_someK hg, nat_bT hg, nat_iT hg, nat_anyT hg, nat_slT hg, nat_strT hg, nat_lenT hg, nat_sllT hg, nat_refT hg, nat_compT hg, nat_atT hg, nat_chkAll hg, nat_ptrT hg, nat_eqT hg, nat_bind hg, Strict.stuck hg, Strict.absurd hg] | split | (congr 1; funext _))
theorem nat_storeK (t : TypeId) (p v : PV) (K : St → Res β) : g (storeK E st t p v K) = storeK E st t p v fun b => g (K b) := by unfold storeK; repeat' (first | rfl | exact Strict.stuck hg | exact Strict.absurd hg | simp only [nat_cond hg, nat_ite hg, nat_chk hg, nat_someK hg, nat_bT hg, nat_iT hg, nat_anyT hg, nat_slT hg, nat_strT hg, nat_lenT hg, nat_sllT hg, nat_refT hg, nat_compT hg, nat_atT hg, nat_chkAll hg, nat_ptrT hg, nat_eqT hg, nat_bind hg, Strict.stuck hg, Strict.absurd hg] | split | (congr 1; funext _))
theorem nat_elemsK (k : Nat) (p : PV) (K : List T → Res β) : g (elemsK st k p K) = elemsK st k p fun b => g (K b) := by unfold elemsK; repeat' (first | rfl | exact Strict.stuck hg | exact Strict.absurd hg | simp only [nat_cond hg, nat_ite hg, nat_chk hg, nat_someK hg, nat_bT hg, nat_iT hg, nat_anyT hg, nat_slT hg, nat_strT hg, nat_lenT hg, nat_sllT hg, nat_refT hg, nat_compT hg, nat_atT hg, nat_chkAll hg, nat_ptrT hg, nat_eqT hg, nat_bind hg, Strict.stuck hg, Strict.absurd hg] | split | (congr 1; funext _))
theorem nat_indexK (t : TypeId) (p ix : PV) (K : PV → Res β) : g (indexK E st t p ix K) = indexK E st t p ix fun b => g (K b) := by unfold indexK; repeat' (first | rfl | exact Strict.stuck hg | exact Strict.absurd hg | simp only [nat_cond hg, nat_ite hg, nat_chk hg, nat_someK hg, nat_bT hg, nat_iT hg, nat_anyT hg, nat_slT hg, nat_strT hg, nat_lenT hg, nat_sllT hg, nat_refT hg, nat_compT hg, nat_atT hg, nat_chkAll hg, nat_ptrT hg, nat_eqT hg, nat_bind hg, Strict.stuck hg, Strict.absurd hg] | split | (congr 1; funext _))
theorem nat_fieldAddrK (t : TypeId) (f : Nat) (p : PV) (K : PV → Res β) : g (fieldAddrK E t f p K) = fieldAddrK E t f p fun b => g (K b) := by unfold fieldAddrK; repeat' (first | rfl | exact Strict.stuck hg | exact Strict.absurd hg | simp only [nat_cond hg, nat_ite hg, nat_chk hg, nat_someK hg, nat_bT hg, nat_iT hg, nat_anyT hg, nat_slT hg, nat_strT hg, nat_lenT hg, nat_sllT hg, nat_refT hg, nat_compT hg, nat_atT hg, nat_chkAll hg, nat_ptrT hg, nat_eqT hg, nat_bind hg, Strict.stuck hg, Strict.absurd hg] | split | (congr 1; funext _))
theorem nat_arithK (op : BinOp) (k : IntKind) (a b : Int) (K : T → Res β) : g (arithK op k a b K) = arithK op k a b fun x => g (K x) := by cases op <;> simp only [arithK, nat_chk hg, hg.stuck]
theorem nat_shiftK (op : BinOp) (k : IntKind) (a b : Int) (K : T → Res β) : g (shiftK op k a b K) = shiftK op k a b fun x => g (K x) := by cases op <;> simp only [shiftK, nat_chk hg, hg.stuck]
theorem nat_nilT (k : Nat) (x : T) (K : Bool → Res β) : g (nilT k x K) = nilT k x fun b => g (K b) := by unfold nilT; repeat' (first | rfl | exact Strict.stuck hg | exact Strict.absurd hg | simp only [nat_cond hg, nat_ite hg, nat_chk hg, nat_someK hg, nat_bT hg, nat_iT hg, nat_anyT hg, nat_slT hg, nat_strT hg, nat_lenT hg, nat_sllT hg, nat_refT hg, nat_compT hg, nat_atT hg, nat_chkAll hg, nat_ptrT hg, nat_eqT hg, nat_bind hg, Strict.stuck hg, Strict.absurd hg] | split | (congr 1; funext _))
theorem nat_nilK (k : Nat) (p : PV) (K : Bool → Res β) : g (nilK k p K) = nilK k p fun b => g (K b) := by unfold nilK; cases p <;> simp only [nat_cond hg, nat_nilT hg, hg.stuck]
theorem nat_eqK (t : TypeId) (x y : Operand) (px py : PV) (K : Bool → Res β) : g (eqK E t x y px py K) = eqK E t x y px py fun b => g (K b) := by
  unfold eqK; split
  · simp only [nat_cond hg, nat_nilK hg, hg.stuck]
  · repeat' (first | rfl | exact Strict.stuck hg | exact Strict.absurd hg | simp only [nat_cond hg, nat_ite hg, nat_chk hg, nat_someK hg, nat_bT hg, nat_iT hg, nat_anyT hg, nat_slT hg, nat_strT hg, nat_lenT hg, nat_sllT hg, nat_refT hg, nat_compT hg, nat_atT hg, nat_chkAll hg, nat_ptrT hg, nat_eqT hg, nat_bind hg, Strict.stuck hg, Strict.absurd hg] | split | (congr 1; funext _))
theorem nat_binK (op : BinOp) (t t' : TypeId) (x y : Operand) (px py : PV) (K : PV → Res β) : g (binK E op t t' x y px py K) = binK E op t t' x y px py fun b => g (K b) := by
  unfold binK; split
  · split
    · split
      · split <;> simp only [nat_iT hg, nat_shiftK hg, hg.stuck]
      · exact hg.stuck
    · split
      · split <;> simp only [nat_iT hg, nat_shiftK hg, hg.stuck]
      · exact hg.stuck
    · split <;> simp only [nat_iT hg, nat_arithK hg, hg.stuck]
  · split <;> simp only [nat_eqK hg, hg.stuck]
theorem nat_unK (op : UnOp) (t : TypeId) (px : PV) (K : PV → Res β) : g (unK E op t px K) = unK E op t px fun b => g (K b) := by unfold unK; repeat' (first | rfl | exact Strict.stuck hg | exact Strict.absurd hg | simp only [nat_cond hg, nat_ite hg, nat_chk hg, nat_someK hg, nat_bT hg, nat_iT hg, nat_anyT hg, nat_slT hg, nat_strT hg, nat_lenT hg, nat_sllT hg, nat_refT hg, nat_compT hg, nat_atT hg, nat_chkAll hg, nat_ptrT hg, nat_eqT hg, nat_bind hg, Strict.stuck hg, Strict.absurd hg] | split | (congr 1; funext _))
theorem nat_convK (s d : TypeId) (px : PV) (K : PV → Res β) : g (convK E s d px K) = convK E s d px fun b => g (K b) := by unfold convK; repeat' (first | rfl | exact Strict.stuck hg | exact Strict.absurd hg | simp only [nat_cond hg, nat_ite hg, nat_chk hg, nat_someK hg, nat_bT hg, nat_iT hg, nat_anyT hg, nat_slT hg, nat_strT hg, nat_lenT hg, nat_sllT hg, nat_refT hg, nat_compT hg, nat_atT hg, nat_chkAll hg, nat_ptrT hg, nat_eqT hg, nat_bind hg, Strict.stuck hg, Strict.absurd hg] | split | (congr 1; funext _))
theorem nat_partK (s : Nat) (a : Bool) (n o : Nat) (p : PV) (K : PV → Res β) : g (partK s a n o p K) = partK s a n o p fun b => g (K b) := by unfold partK; repeat' (first | rfl | exact Strict.stuck hg | exact Strict.absurd hg | simp only [nat_cond hg, nat_ite hg, nat_chk hg, nat_someK hg, nat_bT hg, nat_iT hg, nat_anyT hg, nat_slT hg, nat_strT hg, nat_lenT hg, nat_sllT hg, nat_refT hg, nat_compT hg, nat_atT hg, nat_chkAll hg, nat_ptrT hg, nat_eqT hg, nat_bind hg, Strict.stuck hg, Strict.absurd hg] | split | (congr 1; funext _))
theorem nat_arrK (t : TypeId) (p i : PV) (K : PV → Res β) : g (arrK E t p i K) = arrK E t p i fun b => g (K b) := by
  unfold arrK; split
  · split
    · simp only [nat_anyT hg, nat_chk hg, nat_partK hg]
    · exact hg.stuck
  · exact hg.stuck
theorem nat_fldK (t : TypeId) (f : Nat) (p : PV) (K : PV → Res β) : g (fldK E t f p K) = fldK E t f p fun b => g (K b) := by
  unfold fldK; split
  · split
    · simp only [nat_partK hg]
    · exact hg.stuck
  · exact hg.stuck
theorem nat_boundK (n d : Nat) (p : Option PV) (K : Nat → Res β) : g (boundK n d p K) = boundK n d p fun b => g (K b) := by unfold boundK; repeat' (first | rfl | exact Strict.stuck hg | exact Strict.absurd hg | simp only [nat_cond hg, nat_ite hg, nat_chk hg, nat_someK hg, nat_bT hg, nat_iT hg, nat_anyT hg, nat_slT hg, nat_strT hg, nat_lenT hg, nat_sllT hg, nat_refT hg, nat_compT hg, nat_atT hg, nat_chkAll hg, nat_ptrT hg, nat_eqT hg, nat_bind hg, Strict.stuck hg, Strict.absurd hg] | split | (congr 1; funext _))
theorem nat_sliceK (dr : Bool) (t : TypeId) (p : PV) (lo hi mx : Option PV) (K : PV → St → Res β) : g (sliceK E dr st t p lo hi mx K) = sliceK E dr st t p lo hi mx fun b s => g (K b s) := by
  unfold sliceK; split
  · split
    · simp only [nat_strT hg, nat_boundK hg]
    · exact hg.stuck
  · split
    · exact hg.stuck
    · split
      · simp only [nat_cond hg, hg.stuck]
        congr 1
        split <;> simp only [nat_boundK hg, nat_cond hg, hg.stuck]
      · simp only [nat_elemsK hg, nat_cond hg, hg.stuck]
        congr 1; congr 1; funext xs
        split <;> simp only [nat_boundK hg, nat_cond hg, hg.stuck]
  · exact hg.stuck
theorem nat_appendK (t t' : TypeId) (s x : PV) (K : PV → St → Res β) : g (appendK E st t t' s x K) = appendK E st t t' s x fun b s => g (K b s) := by
  unfold appendK; split
  · split
    · simp only [nat_cond hg, nat_elemsK hg, hg.stuck]
      congr 1; congr 1; funext ys
      repeat' (first | rfl | exact Strict.stuck hg | exact Strict.absurd hg | simp only [nat_cond hg, nat_ite hg, nat_chk hg, nat_someK hg, nat_bT hg, nat_iT hg, nat_anyT hg, nat_slT hg, nat_strT hg, nat_lenT hg, nat_sllT hg, nat_refT hg, nat_compT hg, nat_atT hg, nat_chkAll hg, nat_ptrT hg, nat_eqT hg, nat_bind hg, Strict.stuck hg, Strict.absurd hg] | split | (congr 1; funext _))
    · exact hg.stuck
  · exact hg.stuck
theorem nat_clearK (t : TypeId) (p : PV) (K : St → Res β) : g (clearK E st t p K) = clearK E st t p fun s => g (K s) := by
  unfold clearK; repeat' (first | rfl | exact Strict.stuck hg | exact Strict.absurd hg | simp only [nat_cond hg, nat_ite hg, nat_chk hg, nat_someK hg, nat_bT hg, nat_iT hg, nat_anyT hg, nat_slT hg, nat_strT hg, nat_lenT hg, nat_sllT hg, nat_refT hg, nat_compT hg, nat_atT hg, nat_chkAll hg, nat_ptrT hg, nat_eqT hg, nat_bind hg, Strict.stuck hg, Strict.absurd hg] | split | (congr 1; funext _))
theorem nat_copyK (t t' : TypeId) (p x : PV) (K : PV → St → Res β) : g (copyK E st t t' p x K) = copyK E st t t' p x fun b s => g (K b s) := by
  unfold copyK; split
  · split
    · simp only [nat_cond hg, nat_elemsK hg, hg.stuck]
      congr 1; congr 1; funext ys
      repeat' (first | rfl | exact Strict.stuck hg | exact Strict.absurd hg | simp only [nat_cond hg, nat_ite hg, nat_chk hg, nat_someK hg, nat_bT hg, nat_iT hg, nat_anyT hg, nat_slT hg, nat_strT hg, nat_lenT hg, nat_sllT hg, nat_refT hg, nat_compT hg, nat_atT hg, nat_chkAll hg, nat_ptrT hg, nat_eqT hg, nat_bind hg, Strict.stuck hg, Strict.absurd hg] | split | (congr 1; funext _))
    · exact hg.stuck
  · exact hg.stuck
theorem nat_makeSliceK (t : TypeId) (n c : PV) (K : PV → St → Res β) : g (makeSliceK E st t n c K) = makeSliceK E st t n c fun b s => g (K b s) := by unfold makeSliceK; repeat' (first | rfl | exact Strict.stuck hg | exact Strict.absurd hg | simp only [nat_cond hg, nat_ite hg, nat_chk hg, nat_someK hg, nat_bT hg, nat_iT hg, nat_anyT hg, nat_slT hg, nat_strT hg, nat_lenT hg, nat_sllT hg, nat_refT hg, nat_compT hg, nat_atT hg, nat_chkAll hg, nat_ptrT hg, nat_eqT hg, nat_bind hg, Strict.stuck hg, Strict.absurd hg] | split | (congr 1; funext _))
theorem nat_fillK (n : Nat) (place : Nat → Option (Nat × Nat)) (K : List PV → Res β) : ∀ (ps : List (Nat × PV)) (cs : List PV), g (fillK n place cs ps K) = fillK n place cs ps fun b => g (K b)
  | [], cs => rfl
  | (i, p) :: r, cs => by
    simp only [fillK]
    split
    · simp only [nat_cond hg, nat_chk hg, nat_fillK n place K r, hg.stuck]
    · exact hg.stuck
theorem nat_buildK (t : TypeId) (ps : List (Nat × PV)) (K : PV → Res β) : g (buildK E t ps K) = buildK E t ps fun b => g (K b) := by
  unfold buildK; split
  · simp only [nat_someK hg, nat_chk hg, nat_fillK hg]
  · exact hg.stuck
theorem nat_buildSliceK (dr : Bool) (t : TypeId) (n : Nat) (ps : List (Nat × PV)) (K : PV → St → Res β) : g (buildSliceK E dr st t n ps K) = buildSliceK E dr st t n ps fun b s => g (K b s) := by unfold buildSliceK; repeat' (first | rfl | exact Strict.stuck hg | exact Strict.absurd hg | simp only [nat_cond hg, nat_ite hg, nat_chk hg, nat_someK hg, nat_bT hg, nat_iT hg, nat_anyT hg, nat_slT hg, nat_strT hg, nat_lenT hg, nat_sllT hg, nat_refT hg, nat_compT hg, nat_atT hg, nat_chkAll hg, nat_ptrT hg, nat_eqT hg, nat_bind hg, Strict.stuck hg, Strict.absurd hg] | split | (congr 1; funext _))
theorem nat_compsK (x : T) (K : List PV → Res β) : ∀ (n i : Nat) (K : List PV → Res β), g (compsK x i n K) = compsK x i n fun b => g (K b)
  | 0, i, K => rfl
  | n + 1, i, K => by
    simp only [compsK, nat_compT hg]
    congr 1; funext y
    exact nat_compsK x K n (i + 1) _
theorem nat_intsK (k : IntKind) : ∀ (ps : List PV) (K : List Int → Res β), g (intsK k ps K) = intsK k ps fun b => g (K b)
  | [], K => rfl
  | p :: r, K => by
    cases p <;> simp only [intsK, hg.stuck, nat_iT hg]
    congr 1; funext n
    exact nat_intsK k r _

/-- A callee may be run ahead. -/
def Caller.Nat (rc : Caller) : Prop := ∀ (β γ : Type) (g : Res β → Res γ), Strict g → ∀ (f : FuncId) (args : List PV) (H : List AObj) (K : PV → List AObj → Res β), g (rc.go β f args H K) = rc.go γ f args H fun r H' => g (K r H')
theorem nat_inplK (dr : Bool) (f : FuncId) (gf : List AObj → List T → List PV → Res (List T)) (args : List PV) (K : PV → St → Res β) : g (inplK E dr f gf args st K) = inplK E dr f gf args st fun b s => g (K b s) := by unfold inplK; repeat' (first | rfl | exact Strict.stuck hg | exact Strict.absurd hg | simp only [nat_cond hg, nat_ite hg, nat_chk hg, nat_someK hg, nat_bT hg, nat_iT hg, nat_anyT hg, nat_slT hg, nat_strT hg, nat_lenT hg, nat_sllT hg, nat_refT hg, nat_compT hg, nat_atT hg, nat_chkAll hg, nat_ptrT hg, nat_eqT hg, nat_bind hg, Strict.stuck hg, Strict.absurd hg] | split | (congr 1; funext _))
theorem nat_trimK (p : PV) (K : PV → St → Res β) : g (trimK p st K) = trimK p st fun b s => g (K b s) := by unfold trimK; repeat' (first | rfl | exact Strict.stuck hg | exact Strict.absurd hg | simp only [nat_cond hg, nat_ite hg, nat_chk hg, nat_someK hg, nat_bT hg, nat_iT hg, nat_anyT hg, nat_slT hg, nat_strT hg, nat_lenT hg, nat_sllT hg, nat_refT hg, nat_compT hg, nat_atT hg, nat_chkAll hg, nat_ptrT hg, nat_eqT hg, nat_bind hg, Strict.stuck hg, Strict.absurd hg] | split | (congr 1; funext _))
variable {rc : Caller} (hrc : rc.Nat)
include hrc
theorem nat_callK (dr : Bool) (f : FuncId) (args : List PV) (K : PV → St → Res β) : g (callK E rc dr f args st K) = callK E rc dr f args st fun b s => g (K b s) := by
  unfold callK; split
  · exact nat_inplK hg _ _ _ _ _
  split
  · simp only []
    split
    · simp only [nat_bind hg, nat_cond hg, nat_chk hg, hg.stuck]
    · simp only [nat_bind hg, nat_cond hg, nat_someK hg, nat_slT hg, hg.stuck]
    · simp only [nat_bind hg, nat_cond hg, nat_someK hg, nat_slT hg, nat_compT hg, nat_compsK hg, hg.stuck]
      congr 1; congr 1; funext x; congr 1; funext y; congr 1; funext z; congr 1; funext u
      exact nat_compsK hg _ (fun _ => .stuck) _ _ _
  · rw [nat_cond hg, hg.stuck, hrc _ _ g hg]
    simp only [nat_trimK hg]
theorem nat_apK (x : T) (ts : List T) (K : T → Res β) : g (apK E rc x ts K) = apK E rc x ts fun b => g (K b) := by unfold apK; repeat' (first | rfl | exact Strict.stuck hg | exact Strict.absurd hg | simp only [nat_cond hg, nat_ite hg, nat_chk hg, nat_someK hg, nat_bT hg, nat_iT hg, nat_anyT hg, nat_slT hg, nat_strT hg, nat_lenT hg, nat_sllT hg, nat_refT hg, nat_compT hg, nat_atT hg, nat_chkAll hg, nat_ptrT hg, nat_eqT hg, nat_bind hg, Strict.stuck hg, Strict.absurd hg] | split | (congr 1; funext _))
theorem nat_builtinK (b : Builtin) (tys : List TypeId) (args : List PV) (K : PV → St → Res β) : g (builtinK E b tys args st K) = builtinK E b tys args st fun b s => g (K b s) := by
  unfold builtinK; split
  · repeat' (first | rfl | exact Strict.stuck hg | exact Strict.absurd hg | simp only [nat_cond hg, nat_ite hg, nat_chk hg, nat_someK hg, nat_bT hg, nat_iT hg, nat_anyT hg, nat_slT hg, nat_strT hg, nat_lenT hg, nat_sllT hg, nat_refT hg, nat_compT hg, nat_atT hg, nat_chkAll hg, nat_ptrT hg, nat_eqT hg, nat_bind hg, Strict.stuck hg, Strict.absurd hg] | split | (congr 1; funext _))
  · exact nat_appendK hg _ _ _ _ _
  · exact nat_clearK hg _ _ _
  · exact nat_copyK hg _ _ _ _ _
  · simp only [nat_someK hg, nat_iT hg, nat_intsK hg]
  · simp only [nat_someK hg, nat_iT hg, nat_intsK hg]
  · exact hg.stuck
theorem nat_opK (dr : Bool) (o : Oper) (K : PV → St → Res β) : g (opK E rc dr o st K) = opK E rc dr o st fun b s => g (K b s) := by
  unfold opK
  split
  all_goals simp only [nat_someK hg, nat_chk hg, nat_cond hg, nat_loadK hg, nat_storeK hg, nat_binK hg, nat_unK hg, nat_convK hg, nat_buildK hg, nat_buildSliceK hg, nat_makeSliceK hg, nat_sliceK hg, nat_fieldAddrK hg, nat_indexK hg, nat_arrK hg, nat_fldK hg, hg.stuck]
  · congr 1; funext p; cases p <;> first | exact hg.stuck | (simp only [nat_bT hg, nat_cond hg, nat_someK hg])
  · congr 1; funext p; cases p <;> first | exact hg.stuck | rfl | (simp only [nat_ptrT hg])
  · congr 1; funext p; cases p <;> first | exact hg.stuck | simp only [nat_someK hg, nat_compT hg]
  · split
    · simp only [nat_someK hg, nat_builtinK hg hrc]
    · simp only [nat_someK hg, nat_callK hg hrc]
    · simp only [nat_someK hg]
      congr 1; funext p; congr 1; funext args
      cases p <;> first | exact hg.stuck | exact nat_callK hg hrc _ _ _ _ | simp only [nat_someK hg, nat_cond hg, nat_apK hg hrc, hg.stuck]
    · exact hg.stuck

theorem nat_opsK (ops : Array Oper) : ∀ (l : List (Oper × Bool)) (st : St) (K : St → Res β), g (opsK E rc ops l st K) = opsK E rc ops l st fun s => g (K s)
  | [], st, K => rfl
  | (o, dr) :: r, st, K => by
    simp only [opsK]
    split
    · rw [nat_opK hg hrc]; congr 1; funext p s; exact nat_opsK ops r _ K
    · split
      · exact nat_opsK ops r _ K
      · split
        · exact nat_opsK ops r _ K
        · simp only [nat_bT hg, nat_cond hg, nat_opK hg hrc, nat_opsK ops r _ K]
        · exact hg.stuck
end
end Go.Sim
