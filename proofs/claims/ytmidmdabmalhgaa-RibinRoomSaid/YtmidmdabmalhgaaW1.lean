/- How a row of this seat is closed: arguments read as they read; a law that comes to 'true'. -/
import Derived.Test.YtmidmdabmalhgaaW0
import Derived.Test.YtmidmdabmalhgaaG2
namespace Go.Sim
open Go.RowKit Go.Proofs Go.ChangeShapes
set_option linter.unusedVariables false
set_option linter.unusedSimpArgs false
set_option maxRecDepth 100000

theorem trodAll_below {H : Type} {enc : TypeId × Value → H} {P : Program} (hl : laidOutB P = true) {W W' : World} (hb : Below W.heap.size W W') : ∀ {ts : List TypeId} {vs : List Value} {ds : List (DataW H)} {ps : List MemPlace},
    (∀ t ∈ ts, P.readableRec t = true ∧ t < P.types.size) → DataW.TrodAll enc P W 0 (fun _ => true) true ts vs ds ps → (∀ x ∈ ps, x.block < W.heap.size) → DataW.TrodAll enc P W' 0 (fun b => decide (b < W.heap.size)) true ts vs ds ps
  | [], vs, ds, ps, _, h, _ => by
    obtain ⟨rfl, rfl, rfl⟩ := trodAll_nil h
    exact h
  | t :: ts, vs, ds, ps, hr, h, hlt => by
    obtain ⟨v, vs', d, ds', p, q, rfl, rfl, rfl, hd, hrest⟩ := trodAll_cons h
    exact ⟨p, q, Below.trod hl (hr t List.mem_cons_self).1 (hr t List.mem_cons_self).2 hd hb (fun x hx => hlt x (List.mem_append_left _ hx)), trodAll_below hl hb (fun s hs => hr s (List.mem_cons_of_mem _ hs)) hrest (fun x hx => hlt x (List.mem_append_right _ hx)), rfl⟩

/-- The arguments' data say what they are, one by one. -/
theorem trodAll_get {H : Type} {enc : TypeId × Value → H} {P : Program} {w : World} {sp : Nat → Bool} {D : Nat} : ∀ {ts : List TypeId} {vs : List Value} {ds : List (DataW H)} {ps : List MemPlace}, (∀ t ∈ ts, statT P D t = true) → DataW.TrodAll enc P w 0 sp true ts vs ds ps →
    (∀ n ∈ DataW.weightsEach P ts ds, n ≤ reachBytes) → vs.length = ts.length ∧ ∀ (i : Nat) (t : TypeId) (v : Value), ts[i]? = some t → vs[i]? = some v → ∃ xs, ShP P D t xs ∧ RdC (fun b => b < w.heap.size) w xs v.cells.toList
  | [], vs, ds, ps, _, h, _ => by
    obtain ⟨rfl, rfl, rfl⟩ := trodAll_nil h
    exact ⟨rfl, by simp⟩
  | t :: ts, vs, ds, ps, hr, h, hw => by
    obtain ⟨v, vs', d, ds', p, q, rfl, rfl, rfl, hd, hrest⟩ := trodAll_cons h
    obtain ⟨fuel, hf⟩ := hd
    simp only [DataW.weightsEach, List.mem_append] at hw
    obtain ⟨g1, g2⟩ := trodAll_get (fun s hs => hr s (List.mem_cons_of_mem _ hs)) hrest (fun n hn => hw n (.inr hn))
    refine ⟨by simp [g1], fun i u w' h1 h2 => ?_⟩
    cases i with
    | zero =>
      simp at h1 h2
      subst h1; subst h2
      exact trod_shp D t (hr t List.mem_cons_self) fuel _ d p hf (fun n hn => hw n (.inl hn))
    | succ i => exact g2 i u w' (by simpa using h1) (by simpa using h2)

/-- A value of one cell. -/
theorem rd_one {F : Nat → Prop} {w : World} {x : T} {v : Value} (h : RdC F w [x] v.cells.toList) (h1 : v.oneCell' = true) : Rd F w x v := by
  rw [cells_one h1] at h
  exact h.2.2 0 x v rfl rfl
/-- A struct. -/
theorem rd_agg {F : Nat → Prop} {w : World} {xs : List T} {cs : Array Value} (h : RdC F w xs (Value.agg cs).cells.toList) : Rd F w (.agg xs) (.agg cs) := by
  obtain ⟨a, b, c⟩ := h
  have := Rd.agg (F := F) (w := w) (cs := xs) (vs := cs.toList) (by simpa [Value.cells] using a.symm) (by simpa [Value.cells] using b) (fun i x v h1 h2 => c i x v h1 (by simpa [Value.cells] using h2))
  simpa using this
theorem ok_slice {P : Program} {w : World} {base : Nat} {t e : TypeId} {v : Value} (hu : P.underlying t = some (.slice e)) (h : Value.okWide P w .any base t v) : v.oneCell' = true := by
  simp only [Value.okWide, hu, Cell.okWide, Cell.ok] at h
  cases v <;> simp_all [Value.oneCell']
theorem ok_int {P : Program} {w : World} {base : Nat} {t : TypeId} {k : IntKind} {v : Value} (hu : P.underlying t = some (.int k)) (h : Value.okWide P w .any base t v) : v.oneCell' = true := by
  simp only [Value.okWide, hu, Cell.okWide, Cell.ok] at h
  cases v <;> simp_all [Value.oneCell']
theorem ok_struct {P : Program} {w : World} {base : Nat} {t : TypeId} {v : Value} {ts : List TypeId} (hu : tyF P t = some ts) (h : Value.okWide P w .any base t v) : ∃ cs, v = .agg cs := by
  unfold tyF at hu
  split at hu
  · rename_i fs e
    simp only [Value.okWide, e] at h
    obtain ⟨cs, h, _⟩ := h
    exact ⟨cs, h⟩
  · cases hu

theorem st40 : statT Try.prog 8 40 = true := by kernel_rfl
theorem st45 : statT Try.prog 8 45 = true := by kernel_rfl
theorem st3 : statT Try.prog 8 3 = true := by kernel_rfl
theorem u4 : Try.prog.underlying 4 = some .bool := by kernel_rfl

/-- A law that comes to 'true' leaves all as it was. -/
theorem law_post {H : Type} {enc : TypeId × Value → H} {f : FuncId} {fn : Func} {s : ChangeSpec} {apart : Bool} {W : World} {args : Array Value} {ds gs : List (DataW H)} {before : List MemPlace} (M : Nat) (ts : List T)
    (hlaid : laidOutB Try.prog = true) (hread : ∀ t ∈ fn.params.toList, Try.prog.readableRec t = true ∧ t < Try.prog.types.size) (hres : fn.resultTypes = #[4]) (hvars : s.vars = [])
    (hW : DataW.Whole enc Try.prog fn.params.toList s.vars apart W args.toList ds gs before) (hspec : (s.fn H (ds ++ gs)).results = [.lit (.bool true)] ∧ (s.fn H (ds ++ gs)).args = ds ∧ (s.fn H (ds ++ gs)).vars = [])
    (hx : env.ext f = none) (hm : env.mode f = 0) (hc : callP env M f ts = .ok (.bool true)) (hl : args.toList.length = ts.length) (ha : ∀ (i : Nat) (x : T) (v : Value), ts[i]? = some x → args.toList[i]? = some v → Rd (fun b => b < W.heap.size) W x v) :
    Calls Try.prog f args W fun e W' => ∃ v, e = .returned v ∧ s.post enc Try.prog fn apart true false false W args v W' := by
  have h := callP_calls (F := fun b => b < W.heap.size) (w := W) (vals := args.toList) env_ok hx (by rw [hc]; simp) hl ha (fun b hb => hb)
  rw [Array.toArray_toList] at h
  refine Calls.mono h ?_
  rintro e W' ⟨v, rfl, x, F', h1, h2, h3⟩
  rw [hc] at h1
  injection h1 with h1
  subst h1
  have hv : v = .bool true := by
    cases h2 with
    | frozen _ h => cases h; rfl
  subst hv
  refine ⟨_, rfl, ?_⟩
  have hb : Below W.heap.size W W' := ⟨h3.os, h3.tape, h3.output, h3.size, h3.old⟩
  obtain ⟨p, q, hA, hV, rfl, hz, hn⟩ := hW
  have hlt : ∀ x ∈ p ++ q, x.block < W.heap.size := fun x hx => (DataW.Whole.lt ⟨p, q, hA, hV, rfl, hz, hn⟩) x hx
  have hV' := hV
  rw [hvars] at hV'
  obtain ⟨rfl, rfl⟩ := trodVars_none hV'
  obtain ⟨s1, s2, s3⟩ := hspec
  refine ⟨ds, [], p ++ [], [], p, [], ⟨p, [], hA, hV, rfl, hz, hn⟩, ?_, ?_, ?_, hb.frame _, fun h => by cases h⟩
  · rw [hres, s1]
    exact trodAll_mk1 (shut_bool u4 true)
  · rw [s2]
    exact trodAll_below hlaid hb hread hA (fun x hx => hlt x (by simpa using hx))
  · rw [s3]
    rw [hvars] at hV ⊢
    exact hV
theorem arr1 {args : Array Value} (h : args.toList.length = 1) : ∃ a, args = #[a] := by
  obtain ⟨l⟩ := args
  match l, h with
  | [a], _ => exact ⟨a, rfl⟩
theorem arr2 {args : Array Value} (h : args.toList.length = 2) : ∃ a b, args = #[a, b] := by
  obtain ⟨l⟩ := args
  match l, h with
  | [a, b], _ => exact ⟨a, b, rfl⟩
theorem arr3 {args : Array Value} (h : args.toList.length = 3) : ∃ a b c, args = #[a, b, c] := by
  obtain ⟨l⟩ := args
  match l, h with
  | [a, b, c], _ => exact ⟨a, b, c, rfl⟩
theorem arr4 {args : Array Value} (h : args.toList.length = 4) : ∃ a b c d, args = #[a, b, c, d] := by
  obtain ⟨l⟩ := args
  match l, h with
  | [a, b, c, d], _ => exact ⟨a, b, c, d, rfl⟩
theorem lst1 {α : Type} {l : List α} (h : l.length = 1) : ∃ a, l = [a] := by
  match l, h with
  | [a], _ => exact ⟨a, rfl⟩
theorem lst2 {α : Type} {l : List α} (h : l.length = 2) : ∃ a b, l = [a, b] := by
  match l, h with
  | [a, b], _ => exact ⟨a, b, rfl⟩
theorem lst3 {α : Type} {l : List α} (h : l.length = 3) : ∃ a b c, l = [a, b, c] := by
  match l, h with
  | [a, b, c], _ => exact ⟨a, b, c, rfl⟩
theorem lst4 {α : Type} {l : List α} (h : l.length = 4) : ∃ a b c d, l = [a, b, c, d] := by
  match l, h with
  | [a, b, c, d], _ => exact ⟨a, b, c, d, rfl⟩
theorem trodAll_data {H : Type} {enc : TypeId × Value → H} {P : Program} {w : World} {base : Nat} {sp : Nat → Bool} {held : Bool} : ∀ {ts : List TypeId} {vs : List Value} {ds : List (DataW H)} {ps : List MemPlace}, DataW.TrodAll enc P w base sp held ts vs ds ps → ds.length = ts.length
  | [], vs, ds, ps, h => by
    obtain ⟨rfl, rfl, rfl⟩ := trodAll_nil h
    rfl
  | t :: ts, vs, ds, ps, h => by
    obtain ⟨v, vs', d, ds', p, q, rfl, rfl, rfl, hd, hrest⟩ := trodAll_cons h
    simp [trodAll_data hrest]
theorem rds1 {F : Nat → Prop} {w : World} {x0 : T} {v0 : Value} (h0 : Rd F w x0 v0) : ∀ (i : Nat) (x : T) (v : Value), [x0][i]? = some x → (#[v0] : Array Value).toList[i]? = some v → Rd F w x v := by
  intro i x v h1 h2
  match i with
  | 0 => cases h1; cases h2; exact h0
  | _ + 1 => cases h1
theorem rds2 {F : Nat → Prop} {w : World} {x0 x1 : T} {v0 v1 : Value} (h0 : Rd F w x0 v0) (h1 : Rd F w x1 v1) : ∀ (i : Nat) (x : T) (v : Value), [x0, x1][i]? = some x → (#[v0, v1] : Array Value).toList[i]? = some v → Rd F w x v := by
  intro i x v e1 e2
  match i with
  | 0 => cases e1; cases e2; exact h0
  | 1 => cases e1; cases e2; exact h1
  | _ + 2 => cases e1
theorem rds3 {F : Nat → Prop} {w : World} {x0 x1 x2 : T} {v0 v1 v2 : Value} (h0 : Rd F w x0 v0) (h1 : Rd F w x1 v1) (h2 : Rd F w x2 v2) : ∀ (i : Nat) (x : T) (v : Value), [x0, x1, x2][i]? = some x → (#[v0, v1, v2] : Array Value).toList[i]? = some v → Rd F w x v := by
  intro i x v e1 e2
  match i with
  | 0 => cases e1; cases e2; exact h0
  | 1 => cases e1; cases e2; exact h1
  | 2 => cases e1; cases e2; exact h2
  | _ + 3 => cases e1
theorem rds4 {F : Nat → Prop} {w : World} {x0 x1 x2 x3 : T} {v0 v1 v2 v3 : Value} (h0 : Rd F w x0 v0) (h1 : Rd F w x1 v1) (h2 : Rd F w x2 v2) (h3 : Rd F w x3 v3) : ∀ (i : Nat) (x : T) (v : Value), [x0, x1, x2, x3][i]? = some x → (#[v0, v1, v2, v3] : Array Value).toList[i]? = some v → Rd F w x v := by
  intro i x v e1 e2
  match i with
  | 0 => cases e1; cases e2; exact h0
  | 1 => cases e1; cases e2; exact h1
  | 2 => cases e1; cases e2; exact h2
  | 3 => cases e1; cases e2; exact h3
  | _ + 4 => cases e1
end Go.Sim
