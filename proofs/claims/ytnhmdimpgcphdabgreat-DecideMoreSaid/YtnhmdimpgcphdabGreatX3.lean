/- The texts of a proof, one behind the other: an interpreter and its soundness, what the functions of the program answer, and plain laws on that. -/
import Derived.Test.YtnhmdimpgcphdabGreatX2
import Derived.Test.YtnhmdimpgcphdabGreatK3
import Derived.Lib.QuietBelow
import Derived.Test.YtnhmdimpgcphdabGreatX1
set_option linter.unusedVariables false
set_option linter.unusedSimpArgs false
set_option linter.unnecessarySimpa false
set_option linter.unusedSectionVars false
/- slices.SortFunc, of choices, by their prefixes: what its caller leans on. -/
namespace Go.Sim
open Go.RowKit Go.Proofs Go.Sort Go.Shelf
set_option linter.unusedVariables false
set_option linter.unusedSimpArgs false
set_option linter.unusedSectionVars false
set_option maxRecDepth 100000
/-- Cells, and the choice that they read as. -/
def CellsC (F : Nat → Prop) (w : World) : Type := { p : List Value × Ch // Rd F w p.2.t (.agg p.1.toArray) }
section
variable {F : Nat → Prop} {w : World}
def CellsC.mk (v : List Value) (c : Ch) (h : Rd F w c.t (.agg v.toArray)) : CellsC F w := ⟨(v, c), h⟩
def CellsC.enc (x : CellsC F w) : List Value := x.1.1
def CellsC.key (x : CellsC F w) : Ch := x.1.2
theorem CellsC.rd (x : CellsC F w) : Rd F w x.key.t (.agg x.enc.toArray) := x.2
theorem rd_parts {c : Ch} {v : List Value} (h : Rd F w c.t (.agg v.toArray)) : v.length = 8 ∧ (∀ u ∈ v, u.oneCell' = true) ∧ ∀ (i : Nat) (x : T) (u : Value), c.t.cells[i]? = some x → v[i]? = some u → Rd F w x u := by
  unfold Ch.t at h
  generalize hv : v.toArray = a at h
  cases h with
  | agg hl h1 hr =>
    have := congrArg Array.toList hv
    simp only at this
    subst this
    exact ⟨hl, h1, hr⟩
def cfC (x y : CellsC F w) : Int := cmpP x.key.x y.key.x
theorem cfC_swo : SWO (ltOf (cfC (F := F) (w := w))) where
  irrefl x := by unfold ltOf cfC; rw [decide_eq_false_iff_not, cmpP_lt]; exact ltP_irrefl _
  trans x y z h1 h2 := by
    unfold ltOf cfC at *
    rw [decide_eq_true_eq, cmpP_lt] at *
    exact ltP_trans h1 h2
  ntrans x y z h1 h2 := by
    unfold ltOf cfC at *
    rw [decide_eq_false_iff_not, cmpP_lt] at *
    unfold ltP at *
    omega
end
theorem sortW_heap {α : Type} [Inhabited α] {enc : α → List Value} {k : Nat} {w : World} {g m : Nat} {dk : Array α} {os : Array Obj} {b : Nat} (hb : b < w.heap.size) (hne : b ≠ g) : (sortWorldK enc k w g 0 m dk os).heap[b]? = w.heap[b]? := by
  unfold sortWorldK grow putRowK putRow mapBlock
  show (((Sort.ahead w m).heap.modify g _) ++ os)[b]? = _
  rw [Array.getElem?_append_left (by simpa [Sort.ahead] using hb), Array.getElem?_modify, if_neg (fun h => hne h.symm)]
  rfl
theorem sortW_row {α : Type} [Inhabited α] {enc : α → List Value} {k : Nat} {w : World} {g m : Nat} {dk : Array α} {os : Array Obj} {cur : Array Value} {e : TypeId} {fr : Nat × Nat} (hg : w.heap[g]? = some (.cells cur e fr)) :
    (sortWorldK enc k w g 0 m dk os).heap[g]? = some (.cells (putCells id 0 (flatK enc k dk) cur) e fr) := by
  unfold sortWorldK grow putRowK putRow mapBlock
  show (((Sort.ahead w m).heap.modify g _) ++ os)[g]? = _
  have hlt := (Array.getElem?_eq_some_iff.1 hg).1
  rw [Array.getElem?_append_left (by simpa [Sort.ahead] using hlt), Array.getElem?_modify, if_pos rfl]
  show Option.map _ w.heap[g]? = _
  rw [hg]; rfl
variable [Lv]
theorem sort_choice (he : EnvOk env) {l : List Ch} (hne : l ≠ []) (ho : okL Ch.ok l) : SrtOk env 29 49 8 (l.map Ch.t) [.fn 30 [] []] fun ys => ∃ m : List Ch, ys = m.map Ch.t ∧ m.Perm l ∧ m.Pairwise fun a b => ¬ cmpP b.x a.x < 0 := by
  intro F κ w H i vals s hH hl hr
  obtain ⟨cs, o1, o2, o3, o4, o5⟩ := s.ro i _ hH
  have hn : (l.map Ch.t).length = l.length := by simp
  rw [hn] at o1 o2
  have hcs : cs.length = l.length * 8 := o1.1
  have hpos : 0 < l.length := List.length_pos_iff.2 hne
  rcases o1.2 with ⟨_, h0⟩ | ⟨g, cap, cur, e1, _, e3, e4, e5, e6, e7⟩
  · omega
  have hglt : g < w.heap.size := (Array.getElem?_eq_some_iff.1 e3).1
  have hgF : ¬ F g := (s.lt i _ g hH (by simp [blk, e1, Value.ownBlock])).2
  -- the closure
  obtain ⟨v, rfl⟩ : ∃ v, vals = [v] := by
    match vals, hl with
    | [v], _ => exact ⟨v, rfl⟩
  have hv : v = .func (.func 30) #[] #[] := by
    have := hr 0 _ v rfl rfl
    cases this with
    | fn hlf hlc _ _ => simp at hlf hlc; subst hlf; subst hlc; rfl
  subst hv
  -- the elements
  have hchunk : ∀ j (hj : j < l.length), Rd F w l[j].t (.agg ((cs.drop (j * 8)).take 8).toArray) := fun j hj => by
    have hlen : ((cs.drop (j * 8)).take 8).length = 8 := by rw [List.length_take, List.length_drop, hcs]; omega
    have hx : (l.map Ch.t)[j]? = some l[j].t := map_get (List.getElem?_eq_getElem hj)
    unfold Ch.t at hx ⊢
    refine .agg hlen (fun u hu => o4 u (List.mem_of_mem_drop (List.mem_of_mem_take hu))) fun q x u hq hu => ?_
    have hq8 : q < 8 := by have := (List.getElem?_eq_some_iff.1 hq).1; simpa using this
    refine o5 j _ q x u hx hq ?_
    rw [List.getElem?_take, if_pos hq8, List.getElem?_drop] at hu
    exact hu
  let dl : List (CellsC F w) := List.ofFn fun j : Fin l.length => CellsC.mk ((cs.drop (j * 8)).take 8) l[j] (hchunk j j.2)
  have hdl : dl.length = l.length := List.length_ofFn
  have hdget : ∀ j (hj : j < l.length), dl[j]? = some (CellsC.mk ((cs.drop (j * 8)).take 8) l[j] (hchunk j hj)) := fun j hj => by
    show (List.ofFn _)[j]? = _
    rw [List.getElem?_ofFn, dif_pos hj]
    rfl
  have hkeys : dl.map CellsC.key = l := by
    refine List.ext_getElem? fun j => ?_
    rw [List.getElem?_map]
    rcases Nat.lt_or_ge j l.length with hj | hj
    · rw [hdget j hj, List.getElem?_eq_getElem hj]; rfl
    · rw [List.getElem?_eq_none (by rw [hdl]; exact hj), List.getElem?_eq_none hj]; rfl
  haveI : Inhabited (CellsC F w) := ⟨CellsC.mk ((cs.drop (0 * 8)).take 8) l[0] (hchunk 0 hpos)⟩
  have hsz : dl.toArray.size = l.length := by simp [hdl]
  have eg : ∀ args w, (callFunc 30 args).run Tryz.prog w = .ok (.enter 30 args) w := enters_of Tryz.func30 (by kernel_rfl) rfl
  have hflat : ∀ (dk : Array (CellsC F w)) j q, j < dk.size → q < 8 → (flatK CellsC.enc 8 dk)[j * 8 + q]? = (dk[j]!).enc[q]? := fun dk j q hj hq => by
    have hlt : j * 8 + q < dk.size * 8 := by omega
    have h8 := (rd_parts (dk[j]!).rd).1
    have h1 := get_flatK CellsC.enc 8 dk (j * 8 + q) hlt
    rw [show (j * 8 + q) / 8 = j by omega, show (j * 8 + q) % 8 = q by omega] at h1
    rw [Array.getElem?_eq_getElem (by rw [size_flatK]; exact hlt), List.getElem?_eq_getElem (by omega)]
    rw [getElem!_pos _ _ (by rw [size_flatK]; exact hlt), getElem!_pos _ _ (by omega)] at h1
    rw [h1]
  have hHolds : HoldsK CellsC.enc 8 w g 0 dl.toArray := fun j hj => by
    rw [size_flatK, hsz] at hj
    have hj8 : j / 8 < l.length := by omega
    have e8 : j / 8 * 8 + j % 8 = j := by omega
    have hc : cs[j]? = some cs[j] := List.getElem?_eq_getElem (by omega)
    refine ⟨?_, ?_⟩
    · have h1 : (flatK CellsC.enc 8 dl.toArray)[j]? = cs[j]? := by
        have h0 := hflat dl.toArray (j / 8) (j % 8) (by rw [hsz]; exact hj8) (Nat.mod_lt _ (by omega))
        rw [e8] at h0
        rw [h0]
        have : dl.toArray[j / 8]! = CellsC.mk ((cs.drop (j / 8 * 8)).take 8) l[j / 8] (hchunk _ hj8) := by
          rw [getElem!_pos _ _ (by rw [hsz]; exact hj8)]
          have := hdget _ hj8
          rw [List.getElem?_eq_getElem (by rw [hdl]; exact hj8)] at this
          exact Option.some.inj this
        rw [this]
        show ((cs.drop (j / 8 * 8)).take 8)[j % 8]? = cs[j]?
        rw [List.getElem?_take, if_pos (Nat.mod_lt _ (by omega)), List.getElem?_drop, e8]
      have h2 : (flatK CellsC.enc 8 dl.toArray)[j]! = cs[j] := by
        rw [hc] at h1
        obtain ⟨h3, h4⟩ := Array.getElem?_eq_some_iff.1 h1
        rw [getElem!_pos (flatK CellsC.enc 8 dl.toArray) j h3, h4]
      rw [h2, Nat.zero_add]
      show w.cell? ⟨g, j, none⟩ = some cs[j]
      have h5 : cur.toList[j]? = some cs[j] := by
        have : (cur.toList.take (l.length * 8))[j]? = cs[j]? := by rw [e7]
        rw [List.getElem?_take, if_pos (by omega), hc] at this
        exact this
      simp only [World.cell?, e3]
      simpa using h5
    · simp [World.frozen?, e3]
  have hFw : ∀ (m : Nat) (os : Array Obj) (dk : Array (CellsC F w)) b, F b → (sortWorldK CellsC.enc 8 w g 0 m dk os).heap[b]? = w.heap[b]? := fun m os dk b hb => sortW_heap (s.fl b hb) fun h => hgF (h ▸ hb)
  have hcmp : CmpLays Tryz.prog 30 #[] CellsC.enc 8 cfC g 0 dl.toArray.size w := fun m os dk hdk x y => by
    have hx := x.rd.mono (fun _ h => h) (hFw m os dk)
    have hy := y.rd.mono (fun _ h => h) (hFw m os dk)
    have hok : ∀ z : CellsC F w, z.key.ok := fun z => by
      have hw := z.rd.wf
      unfold Ch.t at hw
      simp only [T.wf, T.wfs, Bool.and_eq_true, decide_eq_true_eq, Bool.and_true] at hw
      obtain ⟨a1, a2, a3, a4, ⟨a5, a6⟩, a7, a8, a9⟩ := hw
      exact ⟨⟨a1, a2⟩, ⟨a3, ⟨a4, by rw [ints_map, List.length_map] at a5; exact a5, fun n hn => (by
        have := T.wfs_iff.1 a6 (i64 n) (List.mem_map.2 ⟨n, hn, rfl⟩)
        simpa [T.wf] using this), a7, a8⟩, a9⟩⟩
    have hcall := f30_ok (M := big + 3) (Nat.le_refl _) (hok x) (hok y)
    have hfl : ∀ b, F b → b < (sortWorldK CellsC.enc 8 w g 0 m dk os).heap.size := fun b hb => by
      have h1 := s.fl b hb
      have h2 := hFw m os dk b hb
      rw [Array.getElem?_eq_getElem h1] at h2
      exact (Array.getElem?_eq_some_iff.1 h2).1
    have := callP_calls_drawn (E := env) (F := F) (w := sortWorldK CellsC.enc 8 w g 0 m dk os) he (n := big + 3 + 1) (f := 30) (ts := [x.key.t, y.key.t]) rfl (by rw [hcall]; simp) (vals := [.agg x.enc.toArray, .agg y.enc.toArray]) rfl (fun q z u h1 h2 => by
      match q with
      | 0 => simp at h1 h2; subst h1; subst h2; exact hx
      | 1 => simp at h1 h2; subst h1; subst h2; exact hy
      | q + 2 => simp at h1) hfl
    refine Calls.mono this fun e w' => ?_
    rintro ⟨v, rfl, ⟨z, F', c1, c2, c3⟩, hd⟩
    rw [hcall] at c1
    injection c1 with c1
    subst c1
    have hvv : v = .int .i64 (cfC x y) := by
      cases c2 with
      | frozen _ h => cases h; rfl
    subst hvv
    refine ⟨rfl, ?_⟩
    obtain ⟨p, hp⟩ := regrown_of_below (w := sortWorldK CellsC.enc 8 w g 0 m dk os) (w' := w') ⟨c3.os, c3.tape, c3.output, c3.size, c3.old⟩
    refine ⟨p.d - (sortWorldK CellsC.enc 8 w g 0 m dk os).drawn, p.os, ?_⟩
    have hdp : w'.drawn = p.d := by rw [hp]; rfl
    rw [hdp] at hd
    rw [hp]
    unfold redrawn World.drewN
    rw [Nat.add_sub_cancel' hd]
  have hmain := AnyQ.slices_SortFunc sortL 8 (fun w => (run_isAgg' (show aggP Tryz.prog 49 = some true by kernel_rfl) w)) (fun w => run_sizeOf' (show szP Tryz.prog 49 = some 8 by kernel_rfl) w) CellsC.enc (fun x => (rd_parts x.rd).1) (fun x => (rd_parts x.rd).2.1) cfC cfC_swo 30 #[] g 0 cap dl.toArray w eg hcmp hHolds hglt (by rw [hsz]; have := ho.1; have := big_val; omega)
  rw [hsz] at hmain
  have hargs : (κ i :: [Value.func (.func 30) #[] #[]]).toArray = #[.slice (some ⟨g, 0, none⟩) l.length cap, .func (.func 30) #[] #[]] := by rw [e1]
  rw [hargs]
  refine invokes_of_calls he ⟨_, _, Tryz.func29, rfl⟩ (Calls.mono hmain ?_)
  rintro e w' ⟨rfl, d', n, os, hp, hs, rfl⟩
  rw [← hsz] at hp hs
  obtain ⟨p1, _, p3⟩ := hp
  have hw' : ∀ a b : Array (CellsC F w), a.extract 0 a.size = a := fun a b => by simp
  rw [← p1, hw' d' d', p1, hw' _ d'] at p3
  have hperm : (d'.toList.map CellsC.key).Perm l := by
    have := p3.map CellsC.key
    simp only [List.toList_toArray] at this
    rwa [hkeys] at this
  refine ⟨.tuple #[], rfl, ⟨rfl, ⟨rfl, rfl, rfl, ?_, fun b hb hne => ?_⟩, (d'.toList.map CellsC.key).map Ch.t, ⟨_, rfl, hperm, ?_⟩, ?_⟩, ?_⟩
  · show w.heap.size ≤ ((putRowK CellsC.enc 8 (Sort.ahead w n) g 0 d').heap ++ os).size
    rw [Array.size_append]
    have : (putRowK CellsC.enc 8 (Sort.ahead w n) g 0 d').heap.size = w.heap.size := by unfold putRowK; rw [Sort.size_putRow]; rfl
    omega
  · refine sortW_heap hb fun h => hne ?_
    rw [h, e1]; rfl
  · rw [List.pairwise_map, List.pairwise_iff_getElem]
    intro a b ha hb hab
    have ha' : a < d'.size := by simpa using ha
    have hb' : b < d'.size := by simpa using hb
    have := hs a b (Nat.zero_le _) hab (by rw [← p1]; exact hb')
    unfold ltOf at this
    rw [decide_eq_false_iff_not, getElem!_pos d' b hb', getElem!_pos d' a ha'] at this
    exact this
  · have hd' : d'.size = l.length := by rw [p1, hsz]
    have hrow := sortW_row (enc := CellsC.enc) (k := 8) (m := n) (dk := d') (os := os) e3
    have hF0 := hFw n os d'
    generalize hwe : sortWorldK CellsC.enc 8 w g 0 n d' os = w1 at hrow hF0
    have hcl : (flatK CellsC.enc 8 d').size = l.length * 8 := by rw [size_flatK, hd']
    refine ⟨(flatK CellsC.enc 8 d').toList, ⟨by simp [hcl, hd'], .inr ⟨g, cap, _, by rw [e1]; simp [hd'], Nat.zero_le _, hrow, by simpa [hd'] using e4, e5, by simpa [putCells] using e6, ?_⟩⟩, by simpa [hd'] using o2, fun x hx => ?_, fun c hc => ?_, fun a x q y u ha hq hu => ?_⟩
    · have hcs2 : cur.size = cap * 8 := e6
      refine List.ext_getElem? fun j => ?_
      rw [List.getElem?_take]
      simp only [List.length_map, Array.length_toList, hd']
      split
      · rename_i hj
        have h1 : j < cur.size := by rw [hcs2]; calc j < l.length * 8 := hj
          _ ≤ cap * 8 := Nat.mul_le_mul_right _ e4
        have h2 : j < (flatK CellsC.enc 8 d').size := by rw [hcl]; exact hj
        unfold putCells
        simp only [Array.getElem?_toList, Array.getElem?_mapIdx, Array.getElem?_eq_getElem h1, Option.map_some, Nat.zero_le, true_and, Nat.zero_add, hcl, hj, if_true, Nat.sub_zero, id]
        rw [getElem!_pos (flatK CellsC.enc 8 d') j h2, Array.getElem?_eq_getElem h2]
      · rename_i hj
        rw [Array.getElem?_toList, Array.getElem?_eq_none (by rw [hcl]; omega)]
    · obtain ⟨c, _, rfl⟩ := List.mem_map.1 hx
      exact ⟨rfl, fun h => by cases h⟩
    · obtain ⟨t, ht, rfl⟩ := List.getElem_of_mem hc
      simp only [Array.length_toList, hcl] at ht
      have h1 := hflat d' (t / 8) (t % 8) (by rw [hd']; omega) (Nat.mod_lt _ (by omega))
      rw [show t / 8 * 8 + t % 8 = t by omega, Array.getElem?_eq_getElem (by rw [hcl]; exact ht)] at h1
      have := (rd_parts (d'[t / 8]!).rd).2.1 _ (List.mem_of_getElem? h1.symm)
      simpa using this
    · have ha' : a < l.length := by have := (List.getElem?_eq_some_iff.1 ha).1; simpa [hd'] using this
      rw [List.getElem?_map, List.getElem?_map, Array.getElem?_toList, Array.getElem?_eq_getElem (by rw [hd']; exact ha')] at ha
      simp only [Option.map_some, Option.some.injEq] at ha
      subst ha
      have hq8 : q < 8 := by have := (List.getElem?_eq_some_iff.1 hq).1; simpa [Ch.t, T.cells] using this
      have h1 := hflat d' a q (by rw [hd']; exact ha') hq8
      rw [Array.getElem?_toList] at hu
      rw [hu] at h1
      have hz : d'[a]! = d'[a]'(by rw [hd']; exact ha') := getElem!_pos _ _ _
      have := (rd_parts (d'[a]!).rd).2.2 q y u (by rw [hz]; exact hq) h1.symm
      exact this.mono (fun _ h => h) hF0
  · show w.drawn ≤ w.drawn + n
    omega
end Go.Sim

/- What calls come to: printed by wip/tools/eq2.py: decide.Loc. -/
namespace Go.Sim
open Go.RowKit Go.Proofs
set_option linter.unusedVariables false
set_option maxRecDepth 100000
variable [Lv]

abbrev Ent : Type := T × T × Nat
def sA (c : Cf) (t : List (List En)) (es : List Ent) (cc : Nat) (i : Int) : St := ⟨slots 81 [(1, .t (.sl 1 (tabT t))), (2, .ptr 0 0), (5, .mp 1), (17, .t (.sl 2 (c.w.map Px.t))), (18, .t (i64 (c.w.map Px.t).length)), (19, .t (i64 i))], [.box 25 6 (.t c.t), .map es cc]⟩
def sB (c : Cf) (t : List (List En)) (es : List Ent) (cc : Nat) (n i : Int) : St := ⟨slots 81 [(1, .t (.sl 1 (tabT t))), (2, .ptr 0 0), (5, .mp 1), (35, .t (i64 n)), (36, .t (i64 i))], [.box 25 6 (.t c.t), .map es cc]⟩
def sC (c : Cf) (t : List (List En)) (es : List Ent) (cc : Nat) (n i : Int) (l : List En) (j : Int) : St := ⟨slots 81 [(1, .t (.sl 1 (tabT t))), (2, .ptr 0 0), (5, .mp 1), (35, .t (i64 n)), (36, .t (i64 i)), (42, .t (.sl 6 (l.map En.t))), (43, .t (i64 (l.map En.t).length)), (44, .t (i64 j))], [.box 25 6 (.t c.t), .map es cc]⟩
def sX (c : Cf) (t : List (List En)) (es : List Ent) (cc : Nat) : St := ⟨slots 81 [(1, .t (.sl 1 (tabT t))), (2, .ptr 0 0), (5, .mp 1)], [.box 25 6 (.t c.t), .map es cc]⟩
def sR (c : Cf) (t : List (List En)) (es : List Ent) (cc since last : Nat) (seen : List Nat) (r : List Ch) : St := ⟨slots 81 [(1, .t (.sl 1 (tabT t))), (2, .ptr 0 0), (11, .own 1), (58, .ptr 2 0)], [.box 25 6 (.t c.t), .row 49 8 (r.map Ch.t), .iter 3 since seen last, .map es cc]⟩
def nxF (st : St) (d : Nat) : St := ⟨setT st.tmps (some d) (.t (.tup [.bool false])), st.heap⟩
def nxT (st : St) (d l m since cc : Nat) (seen : List Nat) (e : T × T × Nat) : St := ⟨setT st.tmps (some d) (.t (.tup [.bool true, e.1, e.2.1])), st.heap.set l (.iter m since (seen ++ [e.2.2]) cc)⟩
theorem zLA (N : Nat) (c : Cf) (t : List (List En)) : canX env 9 [] 3 (seqX env N 9 [] 0 3 (startS env 9 [.t c.t, .t (.sl 1 (tabT t))])) = Res.ok (Ex.norm, sA c t [] 0 0) := by kernel_rfl
theorem b9_3 (N : Nat) (c : Cf) (t : List (List En)) (es : List Ent) (cc : Nat) (i : Int) : bodyL env N 9 0 3 (sA c t es cc i) = bif decide (i < (↑(List.map Px.t c.w).length : Int)) then atT (List.map Px.t c.w) i fun e => chk (e.cells.length == 2 && !e.isTup) (chk (keyT [0, 0] e) (entK [0, 0] e es (chk (keyT [0, 0] e) (entK [0, 0] e es (chk (decide (cc ≤ 140737488355328)) (someK (stampE (es ++ [(e, i64 0, cc)]) (↑cc : Int)) fun i_1 => match (es ++ [(e, i64 0, cc)])[i_1]? with | some (k, fst, b) => Res.ok (Ex.norm, sA c t ((es ++ [(e, i64 0, cc)]).set i_1 (k, i64 1, b)) (cc + 1) (IntKind.i64.wrap (i + 1))) | none => Res.stuck)) fun x v b => chk (decide (b ≤ 140737488355328)) (someK (stampE es (↑b : Int)) fun i_1 => match es[i_1]? with | some (k, fst, b) => Res.ok (Ex.norm, sA c t (es.set i_1 (k, i64 1, b)) cc (IntKind.i64.wrap (i + 1))) | none => Res.stuck))) fun x v x_1 => iT IntKind.i64 v fun a => chk (keyT [0, 0] e) (entK [0, 0] e es (chk (decide (cc ≤ 140737488355328)) (someK (stampE (es ++ [(e, i64 0, cc)]) (↑cc : Int)) fun i_1 => match (es ++ [(e, i64 0, cc)])[i_1]? with | some (k, fst, b) => Res.ok (Ex.norm, sA c t ((es ++ [(e, i64 0, cc)]).set i_1 (k, i64 (IntKind.i64.wrap (a + 1)), b)) (cc + 1) (IntKind.i64.wrap (i + 1))) | none => Res.stuck)) fun x v b => chk (decide (b ≤ 140737488355328)) (someK (stampE es (↑b : Int)) fun i_1 => match es[i_1]? with | some (k, fst, b) => Res.ok (Ex.norm, sA c t (es.set i_1 (k, i64 (IntKind.i64.wrap (a + 1)), b)) cc (IntKind.i64.wrap (i + 1))) | none => Res.stuck)))) else Res.ok (Ex.exit 0, sX c t es cc) := by kernel_rfl
theorem zLB (N : Nat) (c : Cf) (t : List (List En)) (es : List Ent) (cc : Nat) : canX env 9 [] 5 (seqX env N 9 [] 4 1 (sX c t es cc)) = Res.ok (Ex.norm, sB c t es cc (minmax false [(↑(List.map Sd.t c.s).length : Int)] (↑(List.map (fun l => T.sl 6 (List.map En.t l)) t).length : Int)) 0) := by kernel_rfl
theorem b9_8 (N : Nat) (c : Cf) (t : List (List En)) (es : List Ent) (cc : Nat) (n i : Int) : bodyL env N 9 0 8 (sB c t es cc n i) = bif decide (i < n) then atT (List.map (fun l => T.sl 6 (List.map En.t l)) t) i fun e => sllT e fun n_1 => loopI env N 9 8 11 { tmps := slots 81 [(1, PV.t (T.sl 1 (List.map (fun l => T.sl 6 (List.map En.t l)) t))), (2, PV.ptr 0 0), (5, PV.mp 1), (35, PV.t (i64 n)), (36, PV.t (i64 i)), (42, PV.t e), (43, PV.t (i64 n_1)), (44, PV.t (i64 0))], heap := [AObj.box 25 6 (PV.t c.t), AObj.map es cc] } else Res.ok (Ex.exit 2, sX c t es cc) := by kernel_rfl
theorem b9_8_11 (N : Nat) (c : Cf) (t : List (List En)) (es : List Ent) (cc : Nat) (n i : Int) (l : List En) (j : Int) : bodyI env N 9 0 8 11 (sC c t es cc n i l j) = bif decide (j < (↑(List.map En.t l).length : Int)) then atT (List.map En.t l) j fun e => chk (e.cells.length == 6 && !e.isTup) (chk (keyT [0, 0] (e.partD 0 2 true)) (entK [0, 0] (e.partD 0 2 true) es (chk (keyT [0, 0] (e.partD 0 2 true)) (entK [0, 0] (e.partD 0 2 true) es (chk (decide (cc ≤ 140737488355328)) (someK (stampE (es ++ [(e.partD 0 2 true, i64 0, cc)]) (↑cc : Int)) fun i_1 => match (es ++ [(e.partD 0 2 true, i64 0, cc)])[i_1]? with | some (k, fst, b) => Res.ok (Ex.norm, sC c t ((es ++ [(e.partD 0 2 true, i64 0, cc)]).set i_1 (k, i64 1, b)) (cc + 1) n i l (IntKind.i64.wrap (j + 1))) | none => Res.stuck)) fun x v b => chk (decide (b ≤ 140737488355328)) (someK (stampE es (↑b : Int)) fun i_1 => match es[i_1]? with | some (k, fst, b) => Res.ok (Ex.norm, sC c t (es.set i_1 (k, i64 1, b)) cc n i l (IntKind.i64.wrap (j + 1))) | none => Res.stuck))) fun x v x_1 => iT IntKind.i64 v fun a => chk (keyT [0, 0] (e.partD 0 2 true)) (entK [0, 0] (e.partD 0 2 true) es (chk (decide (cc ≤ 140737488355328)) (someK (stampE (es ++ [(e.partD 0 2 true, i64 0, cc)]) (↑cc : Int)) fun i_1 => match (es ++ [(e.partD 0 2 true, i64 0, cc)])[i_1]? with | some (k, fst, b) => Res.ok (Ex.norm, sC c t ((es ++ [(e.partD 0 2 true, i64 0, cc)]).set i_1 (k, i64 (IntKind.i64.wrap (a + 1)), b)) (cc + 1) n i l (IntKind.i64.wrap (j + 1))) | none => Res.stuck)) fun x v b => chk (decide (b ≤ 140737488355328)) (someK (stampE es (↑b : Int)) fun i_1 => match es[i_1]? with | some (k, fst, b) => Res.ok (Ex.norm, sC c t (es.set i_1 (k, i64 (IntKind.i64.wrap (a + 1)), b)) cc n i l (IntKind.i64.wrap (j + 1))) | none => Res.stuck)))) else Res.ok (Ex.exit 4, sB c t es cc n i) := by kernel_rfl
theorem t9_8_11_exit4 (N : Nat) (c : Cf) (t : List (List En)) (es : List Ent) (cc : Nat) (n i : Int) : tailI env N 9 0 8 11 (.exit 4) (sB c t es cc n i) = Res.ok (Ex.norm, sB c t es cc n (IntKind.i64.wrap (i + 1))) := by kernel_rfl
theorem zLR (N : Nat) (c : Cf) (t : List (List En)) (es : List Ent) (cc : Nat) : canX env 9 [] 8 (seqY env N 9 [] 6 2 (sX c t es cc)) = Res.ok (Ex.norm, { tmps := slots 81 [(1, PV.t (T.sl 1 (List.map (fun l => T.sl 6 (List.map En.t l)) t))), (2, PV.ptr 0 0), (11, PV.own 1), (58, PV.ptr 2 0)], heap := [AObj.box 25 6 (PV.t c.t), AObj.row 49 8 [], AObj.iter 3 cc [] cc, AObj.map es cc] }) := by kernel_rfl
theorem zLF (N : Nat) (c : Cf) (t : List (List En)) (es : List Ent) (cc since last : Nat) (seen : List Nat) (r : List Ch) : exX env 9 [] 8 (restY env N 9 [8] 0 1 1 (nxF (sR c t es cc since last seen r) 59)) = Res.ok (Ex.exit 6, { tmps := slots 81 [(11, PV.own 0)], heap := [AObj.row 49 8 (List.map Ch.t r)] }) := by kernel_rfl
def sT (c : Cf) (t : List (List En)) (es : List Ent) (cc since : Nat) (seen : List Nat) (r : List Ch) (x : Px) (v : Int) : St := ⟨slots 81 [(1, .t (.sl 1 (tabT t))), (2, .ptr 0 0), (11, .own 1), (58, .ptr 2 0), (59, .t (.tup [.bool true, x.t, i64 v])), (60, .t (.bool true)), (61, .t (.tup [x.t, i64 v]))], [.box 25 6 (.t c.t), .row 49 8 (r.map Ch.t), .iter 3 since seen cc, .map es cc]⟩
def sU (c : Cf) (t : List (List En)) (es : List Ent) (cc since : Nat) (seen : List Nat) (r : List Ch) (x : Px) (v : Int) (x1 x2 : T) (q : Rt) (b : Bool) : St := ⟨slots 81 [(1, .t (.sl 1 (tabT t))), (2, .ptr 0 0), (11, .own 1), (12, .ptr 4 0), (13, .ptr 5 0), (14, .t (.bool b)), (58, .ptr 2 0), (59, .t (.tup [.bool true, x.t, i64 v])), (60, .t (.bool true)), (61, .t (.tup [x.t, i64 v])), (62, .t x.t), (63, .t x2), (64, .t c.t), (65, .t (.sl 1 (tabT t))), (66, .t x.t), (67, .t x1), (68, .t x2), (69, .t q.t), (70, .t (.bool b)), (71, .t (.bool b))], [.box 25 6 (.t c.t), .row 49 8 (r.map Ch.t), .iter 3 since seen cc, .map es cc, .box 28 2 (.t x.t), .box 45 6 (.t q.t)]⟩
def sE (r : List Ch) : St := ⟨slots 81 [(11, .own 0)], [.row 49 8 (r.map Ch.t)]⟩
theorem zLT0 (N : Nat) (c : Cf) (t : List (List En)) (es : List Ent) (cc since last : Nat) (seen : List Nat) (r : List Ch) (x : Px) (v : Int) (n : Nat) : (restY env N 9 [8] 0 1 1 (nxT (sR c t es cc since last seen r) 59 2 3 since cc seen (x.t, i64 v, n))) = Res.ok (Ex.norm, { tmps := slots 81 [(1, PV.t (T.sl 1 (List.map (fun l => T.sl 6 (List.map En.t l)) t))), (2, PV.ptr 0 0), (11, PV.own 1), (58, PV.ptr 2 0), (59, PV.t (T.tup [T.bool true, x.t, i64 v])), (60, PV.t (T.bool true))], heap := [AObj.box 25 6 (PV.t c.t), AObj.row 49 8 (List.map Ch.t r), AObj.iter 3 since (seen ++ [n]) cc, AObj.map es cc] }) := by kernel_rfl
theorem zLT1 (N : Nat) (c : Cf) (t : List (List En)) (es : List Ent) (cc since : Nat) (seen : List Nat) (r : List Ch) (x : Px) (v : Int) : (restT env N 9 [8, 2] 0 1 2 (sT c t es cc since seen r x v) fun e s => (.ok (e, s) : Res (Ex × St))) = cl N 13 [c.t, T.sl 1 (List.map (fun l => T.sl 6 (List.map En.t l)) t), x.t] fun x_1 => cl N 28 [x_1] fun x_2 => compT x_2 0 fun y => compT x_2 1 fun y_1 => chk (y.cells.length == 6 && !y.isTup) (Res.ok (Ex.norm, { tmps := slots 81 [(1, PV.t (T.sl 1 (List.map (fun l => T.sl 6 (List.map En.t l)) t))), (2, PV.ptr 0 0), (11, PV.own 1), (12, PV.ptr 4 0), (13, PV.ptr 5 0), (14, PV.t y_1), (58, PV.ptr 2 0), (59, PV.t (T.tup [T.bool true, x.t, i64 v])), (60, PV.t (T.bool true)), (61, PV.t (T.tup [x.t, i64 v])), (62, PV.t x.t), (63, PV.t x_2), (64, PV.t c.t), (65, PV.t (T.sl 1 (List.map (fun l => T.sl 6 (List.map En.t l)) t))), (66, PV.t x.t), (67, PV.t x_1), (68, PV.t x_2), (69, PV.t y), (70, PV.t y_1), (71, PV.t y_1)], heap := [AObj.box 25 6 (PV.t c.t), AObj.row 49 8 (List.map Ch.t r), AObj.iter 3 since seen cc, AObj.map es cc, AObj.box 28 2 (PV.t x.t), AObj.box 45 6 (PV.t y)] })) := by kernel_rfl
theorem zLUfalse (N : Nat) (c : Cf) (t : List (List En)) (es : List Ent) (cc since : Nat) (seen : List Nat) (r : List Ch) (x : Px) (v : Int) (x1 x2 : T) (q : Rt) : (seqT env N 9 [8, 2] 3 1 (sU c t es cc since seen r x v x1 x2 q false) (canT env 9 [] 8)) = Res.ok (Ex.norm, sR c t es cc since cc seen r) := by kernel_rfl
theorem zLUtrue (N : Nat) (c : Cf) (t : List (List En)) (es : List Ent) (cc since : Nat) (seen : List Nat) (r : List Ch) (x : Px) (v : Int) (x1 x2 : T) (q : Rt) : (seqT env N 9 [8, 2] 3 1 (sU c t es cc since seen r x v x1 x2 q true) (canT env 9 [] 8)) = chkAll (T.okE 8) [T.agg [i64 x.a, i64 x.n, i64 q.n, i64 q.p.o, T.sl 1 (ints q.p.s), i64 q.p.h, i64 q.p.c, i64 q.f]] (chk (decide (((List.map Ch.t r).length + 1) * 80 ≤ 140737488355328)) (Res.ok (Ex.norm, { tmps := slots 81 [(1, PV.t (T.sl 1 (List.map (fun l => T.sl 6 (List.map En.t l)) t))), (2, PV.ptr 0 0), (11, PV.own 1), (58, PV.ptr 2 0)], heap := [AObj.box 25 6 (PV.t c.t), AObj.row 49 8 (List.map Ch.t r ++ [T.agg [i64 x.a, i64 x.n, i64 q.n, i64 q.p.o, T.sl 1 (ints q.p.s), i64 q.p.h, i64 q.p.c, i64 q.f]]), AObj.iter 3 since seen cc, AObj.map es cc] }))) := by kernel_rfl
theorem zLE (N : Nat)  : (seqX env N 9 [] 9 3 (sE [])) = cl N 29 [T.sl 8 [], T.fn 30 [] []] fun x => chk x.plain (Res.ok (Ex.ret, { tmps := slots 81 [(4, PV.own 0), (11, PV.own 0), (78, PV.own 0), (79, PV.t x), (80, PV.own 0)], heap := [AObj.row 49 8 []] })) := by kernel_rfl
theorem zLS0 (N : Nat) (r : List Ch) : (opsR env N 9 [] 9 0 1 (sE r)) = Res.ok { tmps := slots 81 [(11, PV.own 0), (78, PV.own 0)], heap := [AObj.row 49 8 (List.map Ch.t r)] } := by kernel_rfl
theorem zLS1 (N : Nat) (r m : List Ch) : ((opsR env N 9 [] 9 0 1 (sE r)).bind fun s => seqX env N 9 [] 10 2 ⟨setT s.tmps (some 79) (.t (.tup [])), [.row 49 8 (m.map Ch.t)]⟩) = Res.ok (Ex.ret, { tmps := slots 81 [(4, PV.own 0), (11, PV.own 0), (78, PV.own 0), (79, PV.t (T.tup [])), (80, PV.own 0)], heap := [AObj.row 49 8 (List.map Ch.t m)] }) := by kernel_rfl
end Go.Sim

/- Maps that count: what is laid, and how it is found. -/
namespace Go.Sim
open Go.RowKit Go.Proofs
set_option linter.unusedVariables false
set_option linter.unusedSimpArgs false
set_option linter.unusedSectionVars false
/-- A prefix more, if it is new. -/
def addK (ks : List Px) (x : Px) : List Px := if x ∈ ks then ks else ks ++ [x]
theorem mem_addK {ks : List Px} {x y : Px} : y ∈ addK ks x ↔ y ∈ ks ∨ y = x := by
  unfold addK
  split
  · rename_i h
    exact ⟨.inl, fun h2 => h2.elim id fun e => e ▸ h⟩
  · simp
theorem addK_nodup {ks : List Px} {x : Px} (h : ks.Nodup) : (addK ks x).Nodup := by
  unfold addK
  split
  · exact h
  · rename_i hx
    rw [List.nodup_append]
    exact ⟨h, by simp, fun a ha b hb e => by rw [List.mem_singleton.1 hb] at e; exact hx (e ▸ ha)⟩
theorem addK_len (ks : List Px) (x : Px) : (addK ks x).length ≤ ks.length + 1 := by unfold addK; split <;> simp
theorem addsK_mem {y : Px} : ∀ (l ks : List Px), y ∈ l.foldl addK ks ↔ y ∈ ks ∨ y ∈ l
  | [], ks => by simp
  | x :: l, ks => by
    rw [List.foldl_cons, addsK_mem l, mem_addK, List.mem_cons]
    constructor
    · rintro ((h | h) | h)
      · exact .inl h
      · exact .inr (.inl h)
      · exact .inr (.inr h)
    · rintro (h | h | h)
      · exact .inl (.inl h)
      · exact .inl (.inr h)
      · exact .inr h
theorem addsK_len : ∀ (l ks : List Px), (l.foldl addK ks).length ≤ l.length + ks.length
  | [], ks => by simp
  | x :: l, ks => by
    rw [List.foldl_cons]
    have := addsK_len l (addK ks x)
    have := addK_len ks x
    simp; omega
/-- A map that has these prefixes, in the order in which they came; nothing has been struck. -/
structure MapL (es : List (T × T × Nat)) (cc : Nat) (ks : List Px) : Prop where
  keys : es.map (·.1) = ks.map Px.t
  nd : ks.Nodup
  vals : ∀ e ∈ es, ∃ n, e.2.1 = i64 n
  st : es.map (·.2.2) = List.range es.length
  cc : cc = es.length
theorem MapL.len {es : List (T × T × Nat)} {cc : Nat} {ks : List Px} (h : MapL es cc ks) : es.length = ks.length := by have := congrArg List.length h.keys; simpa using this
theorem MapL.at {es : List (T × T × Nat)} {cc : Nat} {ks : List Px} (h : MapL es cc ks) {i : Nat} (hi : i < ks.length) : ∃ n, es[i]? = some (ks[i].t, i64 n, i) := by
  have hl := h.len
  have e0 : es[i]? = some es[i] := List.getElem?_eq_getElem (by omega)
  have h1 := congrArg (fun z => z[i]?) h.keys
  have h2 := congrArg (fun z => z[i]?) h.st
  simp only [List.getElem?_map, e0, Option.map_some, List.getElem?_eq_getElem hi, Option.some.injEq, List.getElem?_range (show i < es.length by omega)] at h1 h2
  obtain ⟨n, hn⟩ := h.vals _ (List.mem_of_getElem? e0)
  refine ⟨n, e0.trans (congrArg some ?_)⟩
  generalize es[i] = e at h1 h2 hn
  obtain ⟨e1, e2, e3⟩ := e
  simp only at h1 h2 hn
  subst h1; subst h2; subst hn; rfl
theorem findE_px {x : Px} : ∀ (es : List (T × T × Nat)) (ks : List Px) (i : Nat), es.map (·.1) = ks.map Px.t →
    findE [0, 0] x.t es i = some (match ks.findIdx? (fun y => decide (x = y)) with | none => none | some j => (es[j]?).map fun e => (i + j, e.2.1, e.2.2))
  | [], [], i, _ => rfl
  | [], _ :: _, _, h => by simp at h
  | _ :: _, [], _, h => by simp at h
  | e :: es, k :: ks, i, h => by
    simp only [List.map_cons, List.cons.injEq] at h
    unfold findE
    rw [h.1, show T.flat [0, 0] x.t = [i64 x.a, i64 x.n] from rfl, show T.flat [0, 0] k.t = [i64 k.a, i64 k.n] from rfl, eqLs_dec, List.findIdx?_cons]
    by_cases hx : x = k
    · rw [decide_eq_true hx]; simp
    · rw [decide_eq_false hx]
      simp only [Bool.false_eq_true, if_false]
      rw [findE_px es ks (i + 1) h.2]
      cases ks.findIdx? (fun y => decide (x = y)) with
      | none => rfl
      | some j =>
        simp only [Option.map_some, List.getElem?_cons_succ]
        cases es[j]? with
        | none => rfl
        | some e' => simp only [Option.map_some]; congr 3; omega
theorem stamp_at {es : List (T × T × Nat)} {i : Nat} (h : es.map (·.2.2) = List.range es.length) (hi : i < es.length) : stampE es (i : Int) = some i := by
  unfold stampE
  rw [List.findIdx?_eq_some_iff_getElem]
  have hg : ∀ j (hj : j < es.length), es[j].2.2 = j := fun j hj => by
    have := congrArg (fun z => z[j]?) h
    simpa [List.getElem?_range hj, List.getElem?_eq_getElem hj] using this
  refine ⟨hi, by rw [hg i hi]; simp, fun j hj => ?_⟩
  rw [hg j (by omega)]
  simp; omega
section
variable {β : Type}
/-- 'm[e]++', as it comes out. -/
def bumpK (e : T) (es : List (T × T × Nat)) (cc : Nat) (G : List (T × T × Nat) → Nat → Res β) : Res β :=
  chk (keyT [0, 0] e) (entK [0, 0] e es (chk (keyT [0, 0] e) (entK [0, 0] e es (chk (decide (cc ≤ 140737488355328)) (someK (stampE (es ++ [(e, i64 0, cc)]) (cc : Int)) fun i => match (es ++ [(e, i64 0, cc)])[i]? with | some (k, _, b) => G ((es ++ [(e, i64 0, cc)]).set i (k, i64 1, b)) (cc + 1) | none => Res.stuck))
      fun _ _ b => chk (decide (b ≤ 140737488355328)) (someK (stampE es (b : Int)) fun i => match es[i]? with | some (k, _, b) => G (es.set i (k, i64 1, b)) cc | none => Res.stuck)))
    fun _ v _ => iT IntKind.i64 v fun a => chk (keyT [0, 0] e) (entK [0, 0] e es (chk (decide (cc ≤ 140737488355328)) (someK (stampE (es ++ [(e, i64 0, cc)]) (cc : Int)) fun i => match (es ++ [(e, i64 0, cc)])[i]? with | some (k, _, b) => G ((es ++ [(e, i64 0, cc)]).set i (k, i64 (IntKind.i64.wrap (a + 1)), b)) (cc + 1) | none => Res.stuck))
      fun _ _ b => chk (decide (b ≤ 140737488355328)) (someK (stampE es (b : Int)) fun i => match es[i]? with | some (k, _, b) => G (es.set i (k, i64 (IntKind.i64.wrap (a + 1)), b)) cc | none => Res.stuck)))
def bumpF (p : List (T × T × Nat) × Nat) (x : Px) : List (T × T × Nat) × Nat := match findE [0, 0] x.t p.1 0 with
  | some (some (i, .int .i64 a, b)) => (p.1.set i (x.t, i64 (IntKind.i64.wrap (a + 1)), b), p.2)
  | _ => (p.1 ++ [(x.t, i64 1, p.2)], p.2 + 1)
theorem bump_ok {es : List (T × T × Nat)} {cc : Nat} {ks : List Px} {x : Px} (h : MapL es cc ks) (hc : cc ≤ big) : (∀ G : List (T × T × Nat) → Nat → Res β, bumpK x.t es cc G = G (bumpF (es, cc) x).1 (bumpF (es, cc) x).2) ∧ MapL (bumpF (es, cc) x).1 (bumpF (es, cc) x).2 (addK ks x) := by
  have hf := findE_px (x := x) es ks 0 h.keys
  have hlen := h.len
  have hcc := h.cc
  have hb : cc ≤ 140737488355328 := by have := big_val; omega
  cases hk : ks.findIdx? (fun y => decide (x = y)) with
  | none =>
    rw [hk] at hf
    simp only at hf
    have hx : x ∉ ks := fun hx => by
      have := List.findIdx?_eq_none_iff.1 hk x hx
      simp at this
    have hbf : bumpF (es, cc) x = (es ++ [(x.t, i64 1, cc)], cc + 1) := by unfold bumpF; simp only [hf]
    have hst : (es ++ [(x.t, i64 0, cc)]).map (·.2.2) = List.range (es ++ [(x.t, i64 0, cc)]).length := by
      rw [List.map_append, h.st, List.length_append]
      show List.range es.length ++ [cc] = List.range (es.length + 1)
      rw [List.range_succ, hcc]
    have hs := stamp_at (i := cc) hst (by simp; omega)
    rw [hbf]
    refine ⟨fun G => ?_, ?_⟩
    · unfold bumpK
      rw [keyT_px, chk_true]
      unfold entK
      rw [hf]
      simp only [chk_true]
      rw [decide_eq_true hb, chk_true, hs]
      simp only [someK]
      rw [hcc, List.getElem?_append_right (Nat.le_refl _), Nat.sub_self]
      simp only [List.getElem?_cons_zero]
      rw [List.set_append_right _ _ (Nat.le_refl _), Nat.sub_self]
      rfl
    · unfold addK
      rw [if_neg hx]
      refine ⟨by rw [List.map_append, List.map_append, h.keys]; rfl, ?_, fun e he => ?_, ?_, by simp [hcc]⟩
      · have := addK_nodup (x := x) h.nd; unfold addK at this; rwa [if_neg hx] at this
      · rcases List.mem_append.1 he with he | he
        · exact h.vals e he
        · rw [List.mem_singleton.1 he]; exact ⟨1, rfl⟩
      · rw [List.map_append, h.st, List.length_append]
        show List.range es.length ++ [cc] = List.range (es.length + 1)
        rw [List.range_succ, hcc]
  | some j =>
    rw [hk] at hf
    obtain ⟨hj, hjx, _⟩ := List.findIdx?_eq_some_iff_getElem.1 hk
    have hxk : x = ks[j] := by simpa using hjx
    obtain ⟨a, ha⟩ := h.at hj
    rw [← hxk] at ha
    simp only [ha, Option.map_some, Nat.zero_add] at hf
    have hs := stamp_at (i := j) h.st (by omega)
    have hbf : bumpF (es, cc) x = (es.set j (x.t, i64 (IntKind.i64.wrap (a + 1)), j), cc) := by unfold bumpF; simp only [hf]
    have hjb : decide (j ≤ 140737488355328) = true := decide_eq_true (by omega)
    rw [hbf]
    refine ⟨fun G => ?_, ?_⟩
    · unfold bumpK
      rw [keyT_px, chk_true]
      unfold entK
      rw [hf]
      simp only [chk_true, iT_int]
      rw [hjb, chk_true, hs]
      simp only [someK, ha]
    · unfold addK
      rw [if_pos (by rw [hxk]; exact List.getElem_mem _)]
      refine ⟨?_, h.nd, fun e he => ?_, ?_, by simp [hcc]⟩
      · rw [List.map_set, h.keys]
        refine List.ext_getElem? fun i => ?_
        rw [List.getElem?_set]
        split
        · rename_i e; subst e
          rw [List.length_map]
          split
          · rw [List.getElem?_map, List.getElem?_eq_getElem hj, hxk]; rfl
          · omega
        · rfl
      · rcases List.mem_or_eq_of_mem_set he with he | he
        · exact h.vals e he
        · rw [he]; exact ⟨_, rfl⟩
      · rw [List.map_set, h.st, List.length_set]
        refine List.ext_getElem? fun i => ?_
        rw [List.getElem?_set]
        split
        · rename_i e; subst e
          rw [List.length_range]
          split
          · rw [List.getElem?_range (by omega)]
          · omega
        · rfl
end
/-- Some, none twice, of the numbers below n: no more than n. -/
theorem nodup_lt : ∀ (n : Nat) (l : List Nat), l.Nodup → (∀ x ∈ l, x < n) → l.length ≤ n
  | 0, [], _, _ => Nat.le_refl _
  | 0, x :: l, _, h => absurd (h x List.mem_cons_self) (Nat.not_lt_zero _)
  | n + 1, l, hn, h => by
    by_cases hm : n ∈ l
    · have h1 := nodup_lt n (l.erase n) (hn.erase n) fun x hx => by
        have h2 := h x (List.mem_of_mem_erase hx)
        have h3 : x ≠ n := fun e => by rw [e] at hx; exact (List.Nodup.not_mem_erase hn) hx
        omega
      rw [List.length_erase_of_mem hm] at h1
      omega
    · exact Nat.le_succ_of_le (nodup_lt n l hn fun x hx => by
        have h2 := h x hx
        have h3 : x ≠ n := fun e => hm (e ▸ hx)
        omega)
end Go.Sim

/- decide.Loc: what it ranges over, and what comes of it. -/
namespace Go.Sim
open Go.RowKit Go.Proofs
set_option linter.unusedVariables false
set_option linter.unusedSimpArgs false
set_option linter.unusedSectionVars false
set_option maxRecDepth 100000
/-- A map that has the prefixes that are told. -/
def MI (p : List (T × T × Nat) × Nat) (P : Px → Prop) : Prop := ∃ ks, MapL p.1 p.2 ks ∧ ∀ y, y ∈ ks ↔ P y
theorem MI.iff {p : List (T × T × Nat) × Nat} {P P' : Px → Prop} (h : MI p P) (e : ∀ y, P y ↔ P' y) : MI p P' := by
  obtain ⟨ks, h1, h2⟩ := h
  exact ⟨ks, h1, fun y => (h2 y).trans (e y)⟩
theorem nodup_sub {α : Type} [DecidableEq α] : ∀ (l m : List α), l.Nodup → (∀ x ∈ l, x ∈ m) → l.length ≤ m.length
  | [], m, _, _ => Nat.zero_le _
  | x :: l, m, h, hm => by
    obtain ⟨h1, h2⟩ := List.nodup_cons.1 h
    have hx := hm x List.mem_cons_self
    have := nodup_sub l (m.erase x) h2 fun y hy => (List.mem_erase_of_ne (fun (e : y = x) => h1 (by rw [← e]; exact hy))).2 (hm y (List.mem_cons_of_mem _ hy))
    rw [List.length_erase_of_mem hx] at this
    have := List.length_pos_of_mem hx
    simp only [List.length_cons]; omega
theorem bump_mi {β : Type} {p : List (T × T × Nat) × Nat} {P : Px → Prop} {x : Px} {L : List Px} (h : MI p P) (hs : ∀ y, P y → y ∈ L) (hL : L.length ≤ big) : (∀ G : List (T × T × Nat) → Nat → Res β, bumpK x.t p.1 p.2 G = G (bumpF p x).1 (bumpF p x).2) ∧ MI (bumpF p x) (fun y => P y ∨ y = x) := by
  obtain ⟨ks, h1, h2⟩ := h
  have hl : ks.length ≤ L.length := nodup_sub ks L h1.nd fun y hy => hs y ((h2 y).1 hy)
  have hc : p.2 ≤ big := by have := h1.cc; have := h1.len; omega
  obtain ⟨b1, b2⟩ := bump_ok (β := β) (x := x) h1 hc
  exact ⟨b1, _, b2, fun y => by rw [mem_addK, h2]⟩
theorem mem_take_succ {α : Type} {l : List α} {j : Nat} {x y : α} (h : l[j]? = some x) : (y ∈ l.take j ∨ y = x) ↔ y ∈ l.take (j + 1) := by
  rw [List.take_add_one, h]; simp
variable [Lv]
theorem locA {N : Nat} {c : Cf} {t : List (List En)} (hN : big + 80 ≤ N) (h : c.ok) (hL : (seenL c t).length ≤ big) : ∃ p, iterR (bodyX env N 9 [] 3) N (sA c t [] 0 0) = .ok (.exit 0, sX c t p.1 p.2) ∧ MI p (fun y => y ∈ c.w) := by
  have hbig := big_val
  have hbw := h.w.1
  have e : bodyX env N 9 [] 3 = bodyL env N 9 0 3 := by kernel_rfl
  rw [e]
  obtain ⟨h1, h2⟩ := iter_fold (B := bodyL env N 9 0 3) (S := fun (p : List (T × T × Nat) × Nat) j => sA c t p.1 p.2 (j : Int)) (X := fun p => sX c t p.1 p.2) (id := 0) (fun p j => MI p fun y => y ∈ c.w.take j) bumpF c.w (n := N) ([], 0) (by omega) (fun p j x hx hI => by
      have hj : j < c.w.length := (List.getElem?_eq_some_iff.1 hx).1
      obtain ⟨b1, b2⟩ := bump_mi (β := Ex × St) (x := x) (L := seenL c t) hI (fun y hy => List.mem_append_left _ (List.mem_of_mem_take hy)) hL
      refine ⟨?_, b2.iff fun y => mem_take_succ hx⟩
      refine (b9_3 _ _ _ _ _ _).trans ?_
      rw [decide_eq_true (show (j : Int) < ((c.w.map Px.t).length : Int) by rw [List.length_map]; omega)]
      simp only [cond_true]
      rw [atT_get (map_get hx), show (x.t.cells.length == 2 && !x.t.isTup) = true from rfl, chk_true, wrap_succ (show j ≤ big by omega)]
      exact b1 fun es cc => Res.ok (Ex.norm, sA c t es cc ((j + 1 : Nat) : Int))) (fun p hI => by
      refine (b9_3 _ _ _ _ _ _).trans ?_
      rw [decide_eq_false (show ¬ ((c.w.length : Nat) : Int) < ((c.w.map Px.t).length : Int) by rw [List.length_map]; omega)]
      rfl) ⟨[], ⟨rfl, List.nodup_nil, by simp, rfl, rfl⟩, by simp⟩
  exact ⟨_, h1, h2.iff fun y => by rw [List.take_length]⟩
theorem locC {N j : Nat} {c : Cf} {t : List (List En)} {n : Int} {p : List (T × T × Nat) × Nat} {r : List En} {P : Px → Prop} (hN : big + 80 ≤ N) (hbr : r.length ≤ big) (e1 : t[j]? = some r) (hI : MI p P) (hP : ∀ y, P y → y ∈ seenL c t) (hr : ∀ e ∈ r, e.x ∈ seenL c t) (hL : (seenL c t).length ≤ big) :
    ∃ p', loopI env N 9 8 11 (sC c t p.1 p.2 n (j : Int) r 0) = tailI env N 9 0 8 11 (.exit 4) (sB c t p'.1 p'.2 n (j : Int)) ∧ MI p' (fun y => P y ∨ y ∈ r.map En.x) := by
  have hbig := big_val
  obtain ⟨h1, h2⟩ := iter_fold (B := bodyI env N 9 0 8 11) (S := fun (p : List (T × T × Nat) × Nat) k => sC c t p.1 p.2 n (j : Int) r (k : Int)) (X := fun p => sB c t p.1 p.2 n (j : Int)) (id := 4) (fun p k => MI p fun y => P y ∨ y ∈ (r.map En.x).take k) (fun p e => bumpF p e.x) r (n := N) p (by omega) (fun p k e he hI => by
      have hk : k < r.length := (List.getElem?_eq_some_iff.1 he).1
      obtain ⟨b1, b2⟩ := bump_mi (β := Ex × St) (x := e.x) (L := seenL c t) hI (fun y hy => hy.elim (hP y) fun hy => by
        obtain ⟨e', he', rfl⟩ := List.mem_map.1 (List.mem_of_mem_take hy)
        exact hr e' he') hL
      refine ⟨?_, b2.iff fun y => by rw [or_assoc, mem_take_succ (l := r.map En.x) (x := e.x) (by rw [List.getElem?_map, he]; rfl)]⟩
      refine (b9_8_11 _ _ _ _ _ _ _ _ _).trans ?_
      rw [decide_eq_true (show (k : Int) < ((r.map En.t).length : Int) by rw [List.length_map]; omega)]
      simp only [cond_true]
      rw [atT_get (map_get he), show (e.t.cells.length == 6 && !e.t.isTup) = true from rfl, chk_true, wrap_succ (show k ≤ big by omega)]
      exact b1 fun es cc => Res.ok (Ex.norm, sC c t es cc n (j : Int) r ((k + 1 : Nat) : Int))) (fun p hI => by
      refine (b9_8_11 _ _ _ _ _ _ _ _ _).trans ?_
      rw [decide_eq_false (show ¬ ((r.length : Nat) : Int) < ((r.map En.t).length : Int) by rw [List.length_map]; omega)]
      rfl) (hI.iff fun y => by simp)
  exact ⟨_, loopI_end h1, h2.iff fun y => by rw [List.take_of_length_le (by simp)]⟩
theorem locB {N : Nat} {c : Cf} {t : List (List En)} {p : List (T × T × Nat) × Nat} (hN : big + 80 ≤ N) (h : c.ok) (ht : okT t) (hI : MI p fun y => y ∈ c.w) (hL : (seenL c t).length ≤ big) :
    ∃ p', iterR (bodyX env N 9 [] 5) N (sB c t p.1 p.2 (minmax false [((c.s.map Sd.t).length : Int)] ((t.map fun l => T.sl 6 (l.map En.t)).length : Int)) 0) = .ok (.exit 2, sX c t p'.1 p'.2) ∧ MI p' (fun y => y ∈ seenL c t) := by
  have hbig := big_val
  have hbt := ht.1
  have hbs := h.s.1
  have e : bodyX env N 9 [] 5 = bodyL env N 9 0 8 := by kernel_rfl
  rw [e, minmax_min, List.length_map, List.length_map]
  generalize hn : ((min t.length c.s.length : Nat) : Int) = n
  have hget : ∀ {j : Nat} {r : List En}, (t.take c.s.length)[j]? = some r → t[j]? = some r ∧ j < c.s.length ∧ j < t.length := fun {j r} hr => by
    rw [List.getElem?_take] at hr
    split at hr
    · exact ⟨hr, by assumption, (List.getElem?_eq_some_iff.1 hr).1⟩
    · cases hr
  have hmono : ∀ j y, (y ∈ c.w ∨ y ∈ ((t.take c.s.length).take j).flatMap fun l => l.map En.x) → y ∈ seenL c t := fun j y hy => by
    unfold seenL
    rw [List.mem_append]
    refine hy.imp id fun hy => ?_
    obtain ⟨l, h1, h2⟩ := List.mem_flatMap.1 hy
    exact List.mem_flatMap.2 ⟨l, List.mem_of_mem_take h1, h2⟩
  have main : ∀ (p : List (T × T × Nat) × Nat) (j : Nat) (r : List En), (t.take c.s.length)[j]? = some r → MI p (fun y => y ∈ c.w ∨ y ∈ ((t.take c.s.length).take j).flatMap fun l => l.map En.x) →
      ∃ p', bodyL env N 9 0 8 (sB c t p.1 p.2 n (j : Int)) = .ok (.norm, sB c t p'.1 p'.2 n ((j + 1 : Nat) : Int)) ∧ MI p' (fun y => y ∈ c.w ∨ y ∈ ((t.take c.s.length).take (j + 1)).flatMap fun l => l.map En.x) := fun p j r hr hI => by
    obtain ⟨e1, hj1, hj2⟩ := hget hr
    obtain ⟨p', f1, f2⟩ := locC (n := n) hN (ht.2 r (List.mem_of_getElem? e1)).1 e1 hI (hmono j) (fun e he => by
      unfold seenL
      exact List.mem_append_right _ (List.mem_flatMap.2 ⟨r, List.mem_of_getElem? hr, List.mem_map_of_mem he⟩)) hL
    refine ⟨p', ?_, f2.iff fun y => ?_⟩
    · refine (b9_8 _ _ _ _ _ _ _).trans ?_
      rw [decide_eq_true (show (j : Int) < n by omega)]
      simp only [cond_true]
      rw [atT_get (tabs_get e1)]
      simp only [sllT]
      refine f1.trans ?_
      rw [← wrap_succ (show j ≤ big by omega)]
      exact t9_8_11_exit4 _ _ _ _ _ _ _
    · rw [List.take_add_one, hr, List.flatMap_append]
      simp [or_assoc]
  -- the tables, one by one
  have run : ∀ (k j : Nat) (M : Nat) (p : List (T × T × Nat) × Nat), j + k = (t.take c.s.length).length → k < M → MI p (fun y => y ∈ c.w ∨ y ∈ ((t.take c.s.length).take j).flatMap fun l => l.map En.x) →
      ∃ p', iterR (bodyL env N 9 0 8) M (sB c t p.1 p.2 n (j : Int)) = .ok (.exit 2, sX c t p'.1 p'.2) ∧ MI p' (fun y => y ∈ seenL c t) := by
    intro k
    induction k with
    | zero =>
      intro j M p hj hM hI
      obtain ⟨M, rfl⟩ : ∃ M', M = M' + 1 := ⟨M - 1, by omega⟩
      refine ⟨p, iterR_exit ?_, hI.iff fun y => ?_⟩
      · refine (b9_8 _ _ _ _ _ _ _).trans ?_
        rw [List.length_take] at hj
        rw [decide_eq_false (show ¬ (j : Int) < n by omega)]
        rfl
      · unfold seenL
        rw [List.take_of_length_le (by omega), List.mem_append]
    | succ k ih =>
      intro j M p hj hM hI
      obtain ⟨M, rfl⟩ : ∃ M', M = M' + 1 := ⟨M - 1, by omega⟩
      have hlt : j < (t.take c.s.length).length := by omega
      obtain ⟨p1, g1, g2⟩ := main p j _ (List.getElem?_eq_getElem hlt) hI
      obtain ⟨p2, g3, g4⟩ := ih (j + 1) M p1 (by omega) (by omega) g2
      refine ⟨p2, ?_, g4⟩
      simp only [iterR]
      rw [g1]
      exact g3
  exact run (t.take c.s.length).length 0 N p (by omega) (by rw [List.length_take]; omega) (hI.iff fun y => by simp)
end Go.Sim

/- decide.Loc's round over what it has seen. -/
namespace Go.Sim
open Go.RowKit Go.Proofs
set_option linter.unusedVariables false
set_option linter.unusedSimpArgs false
set_option linter.unusedSectionVars false
set_option maxRecDepth 100000
def opNx : Oper := { dst := some 59, op := .next (.tmp 58) false, type := 0, pos := "decide.go:48", after := #[], guard := none }
def opEn : Oper := { dst := some 61, op := .entry (.tmp 58), type := 0, pos := "decide.go:48", after := #[], guard := none }
/-- What has been taken of what has been seen. -/
def tookR (c : Cf) (t : List (List En)) (ks : List Px) (seen : List Nat) : List Ch := (seen.filterMap fun n => ks[n]?).filterMap (choiceR c t)
theorem tookR_add {c : Cf} {t : List (List En)} {ks : List Px} {seen : List Nat} {n : Nat} {x : Px} (h : ks[n]? = some x) : tookR c t ks (seen ++ [n]) = tookR c t ks seen ++ (choiceR c t x).toList := by
  unfold tookR
  rw [List.filterMap_append, List.filterMap_append]
  congr 1
  simp only [List.filterMap_cons, h, List.filterMap_nil]
  cases choiceR c t x <;> rfl
theorem tookR_len (c : Cf) (t : List (List En)) (ks : List Px) (seen : List Nat) : (tookR c t ks seen).length ≤ seen.length := Nat.le_trans (List.length_filterMap_le _ _) (List.length_filterMap_le _ _)
theorem tookR_all {ks : List Px} {seen : List Nat} (hn : seen.Nodup) (hk : ks.Nodup) (hs : ∀ n ∈ seen, n < ks.length) (ha : ∀ n, n < ks.length → n ∈ seen) : (seen.filterMap fun n => ks[n]?).Nodup ∧ ∀ y, y ∈ (seen.filterMap fun n => ks[n]?) ↔ y ∈ ks := by
  refine ⟨?_, fun y => ?_⟩
  · unfold List.Nodup at *
    rw [List.pairwise_filterMap]
    refine List.Pairwise.imp_of_mem (fun {a b} ha' hb' hab x hx y hy e => ?_) hn
    subst e
    obtain ⟨h1, h2⟩ := List.getElem?_eq_some_iff.1 hx
    obtain ⟨h3, h4⟩ := List.getElem?_eq_some_iff.1 hy
    have hw := List.pairwise_iff_getElem.1 hk
    rcases Nat.lt_trichotomy a b with hl | hl | hl
    · exact hw a b h1 h3 hl (h2.trans h4.symm)
    · exact hab hl
    · exact hw b a h3 h1 hl (h4.trans h2.symm)
  · rw [List.mem_filterMap]
    constructor
    · rintro ⟨n, _, h⟩; exact List.mem_of_getElem? h
    · intro h
      obtain ⟨n, h1, h2⟩ := List.getElem_of_mem h
      exact ⟨n, ha n h1, by rw [List.getElem?_eq_getElem h1, h2]⟩
theorem MapL.mem {es : List (T × T × Nat)} {cc : Nat} {ks : List Px} (h : MapL es cc ks) {e : T × T × Nat} (he : e ∈ es) : ∃ x v, ks[e.2.2]? = some x ∧ e = (x.t, i64 v, e.2.2) ∧ e.2.2 < es.length ∧ entE es e.2.2 = some e := by
  obtain ⟨i, hi, hie⟩ := List.getElem_of_mem he
  have hl := h.len
  obtain ⟨v, hv⟩ := h.at (show i < ks.length by omega)
  rw [List.getElem?_eq_getElem hi, hie] at hv
  simp only [Option.some.injEq] at hv
  have h3 : e.2.2 = i := by rw [hv]
  have hst : ∀ j (hj : j < es.length), es[j].2.2 = j := fun j hj => by
    have := congrArg (fun z => z[j]?) h.st
    simpa [List.getElem?_range hj, List.getElem?_eq_getElem hj] using this
  refine ⟨ks[i], v, by rw [h3, List.getElem?_eq_getElem (by omega)], by rw [h3]; exact hv, by omega, ?_⟩
  unfold entE
  rw [List.find?_eq_some_iff_getElem]
  refine ⟨by simp, i, hi, hie, fun j hj => ?_⟩
  rw [hst j (by omega), h3]
  simp; omega
variable [Lv]
/-- What holds at the loop's head. -/
def InvR (c : Cf) (t : List (List En)) (es : List Ent) (cc : Nat) (ks : List Px) (m : Nat) (st : St) : Prop := ∃ seen : List Nat, st = sR c t es cc cc cc seen (tookR c t ks seen) ∧ seen.Nodup ∧ (∀ n ∈ seen, n < es.length) ∧ m + seen.length = es.length
theorem best_opt {c : Cf} {t : List (List En)} {x : Px} {r : List Ch} : r ++ (choiceR c t x).toList = (match bestR (thoseR c t x) with | some q => r ++ [⟨x, q⟩] | none => r) := by
  unfold choiceR
  cases bestR (thoseR c t x) <;> simp
theorem locR_step {N : Nat} {c : Cf} {t : List (List En)} {es : List Ent} {cc : Nat} {ks : List Px} {Q : Ex → St → Prop} (hN : big + 80 ≤ N) (h : c.ok) (ht : okT t) (hm : MapL es cc ks) (hlen : ks.length * 128 ≤ big) (hk : ∀ x ∈ ks, x.ok)
    (hend : ∀ seen, seen.Nodup → (∀ n ∈ seen, n < es.length) → (∀ n, n < es.length → n ∈ seen) → partD env N 9 [] 9 (sE (tookR c t ks seen)) Q) (m : Nat) (st : St) (hI : InvR c t es cc ks m st) :
    partD env N 9 ([] ++ [8]) 0 st fun e st => e.kP (∃ m', m' < m ∧ InvR c t es cc ks m' (canon 0 (hintX env 9 [] 8).1 st))
      (fun j => if j = 6 then partD env N 9 [] (8 + 1) (canon 0 (hintX env 9 [] 8).2 st) Q else Q (.exit j) (canon 0 (hintX env 9 [] 8).2 st)) (Q .ret (canon 0 (resTmps (funcE env 9)) st)) := by
  have hbig := big_val
  have hl := hm.len
  have hcc := hm.cc
  obtain ⟨seen, rfl, hn, hs, hmm⟩ := hI
  show partD env N 9 [8] 0 _ _
  refine partD_reg (by kernel_rfl) (of_decide_eq_true (by kernel_rfl)) ?_
  refine opD_step (o := opNx) (by kernel_rfl) ?_
  refine step_next (x := .tmp 58) (l := 2) (m := 3) (since := cc) (last := cc) (c := cc) (seen := seen) (es := es) rfl rfl (by kernel_rfl) rfl rfl (fun e he => ?_) ?_ (fun hf => ?_) fun e he => ?_
  · obtain ⟨_, _, _, _, h3, _⟩ := hm.mem he; omega
  · cases es with
    | nil => exact .inr (.inl rfl)
    | cons e0 r => obtain ⟨_, _, _, _, h3, _⟩ := hm.mem (e := e0) List.mem_cons_self; exact .inr (.inr ⟨e0, List.mem_cons_self, by omega⟩)
  · obtain ⟨st', g1, g2⟩ := exX_inv (zLF N c t es cc cc cc seen (tookR c t ks seen))
    refine opD_y 1 g1 ?_
    show partD env N 9 [] (8 + 1) (canon 0 (hintX env 9 [] 8).2 st') Q
    rw [g2]
    refine hend seen hn hs fun n hnl => ?_
    have hnk : n < ks.length := by omega
    obtain ⟨v, hv⟩ := hm.at hnk
    have := List.filter_eq_nil_iff.1 hf _ (List.mem_of_getElem? hv)
    simpa using this
  · obtain ⟨he1, he2⟩ := List.mem_filter.1 he
    obtain ⟨x, v, k1, k2, k3, k4⟩ := hm.mem he1
    have hns : e.2.2 ∉ seen := by simpa using he2
    generalize e.2.2 = n at k1 k2 k3 k4 hns
    subst k2
    refine opD_y 1 (zLT0 N c t es cc cc cc seen (tookR c t ks seen) x v n) ?_
    refine partD_block (p := [8]) (i := 2) (id := 7) (c := innerC ((partsC env 9 [8]).getD 2 .skip)) (by kernel_rfl) (by kernel_rfl) ?_
    show partD env N 9 [8, 2] 0 _ _
    refine partD_reg (by kernel_rfl) (of_decide_eq_true (by kernel_rfl)) ?_
    refine opD_step (o := opEn) (by kernel_rfl) ?_
    refine step_entry (x := .tmp 58) (l := 2) (m := 3) (since := cc) (c := cc) (n := n) (seen := seen) (es := es) (e := (x.t, i64 v, n)) rfl rfl (by kernel_rfl) rfl rfl k4 ?_
    show opD env N 9 [8, 2] 0 1 (sT c t es cc cc (seen ++ [n]) (tookR c t ks seen) x v) _
    have hxo := hk x (List.mem_of_getElem? k1)
    have hto := those_step_ok (x := x) h ht
    have hth := those_short (c := c) (t := t) (x := x)
    have hq : okL Rt.ok (thoseR c t x) := ⟨by
      have := those_len (c := c) (t := t) (x := x)
      unfold thoseR
      cases hcs : csane c with
      | false => simp
      | true =>
        have := (csane_parts hcs).2.2.2.2
        have h1 := List.length_filterMap_le (fun (k : Nat) => (t[k]?).bind fun l => (getE l x).bind fun p => inR c (k : Int) x p) (List.range (min t.length c.s.length))
        rw [List.length_range] at h1
        simp only [if_true, List.length_append]
        split <;> simp <;> omega, hto⟩
    obtain ⟨M, rfl⟩ := exM (show 1 ≤ N by omega)
    have z1 := zLT1 (M + 1) c t es cc cc (seen ++ [n]) (tookR c t ks seen) x v
    rw [cl_ok (f13_ok (by omega) h ht hxo), cl_ok (f28_ok (by omega) hq), optR_eq] at z1
    simp only [compT, List.getElem?_cons_zero, List.getElem?_cons_succ, rt_chk, chk_true] at z1
    refine opD_t (k := 2) z1 ?_
    have hnext : ∀ {r' : List Ch} {st2 : St}, r' = tookR c t ks (seen ++ [n]) → canon 0 (hintX env 9 [] 8).1 st2 = sR c t es cc cc cc (seen ++ [n]) r' → ∃ m', m' < m ∧ InvR c t es cc ks m' (canon 0 (hintX env 9 [] 8).1 st2) := fun {r' st2} e1 e2 => by
      have hlt : (seen ++ [n]).length ≤ es.length := nodup_lt _ _ (by
        rw [List.nodup_append]
        exact ⟨hn, by simp, fun a ha b hb e => by rw [List.mem_singleton.1 hb] at e; exact hns (e ▸ ha)⟩) (fun y hy => by
        rcases List.mem_append.1 hy with hy | hy
        · exact hs y hy
        · rw [List.mem_singleton.1 hy]; exact k3)
      rw [List.length_append, List.length_singleton] at hlt
      refine ⟨m - 1, by omega, seen ++ [n], by rw [e2, e1], ?_, ?_, by rw [List.length_append, List.length_singleton]; omega⟩
      · rw [List.nodup_append]
        exact ⟨hn, by simp, fun a ha b hb e => by rw [List.mem_singleton.1 hb] at e; exact hns (e ▸ ha)⟩
      · intro y hy
        rcases List.mem_append.1 hy with hy | hy
        · exact hs y hy
        · rw [List.mem_singleton.1 hy]; exact k3
    have fin : ∀ (Q2 : Ex → St → Prop) (q : Rt) (b : Bool) (x1 x2 : T) (r' : List Ch), seqT env (M + 1) 9 [8, 2] 3 1 (sU c t es cc cc (seen ++ [n]) (tookR c t ks seen) x v x1 x2 q b) (canT env 9 [] 8) = .ok (.norm, sR c t es cc cc cc (seen ++ [n]) r') →
        (∀ st2, canon 0 (hintX env 9 [] 8).1 st2 = sR c t es cc cc cc (seen ++ [n]) r' → Q2 .norm st2) → partD env (M + 1) 9 [8, 2] (0 + 1 + 2) (sU c t es cc cc (seen ++ [n]) (tookR c t ks seen) x v x1 x2 q b) Q2 := fun Q2 q b x1 x2 r' hz hQ => by
      obtain ⟨st2, y1, y2⟩ := seqT_inv hz
      refine partD_x (e := .norm) 1 y1 ?_
      exact partD_end (by kernel_rfl) (hQ st2 y2)
    have htk := tookR_len c t ks seen
    have hsl : seen.length ≤ es.length := by omega
    have hadd := tookR_add (c := c) (t := t) (seen := seen) k1
    rw [best_opt] at hadd
    cases hb : bestR (thoseR c t x) with
    | none =>
      rw [hb] at hadd
      exact fin _ zRt false _ _ (tookR c t ks seen) (zLUfalse _ _ _ _ _ _ _ _ _ _ _ _ _) fun st2 e2 => partD_end (by kernel_rfl) (hnext hadd.symm e2)
    | some q =>
      rw [hb] at hadd
      refine fin _ q true _ _ (tookR c t ks seen ++ [⟨x, q⟩]) ?_ fun st2 e2 => partD_end (by kernel_rfl) (hnext hadd.symm e2)
      rw [zLUtrue]
      rw [show ∀ K : Res (Ex × St), chkAll (T.okE 8) [T.agg [i64 x.a, i64 x.n, i64 q.n, i64 q.p.o, T.sl 1 (ints q.p.s), i64 q.p.h, i64 q.p.c, i64 q.f]] K = K from fun K => rfl, decide_eq_true (by rw [List.length_map]; omega), chk_true]
      unfold sR
      rw [List.map_append]; rfl
end Go.Sim

/- Trees tell their data. -/
namespace Go.Sim
set_option linter.unusedVariables false
set_option linter.unusedSimpArgs false
theorem map_tells {α : Type} {f : α → T} (h : ∀ a b, f a = f b → a = b) : ∀ {l m : List α}, l.map f = m.map f → l = m
  | [], [], _ => rfl
  | [], _ :: _, e => by simp at e
  | _ :: _, [], e => by simp at e
  | a :: l, b :: m, e => by
    simp only [List.map_cons, List.cons.injEq] at e
    rw [h a b e.1, map_tells h e.2]
theorem i64_tells (a b : Int) (h : i64 a = i64 b) : a = b := by injection h
theorem ints_tells {l m : List Int} (h : ints l = ints m) : l = m := map_tells i64_tells h
theorem Px.tells (x y : Px) (h : x.t = y.t) : x = y := by
  cases x; cases y
  simp only [Px.t, T.agg.injEq, List.cons.injEq, and_true] at h
  rw [i64_tells _ _ h.1, i64_tells _ _ h.2]
theorem En.tells (x y : En) (h : x.t = y.t) : x = y := by
  obtain ⟨⟨a, n⟩, ⟨o, s, hh, c⟩⟩ := x
  obtain ⟨⟨a', n'⟩, ⟨o', s', hh', c'⟩⟩ := y
  simp only [En.t, T.agg.injEq, List.cons.injEq, T.sl.injEq, and_true, true_and] at h
  obtain ⟨h1, h2, h3, h4, h5, h6⟩ := h
  rw [i64_tells _ _ h1, i64_tells _ _ h2, i64_tells _ _ h3, ints_tells h4, i64_tells _ _ h5, i64_tells _ _ h6]
theorem Ru.tells (x y : Ru) (h : x.t = y.t) : x = y := by
  obtain ⟨m, ⟨a, n⟩, v, b, k⟩ := x
  obtain ⟨m', ⟨a', n'⟩, v', b', k'⟩ := y
  simp only [Ru.t, T.agg.injEq, List.cons.injEq, and_true] at h
  obtain ⟨h1, h2, h3, h4, h5, h6⟩ := h
  rw [i64_tells _ _ h1, i64_tells _ _ h2, i64_tells _ _ h3, i64_tells _ _ h4, i64_tells _ _ h5, i64_tells _ _ h6]
theorem Sd.tells (x y : Sd) (h : x.t = y.t) : x = y := by
  obtain ⟨a, r, i, o⟩ := x
  obtain ⟨a', r', i', o'⟩ := y
  simp only [Sd.t, T.agg.injEq, List.cons.injEq, T.sl.injEq, and_true, true_and] at h
  obtain ⟨h1, h2, h3, h4⟩ := h
  rw [i64_tells _ _ h1, i64_tells _ _ h2, map_tells Ru.tells h3, map_tells Ru.tells h4]
theorem Cf.tells (x y : Cf) (h : x.t = y.t) : x = y := by
  obtain ⟨a, d, k, m, w, s⟩ := x
  obtain ⟨a', d', k', m', w', s'⟩ := y
  simp only [Cf.t, T.agg.injEq, List.cons.injEq, T.sl.injEq, and_true, true_and] at h
  obtain ⟨h1, h2, h3, h4, h5, h6⟩ := h
  rw [i64_tells _ _ h1, i64_tells _ _ h2, i64_tells _ _ h3, i64_tells _ _ h4, map_tells Px.tells h5, map_tells Sd.tells h6]
theorem tabs_tells {t t' : List (List En)} (h : (t.map fun l => T.sl 6 (l.map En.t)) = t'.map fun l => T.sl 6 (l.map En.t)) : t = t' := map_tells (fun a b e => by
  simp only [T.sl.injEq, true_and] at e
  exact map_tells En.tells e) h
end Go.Sim

/- decide.Loc: what is leant on of it, and what its callers meet. -/
namespace Go.Sim
open Go.RowKit Go.Proofs
set_option linter.unusedVariables false
set_option linter.unusedSimpArgs false
set_option linter.unusedSectionVars false
set_option maxRecDepth 100000
def opSo : Oper := { dst := some 79, op := .call { callee := .value (.func 29), args := #[.tmp 78, .func 30], argTypes := #[42, 80] }, type := 0, pos := "decide.go:53", after := #[{ on := 0, ground := .data }], guard := none }
theorem seen_ok {c : Cf} {t : List (List En)} (h : c.ok) (ht : okT t) : ∀ x ∈ seenL c t, x.ok := fun x hx => by
  unfold seenL at hx
  rcases List.mem_append.1 hx with hx | hx
  · exact h.w.2 x hx
  · obtain ⟨l, h1, h2⟩ := List.mem_flatMap.1 hx
    obtain ⟨e, h3, rfl⟩ := List.mem_map.1 h2
    exact ((ht.2 l (List.mem_of_mem_take h1)).2 e h3).x
variable [Lv]
theorem choice_ok {c : Cf} {t : List (List En)} {x : Px} {e : Ch} (h : c.ok) (ht : okT t) (hx : x.ok) (he : choiceR c t x = some e) : e.ok := by
  obtain ⟨h1, h2⟩ := choice_some.1 he
  exact ⟨by rw [h1]; exact hx, those_step_ok h ht _ (best_spec h2).1⟩
theorem sort_nil {M : Nat} (hM : 60 ≤ M) : callP env M 29 [T.sl 8 [], T.fn 30 [] []] = .ok (.tup []) := by
  obtain ⟨m, rfl⟩ : ∃ m, M = (m + 30) + 30 := ⟨M - 60, by omega⟩
  exact callP_run (tbl := []) tab_nil 30 (by kernel_rfl)
def endR (l : List Ch) : PV → List AObj → Prop := fun r H' => outK env 9 r H' = .ok (.sl 8 (l.map Ch.t))
theorem loc_end {l : List Ch} {st : St} (h1 : resultsK env st (funcE env 9).results.toList (fun ps => (.ok (pvRes ps, st.heap) : Res (PV × List AObj))) = .ok (.own 0, [.row 49 8 (l.map Ch.t)])) : endD env (funcE env 9) (endR l) st := ⟨_, _, h1, rfl⟩
theorem loc_funD {N : Nat} (he : EnvOk env) (hN : big + 80 ≤ N) {c : Cf} {t : List (List En)} (h : c.ok) (ht : okT t) (hr : roomT c t) : funD env (recOf env N) 9 ([c.t, .sl 1 (tabT t)].map .t) [] (endR (locR c t)) := by
  have hbig := big_val
  unfold roomT at hr
  have hL : (seenL c t).length ≤ big := by omega
  refine funD_parts ⟨funcE env 9, by kernel_rfl, by kernel_rfl⟩ ?_
  obtain ⟨p, a1, a2⟩ := locA (N := N) (t := t) hN h hL
  refine partD_xloop (i := 0) 3 (id := 0) (s := sA c t [] 0 0) (X := sX c t p.1 p.2) (c := innerC ((partsC env 9 []).getD 3 .skip)) (zLA N c t) (by kernel_rfl) a1 ?_
  obtain ⟨p', b1, b2⟩ := locB hN h ht a2 hL
  refine partD_xloop (i := 4) 1 (id := 2) (X := sX c t p'.1 p'.2) (c := innerC ((partsC env 9 []).getD 5 .skip)) (zLB N c t p.1 p.2) (by kernel_rfl) b1 ?_
  obtain ⟨ks, hm, hks⟩ := b2
  have hkl : ks.length ≤ (seenL c t).length := nodup_sub ks _ hm.nd fun y hy => (hks y).1 hy
  obtain ⟨st', g1, g2⟩ := canX_inv (zLR N c t p'.1 p'.2)
  have hkok : ∀ x ∈ ks, x.ok := fun x hx => seen_ok h ht x ((hks x).1 hx)
  refine partD_y (i := 6) 2 g1 ?_
  refine partD_rloop (i := 6 + 2) (id := 6) (c := innerC ((partsC env 9 []).getD 8 .skip)) (by kernel_rfl) (by kernel_rfl) (InvR c t p'.1 p'.2 ks) (m := p'.1.length) ?_ fun m st hI => locR_step hN h ht hm (by omega) hkok ?_ m st hI
  · show InvR c t p'.1 p'.2 ks p'.1.length (canon 0 (hintX env 9 [] 8).1 st')
    rw [g2]
    exact ⟨[], rfl, List.nodup_nil, by simp, by simp⟩
  intro seen hn hs hall
  have hlen := hm.len
  obtain ⟨v1, v2⟩ := tookR_all hn hm.nd (fun n hx => by have := hs n hx; omega) fun n hx => hall n (by omega)
  have hv : ∀ x, x ∈ (seen.filterMap fun n => ks[n]?) ↔ x ∈ seenL c t := fun x => (v2 x).trans (hks x)
  have hsl : seen.length ≤ ks.length := by rw [← hlen]; exact nodup_lt _ _ hn hs
  have htl := tookR_len c t ks seen
  have hrok : okL Ch.ok (tookR c t ks seen) := ⟨by omega, fun e he => by
    obtain ⟨x, h1, h2⟩ := List.mem_filterMap.1 he
    exact choice_ok h ht (hkok x ((v2 x).1 h1)) h2⟩
  by_cases hne : tookR c t ks seen = []
  · rw [hne]
    have hz := zLE N
    rw [cl_ok (sort_nil (by omega))] at hz
    refine partD_x (e := .ret) 3 hz ?_
    have : locR c t = [] := (loc_unique (ys := []) hv v1 (by rw [show (seen.filterMap fun n => ks[n]?).filterMap (choiceR c t) = [] from hne]) List.Pairwise.nil).symm
    rw [this]
    exact loc_end (l := []) (by kernel_rfl)
  · generalize hl : tookR c t ks seen = l at hne hrok htl
    refine partD_reg (by kernel_rfl) (of_decide_eq_true (by kernel_rfl)) ?_
    refine opD_x 1 (zLS0 N l) ?_
    refine opD_step (o := opSo) (by kernel_rfl) ?_
    refine step_sort (l := 0) (e := 49) (k := 8) (xs := l.map Ch.t) (rest := [.fn 30 [] []]) rfl rfl (by kernel_rfl) rfl (by simpa using hne) (sort_choice he hne hrok) ?_
    rintro ys ⟨m, rfl, m1, m2⟩
    refine opD_end (by kernel_rfl) ?_
    have hz := zLS1 N l m
    rw [zLS0] at hz
    refine partD_x (e := .ret) 2 hz ?_
    have : m = locR c t := loc_unique hv v1 (by unfold tookR at hl; rw [hl]; exact m1) m2
    rw [this]
    exact loc_end (l := locR c t) (by kernel_rfl)
/-- What is leant on of it. -/
noncomputable def locG (ts : List T) : Res T := open Classical in if h : ∃ q : Cf × List (List En), ts = [q.1.t, .sl 1 (tabT q.2)] ∧ q.1.ok ∧ okT q.2 ∧ roomT q.1 q.2 then .ok (.sl 8 ((locR h.choose.1 h.choose.2).map Ch.t)) else .stuck
theorem locG_ok {c : Cf} {t : List (List En)} (h : c.ok) (ht : okT t) (hr : roomT c t) : locG [c.t, .sl 1 (tabT t)] = .ok (.sl 8 ((locR c t).map Ch.t)) := by
  have hx : ∃ q : Cf × List (List En), [c.t, .sl 1 (tabT t)] = [q.1.t, .sl 1 (tabT q.2)] ∧ q.1.ok ∧ okT q.2 ∧ roomT q.1 q.2 := ⟨(c, t), rfl, h, ht, hr⟩
  unfold locG
  rw [dif_pos hx]
  have e := hx.choose_spec.1
  generalize hx.choose = q at e ⊢
  obtain ⟨c', t'⟩ := q
  simp only [List.cons.injEq, T.sl.injEq, and_true, true_and] at e
  have e1 := Cf.tells _ _ e.1
  have e2 : t = t' := tabs_tells e.2
  subst e1; subst e2
  rfl
end Go.Sim

/- The frames: first one without contracts, then one that has decide.Loc's. -/
namespace Go.Sim
open Go.RowKit Go.Proofs
set_option linter.unusedVariables false
set_option linter.unusedSimpArgs false
set_option linter.unusedSectionVars false
set_option maxRecDepth 100000
@[reducible] def lv0 : Lv := ⟨none, none⟩
theorem ok0 : EnvOk (@env lv0) := @env_ok_of lv0 (fun e h => by cases h)
theorem loc_ext : ExtOk (@env lv0) 9 (locG) := by
  refine extD_ok ok0 (f := 9) (G := locG) fun ts hw hne => ?_
  letI := lv0
  by_cases hc : ∃ q : Cf × List (List En), ts = [q.1.t, .sl 1 (tabT q.2)] ∧ q.1.ok ∧ okT q.2 ∧ roomT q.1 q.2
  · obtain ⟨⟨c, t⟩, rfl, h1, h2, h3⟩ := hc
    exact ⟨big + 80, _, locG_ok h1 h2 h3, loc_funD ok0 (Nat.le_refl _) h1 h2 h3⟩
  · refine absurd ?_ hne
    unfold locG
    exact dif_neg hc
@[reducible] noncomputable def lv1 : Lv := ⟨some (locG), none⟩
theorem ok1 : EnvOk (@env lv1) := @env_ok_of lv1 fun e h => by
  have h : some (locG) = some e := h
  injection h with h
  subst h
  exact ExtOk.env (E := @env lv0) (E' := @env lv1) rfl rfl loc_ext
noncomputable instance lvI : Lv := lv1
theorem env_ok : EnvOk env := ok1
theorem f9_ok {M : Nat} {c : Cf} {t : List (List En)} (h : c.ok) (ht : okT t) (hr : roomT c t) : callP env M 9 [c.t, .sl 1 (tabT t)] = .ok (.sl 8 ((locR c t).map Ch.t)) := by
  have e : callP env M 9 [c.t, .sl 1 (tabT t)] = bif T.wfs [c.t, .sl 1 (tabT t)] then locG [c.t, .sl 1 (tabT t)] else .absurd := rfl
  rw [e, wfs2 h.wf ht.wf]
  exact locG_ok h ht hr
end Go.Sim

/- Layer 19: what its statements begin with. -/
namespace Go.Sim
open Go.RowKit Go.Proofs
set_option linter.unusedVariables false
set_option linter.unusedSimpArgs false
set_option linter.unusedSectionVars false
set_option maxRecDepth 100000
def nodeD : Cf := ⟨1, 9, 0, 9, [⟨167772160, 8⟩], [⟨2, 1, [⟨0, ⟨0, 0⟩, 0, 2, 300⟩], []⟩]⟩
theorem nodeD_ok : nodeD.ok := ⟨rfl, rfl, rfl, rfl, okL_one ⟨rfl, rfl⟩, okL_one ⟨rfl, rfl, okL_one ⟨rfl, ⟨rfl, rfl⟩, rfl, rfl, rfl⟩, okL_nil⟩⟩
def pathD : Pa := ⟨0, [2], 5, 0⟩
theorem pathD_ok : pathD.ok := ⟨rfl, show 1 ≤ big by decide, fun x hx => (by rw [List.mem_singleton.1 hx]; rfl), rfl, rfl⟩
def tabD : List (List En) := [[⟨⟨167772160, 8⟩, pathD⟩, ⟨⟨184549376, 8⟩, pathD⟩]]
theorem tabD_ok : okT tabD := okL_one (okL_two ⟨⟨rfl, rfl⟩, pathD_ok⟩ ⟨⟨rfl, rfl⟩, pathD_ok⟩)
theorem roomD : roomT nodeD tabD := show 3 * 128 ≤ big by decide
theorem f4_ok {M : Nat} (hM : big ≤ M) : callP env (M + 1) 4 [] = .ok (.bool true) := by
  have := big_val
  obtain ⟨m, rfl⟩ : ∃ m, M = (m + 200) + 39 := ⟨M - 239, by omega⟩
  exact callP_run (tbl := [(9, [nodeD.t, .sl 1 (tabT tabD)], .sl 8 ((locR nodeD tabD).map Ch.t))]) (tab_cons (fun M _ => f9_ok nodeD_ok tabD_ok roomD) tab_nil) 40 (by kernel_rfl)
theorem f5_ok {M : Nat} {c : Cf} {t : List (List En)} (hM : big + 4 ≤ M) (h : c.ok) (ht : okT t) : callP env (M + 1) 5 [c.t, .sl 1 (tabT t)] = .ok (.bool (few12 c && fewT t)) := by
  obtain ⟨m, rfl⟩ := exM (show 1 ≤ M by omega)
  rw [q5, W_ok (wfs2 h.wf ht.wf), clB_ok (f15_ok (by omega) h), cl_ok (f16_ok (by omega) ht)]
  cases few12 c <;> rfl
theorem flat_le {α β : Type} {f : α → List β} {k : Nat} : ∀ {l : List α}, (∀ x ∈ l, (f x).length ≤ k) → (l.flatMap f).length ≤ l.length * k
  | [], _ => by simp
  | x :: l, h => by
    rw [List.flatMap_cons, List.length_append, List.length_cons, Nat.succ_mul]
    have h1 := h x List.mem_cons_self
    have h2 := flat_le (l := l) fun y hy => h y (List.mem_cons_of_mem _ hy)
    omega
theorem few_parts {c : Cf} {t : List (List En)} (h1 : few12 c = true) (h2 : fewT t = true) : c.w.length ≤ 20 ∧ c.s.length ≤ 20 ∧ t.length ≤ 10 ∧ ∀ l ∈ t, l.length ≤ 40 := by
  unfold few12 at h1
  unfold fewT at h2
  simp only [Bool.and_eq_true, decide_eq_true_eq, Bool.not_eq_true'] at h1 h2
  refine ⟨h1.2.1, h1.2.2, h2.2, fun l hl => ?_⟩
  have := List.any_eq_false.1 h2.1 l hl
  unfold fewE at this
  simp only [Bool.not_eq_true, Bool.not_eq_false', Bool.and_eq_true, decide_eq_true_eq] at this
  have := this.2
  omega
theorem seen_few {c : Cf} {t : List (List En)} (h1 : few12 c = true) (h2 : fewT t = true) : (seenL c t).length ≤ 420 := by
  obtain ⟨a1, a2, a3, a4⟩ := few_parts h1 h2
  unfold seenL
  rw [List.length_append]
  have := flat_le (f := fun l : List En => l.map En.x) (k := 40) (l := t.take c.s.length) fun l hl => by rw [List.length_map]; exact a4 l (List.mem_of_mem_take hl)
  have h3 : (t.take c.s.length).length ≤ t.length := by rw [List.length_take]; omega
  omega
theorem room_few {c : Cf} {t : List (List En)} (h1 : few12 c = true) (h2 : fewT t = true) : roomT c t := by
  have := seen_few h1 h2
  have := big_val
  unfold roomT
  omega
theorem loc_len (c : Cf) (t : List (List En)) : (locR c t).length ≤ (seenL c t).length := by
  unfold locR
  refine Nat.le_trans (List.length_filterMap_le _ _) ?_
  exact nodup_sub _ _ ((keys_sorted c t).imp fun h e => by subst e; exact ltP_irrefl _ h) fun x hx => mem_keys.1 hx
theorem loc_okL {c : Cf} {t : List (List En)} (h : c.ok) (ht : okT t) (hl : (seenL c t).length ≤ big) : okL Ch.ok (locR c t) := ⟨Nat.le_trans (loc_len c t) hl, fun e he => by
  obtain ⟨x, h1, h2⟩ := List.mem_filterMap.1 he
  exact @choice_ok lv0 c t x e h ht (seen_ok h ht x (mem_keys.1 h1)) h2⟩
theorem loc_okF {c : Cf} {t : List (List En)} (h : c.ok) (ht : okT t) (h1 : few12 c = true) (h2 : fewT t = true) : okL Ch.ok (locR c t) := loc_okL h ht (by have := seen_few h1 h2; have := big_val; omega)
end Go.Sim

/- What calls come to: printed by wip/tools/eq2.py: law 19. -/
namespace Go.Sim
open Go.RowKit Go.Proofs
set_option linter.unusedVariables false
set_option maxRecDepth 100000
variable [Lv]

def sDB (r : Rt) (ok is : Bool) (l : List Rt) (i : Int) : St := ⟨slots 77 [(7, .t (.bool true)), (8, .ptr 0 0), (9, .t (.bool ok)), (10, .t (.sl 6 (l.map Rt.t))), (11, .t (.bool is)), (12, .t (i64 i))], [.box 45 6 (.t r.t)]⟩
def sDR (c : Cf) (t : List (List En)) (l : List Ch) (i : Int) : St := ⟨slots 125 [(1, .t (.sl 1 (tabT t))), (2, .ptr 0 0), (5, .t (.bool true)), (6, .t (.sl 8 (l.map Ch.t))), (7, .t (i64 i))], [.box 25 6 (.t c.t)]⟩
def sDO (c : Cf) (l : List Ch) (i : Int) : St := ⟨slots 61 [(2, .ptr 0 0), (5, .t (.bool true)), (6, .t (.sl 8 (l.map Ch.t))), (7, .t (i64 i))], [.box 25 6 (.t c.t)]⟩
def sDL (k : Int) (l m : List Ch) (i : Int) : St := ⟨slots 126 [(2, .t (i64 k)), (7, .t (.bool true)), (9, .t (.sl 8 (l.map Ch.t))), (10, .t (.sl 8 (m.map Ch.t))), (11, .t (i64 i))], []⟩
def sDM (k : Int) (l m : List Ch) (i : Int) : St := ⟨slots 126 [(2, .t (i64 k)), (7, .t (.bool true)), (9, .t (.sl 8 (l.map Ch.t))), (10, .t (.sl 8 (m.map Ch.t))), (14, .t (i64 i))], []⟩
end Go.Sim

/- Layer 19: DecideIs. -/
namespace Go.Sim
open Go.RowKit Go.Proofs
set_option linter.unusedVariables false
set_option linter.unusedSimpArgs false
set_option linter.unusedSectionVars false
set_option maxRecDepth 100000
theorem wfq4 {x y z u : T} (h : x.wf = true) (h2 : y.wf = true) (h3 : z.wf = true) (h4 : u.wf = true) : T.wfs [x, y, z, u] = true := by simp [T.wfs, h, h2, h3, h4]
theorem getC_mem {l : List Ch} {x : Px} {r : Rt} (h : getC l x = some r) : ∃ e ∈ l, e.r = r ∧ e.x = x := by
  unfold getC at h
  obtain ⟨e, h1, h2⟩ := Option.map_eq_some_iff.1 h
  exact ⟨e, List.mem_of_find?_eq_some h1, h2, by simpa using List.find?_some h1⟩
theorem getC_ok {l : List Ch} {x : Px} (h : okL Ch.ok l) : ((getC l x).getD zRt).ok := by
  cases hg : getC l x with
  | none => exact zRt_ok
  | some r => obtain ⟨e, h1, rfl, _⟩ := getC_mem hg; exact (h.2 e h1).r
theorem those_okL {c : Cf} {t : List (List En)} {x : Px} (h : c.ok) (ht : okT t) : okL Rt.ok (thoseR c t x) := ⟨by
  have := those_len (c := c) (t := t) (x := x)
  have := ht.1
  unfold thoseR
  cases hcs : csane c with
  | false => simp
  | true =>
    have := (csane_parts hcs).2.2.2.2
    have h1 := List.length_filterMap_le (fun (k : Nat) => (t[k]?).bind fun l => (getE l x).bind fun p => inR c (k : Int) x p) (List.range (min t.length c.s.length))
    rw [List.length_range] at h1
    have := big_val
    simp only [if_true, List.length_append]
    split <;> simp <;> omega, @those_step_ok lv0 c t x h ht⟩
end Go.Sim

/- Layer 19: DecideBest, DecideOwn. -/
namespace Go.Sim
open Go.RowKit Go.Proofs
set_option linter.unusedVariables false
set_option linter.unusedSimpArgs false
set_option linter.unusedSectionVars false
set_option maxRecDepth 100000
theorem own_sane {c : Cf} (h : csane c = true) : rtsane (ownR c.d) = true := by
  obtain ⟨_, _, h1, h2, _⟩ := csane_parts h
  unfold rtsane asane7 ownR
  simp only [List.any_nil, Bool.not_false, Bool.true_and, List.length_nil, if_true]
  rw [show cmpR (Rt.mk 400 ⟨0, [], c.d, 0⟩ (-1)) ⟨400, ⟨0, [], c.d, 0⟩, -1⟩ = 0 from cmpR_zero.2 rfl, decide_eq_true h1, decide_eq_true h2]
  rfl
theorem those_sane {c : Cf} {t : List (List En)} {x : Px} {r : Rt} (h : r ∈ thoseR c t x) : rtsane r = true := by
  obtain ⟨h1, h2⟩ := mem_those.1 h
  rcases h2 with ⟨_, rfl⟩ | ⟨k, l, p, _, _, _, h4⟩
  · exact own_sane h1
  · exact (takes_law h4).2.1
theorem best_none {l : List Rt} (h : bestR l = none) : l = [] := by
  cases l with
  | nil => rfl
  | cons a l => cases h
theorem cmp_beq {a b : Rt} : (cmpR a b == 0) = decide (a = b) := by
  by_cases h : a = b
  · rw [decide_eq_true h, cmpR_zero.2 h]; rfl
  · rw [decide_eq_false h]
    have : cmpR a b ≠ 0 := fun e => h (cmpR_zero.1 e)
    simpa using this
theorem own_best {c : Cf} {t : List (List En)} {x : Px} (h : csane c = true) (hx : x ∈ c.w) : bestR (thoseR c t x) = some (ownR c.d) := by
  refine best_unique (mem_those.2 ⟨h, .inl ⟨hx, rfl⟩⟩) fun q hq => ?_
  rcases (mem_those.1 hq).2 with ⟨_, rfl⟩ | ⟨k, l, p, _, _, _, h4⟩
  · rw [cmpR_zero.2 rfl]; exact Int.le_refl _
  · obtain ⟨_, g1, g2, _⟩ := takes_law h4
    unfold rtsane at g1
    simp only [Bool.and_eq_true, decide_eq_true_eq] at g1
    have g3 := g1.2.2
    rw [if_neg (by omega)] at g3
    simp only [Bool.and_eq_true, decide_eq_true_eq] at g3
    have g4 := g3.2.2.2
    unfold cmpR ownR
    simp only [fnz]
    have : cmpI q.n 400 = -1 := by unfold cmpI; rw [if_pos g4]
    rw [this]
    simp
theorem own_nodup {c : Cf} (h : csane c = true) : c.w.Nodup ∧ ∀ x ∈ c.w, psane x = true := by
  have hf : freshB id psane [] c.w = true := by
    unfold csane at h
    simp only [Bool.and_eq_true] at h
    exact h.2.2.2.2.2.2.2.1
  refine ⟨?_, freshB_all hf⟩
  have hi := fresh_iff.1 hf
  unfold List.Nodup
  rw [List.pairwise_iff_getElem]
  intro i j hi' hj hij e
  have := (hi j c.w[j] (List.getElem?_eq_getElem hj)).1
  rw [List.nil_append, List.map_id_fun] at this
  have hm : c.w[j] ∈ c.w.take j := by
    rw [← e]
    exact List.mem_of_getElem? (i := i) (by rw [List.getElem?_take, if_pos hij, List.getElem?_eq_getElem hi'])
  simp [List.contains_iff_mem, hm] at this
end Go.Sim

/- Layer 19: DecideLost. -/
namespace Go.Sim
open Go.RowKit Go.Proofs
set_option linter.unusedVariables false
set_option linter.unusedSimpArgs false
set_option linter.unusedSectionVars false
set_option maxRecDepth 100000
theorem those_from {c : Cf} {t : List (List En)} {x : Px} {r : Rt} (h : r ∈ thoseR c t x) : r.f = -1 ∨ ∃ (k : Nat) (l : List En) (p : Pa), r.f = k ∧ k < c.s.length ∧ t[k]? = some l ∧ getE l x = some p ∧ inR c k x p = some r := by
  rcases (mem_those.1 h).2 with ⟨_, rfl⟩ | ⟨k, l, p, h1, h2, h3, h4⟩
  · exact .inl rfl
  · exact .inr ⟨k, l, p, (takes_law h4).2.2.1, h1, h2, h3, h4⟩
theorem get_nil (x : Px) : getE [] x = none := get_none.2 fun e he => absurd (known_sub he) (by simp)
/-- Without a side's table its routes are gone, and no others. -/
theorem mem_lost {c : Cf} {t : List (List En)} {x : Px} {r : Rt} {k : Nat} : r ∈ thoseR c (t.set k []) x ↔ r ∈ thoseR c t x ∧ r.f ≠ k := by
  constructor
  · intro h
    rcases mem_those.1 h with ⟨h0, ⟨hw, rfl⟩ | ⟨j, l, p, h1, h2, h3, h4⟩⟩
    · exact ⟨mem_those.2 ⟨h0, .inl ⟨hw, rfl⟩⟩, by show (-1 : Int) ≠ k; omega⟩
    · have hf := (takes_law h4).2.2.1
      rw [List.getElem?_set] at h2
      split at h2
      · split at h2
        · simp only [Option.some.injEq] at h2
          subst h2
          rw [get_nil] at h3; cases h3
        · cases h2
      · rename_i hne
        exact ⟨mem_those.2 ⟨h0, .inr ⟨j, l, p, h1, h2, h3, h4⟩⟩, by rw [hf]; omega⟩
  · rintro ⟨h, hn⟩
    rcases mem_those.1 h with ⟨h0, ⟨hw, rfl⟩ | ⟨j, l, p, h1, h2, h3, h4⟩⟩
    · exact mem_those.2 ⟨h0, .inl ⟨hw, rfl⟩⟩
    · have hf := (takes_law h4).2.2.1
      have hne : k ≠ j := fun e => hn (by rw [hf, e])
      exact mem_those.2 ⟨h0, .inr ⟨j, l, p, h1, by rw [List.getElem?_set_ne hne]; exact h2, h3, h4⟩⟩
theorem lost_same {c : Cf} {t : List (List En)} {e : Ch} {k : Nat} (h : e ∈ locR c t) (hn : e.r.f ≠ k) : getC (locR c (t.set k [])) e.x = some e.r := by
  rw [get_loc]
  obtain ⟨h1, h2⟩ := best_spec (mem_loc.1 h)
  exact best_unique (mem_lost.2 ⟨h1, hn⟩) fun q hq => h2 q (mem_lost.1 hq).1
theorem lost_worse {c : Cf} {t : List (List En)} {e : Ch} {k : Nat} {r : Rt} (h : e ∈ locR c t) (hn : e.r.f = k) (hr : getC (locR c (t.set k [])) e.x = some r) : decide (cmpR r e.r ≤ 0) = false := by
  rw [get_loc] at hr
  obtain ⟨h1, h2⟩ := mem_lost.1 (best_spec hr).1
  have h3 := (best_spec (mem_loc.1 h)).2 r h1
  refine decide_eq_false fun h4 => h2 ?_
  rw [← hn, cmpR_anti h4 h3]
theorem lost_none {c : Cf} {t : List (List En)} {e : Ch} {k : Nat} (h : e ∈ locR c (t.set k [])) : e.r.f ≠ k := (mem_lost.1 (best_spec (mem_loc.1 h)).1).2
theorem rise_nodup {l : List Ch} (h : RiseC l) : (l.map Ch.x).Nodup := by
  unfold List.Nodup
  rw [List.pairwise_map]
  refine List.Pairwise.imp ?_ h
  intro a b h e
  rw [e] at h
  exact ltP_irrefl _ h
theorem lost_len (c : Cf) (t : List (List En)) (k : Nat) : (locR c (t.set k [])).length ≤ (locR c t).length := by
  have := nodup_sub ((locR c (t.set k [])).map Ch.x) ((locR c t).map Ch.x) (rise_nodup (loc_sorted _ _)) fun x hx => by
    obtain ⟨e, he, rfl⟩ := List.mem_map.1 hx
    have h1 := (mem_lost.1 (best_spec (mem_loc.1 he)).1).1
    cases hb : bestR (thoseR c t e.x) with
    | none => rw [best_none hb] at h1; cases h1
    | some q => exact List.mem_map.2 ⟨⟨e.x, q⟩, mem_loc.2 hb, rfl⟩
  simpa using this
theorem seen_set {c : Cf} {t : List (List En)} {k : Nat} (h1 : few12 c = true) (h2 : fewT t = true) : (seenL c (t.set k [])).length ≤ 420 := by
  obtain ⟨a1, a2, a3, a4⟩ := few_parts h1 h2
  unfold seenL
  rw [List.length_append]
  have := flat_le (f := fun l : List En => l.map En.x) (k := 40) (l := (t.set k []).take c.s.length) fun l hl => by
    rw [List.length_map]
    rcases List.mem_or_eq_of_mem_set (List.mem_of_mem_take hl) with hl | hl
    · exact a4 l hl
    · rw [hl]; exact Nat.zero_le _
  have h3 : ((t.set k []).take c.s.length).length ≤ t.length := by rw [List.length_take, List.length_set]; omega
  omega
theorem okT_set {t : List (List En)} {k : Nat} (h : okT t) : okT (t.set k []) := ⟨by rw [List.length_set]; exact h.1, fun l hl => by
  rcases List.mem_or_eq_of_mem_set hl with hl | hl
  · exact h.2 l hl
  · rw [hl]; exact okL_nil⟩
end Go.Sim

/- More that is told, on plain data. -/
namespace Go.Sim
open Go.RowKit Go.Proofs
set_option linter.unusedVariables false
set_option linter.unusedSimpArgs false
set_option linter.unusedSectionVars false
def nwM (x : Px) (p : Pa) : Nw := ⟨[], p, [x]⟩
theorem told_one {x y : Px} {p : Pa} (h : Told p [x] y) : y = x := by
  unfold Told at h
  simpa using h.1
theorem getE_more {l : List En} {x : Px} {p : Pa} (hn : getE l x = none) {y : Px} {q : Pa} : getE (applyE l (nwM x p)) y = some q ↔ getE l y = some q ∨ (y = x ∧ q = p ∧ Told p [x] x) := by
  rw [get_iff, get_iff, known_apply, mem_apply]
  constructor
  · rintro (⟨h1, h2⟩ | ⟨h1, _, _⟩)
    · have := told_one h1
      subst this
      exact .inr ⟨rfl, h2, h1⟩
    · exact .inl h1
  · rintro (h | ⟨rfl, rfl, h⟩)
    · refine .inr ⟨h, by simp [nwM], fun ht => ?_⟩
      have := told_one ht
      exact get_none.1 hn _ h this
    · exact .inl ⟨h, rfl⟩
theorem mem_more {c : Cf} {t : List (List En)} {l : List En} {n : Nat} {x y : Px} {p : Pa} {r : Rt} (hl : t[n]? = some l) (hn : getE l x = none) : (r ∈ thoseR c t y → r ∈ thoseR c (t.set n (applyE l (nwM x p))) y) ∧ (y ≠ x → r ∈ thoseR c (t.set n (applyE l (nwM x p))) y → r ∈ thoseR c t y) := by
  have hlt := (List.getElem?_eq_some_iff.1 hl).1
  constructor
  · intro h
    rcases mem_those.1 h with ⟨h0, h1 | ⟨j, l', q, h1, h2, h3, h4⟩⟩
    · exact mem_those.2 ⟨h0, .inl h1⟩
    · by_cases e : n = j
      · subst e
        rw [hl] at h2
        simp only [Option.some.injEq] at h2
        subst h2
        exact mem_those.2 ⟨h0, .inr ⟨n, _, q, h1, by rw [List.getElem?_set_self hlt], (getE_more hn).2 (.inl h3), h4⟩⟩
      · exact mem_those.2 ⟨h0, .inr ⟨j, l', q, h1, by rw [List.getElem?_set_ne e]; exact h2, h3, h4⟩⟩
  · intro hy h
    rcases mem_those.1 h with ⟨h0, h1 | ⟨j, l', q, h1, h2, h3, h4⟩⟩
    · exact mem_those.2 ⟨h0, .inl h1⟩
    · by_cases e : n = j
      · subst e
        rw [List.getElem?_set_self hlt] at h2
        simp only [Option.some.injEq] at h2
        subst h2
        rcases (getE_more hn).1 h3 with h5 | ⟨h5, _⟩
        · exact mem_those.2 ⟨h0, .inr ⟨n, l, q, h1, hl, h5, h4⟩⟩
        · exact absurd h5 hy
      · rw [List.getElem?_set_ne e] at h2
        exact mem_those.2 ⟨h0, .inr ⟨j, l', q, h1, h2, h3, h4⟩⟩
theorem best_some {l : List Rt} {r : Rt} (h : r ∈ l) : ∃ b, bestR l = some b := by
  cases hb : bestR l with
  | none => rw [best_none hb] at h; cases h
  | some b => exact ⟨b, rfl⟩
theorem more_get {c : Cf} {t : List (List En)} {l : List En} {n : Nat} {x : Px} {p : Pa} {e : Ch} (hl : t[n]? = some l) (hn : getE l x = none) (he : e ∈ locR c t) :
    ∃ r, getC (locR c (t.set n (applyE l (nwM x p)))) e.x = some r ∧ (e.x ≠ x → r = e.r) ∧ cmpR r e.r ≤ 0 := by
  obtain ⟨h1, h2⟩ := best_spec (mem_loc.1 he)
  obtain ⟨b, hb⟩ := best_some ((mem_more (p := p) hl hn).1 h1)
  have h3 := (best_spec hb).2 _ ((mem_more (p := p) hl hn).1 h1)
  refine ⟨b, by rw [get_loc]; exact hb, fun hx => ?_, h3⟩
  have h4 := h2 b ((mem_more (p := p) hl hn).2 hx (best_spec hb).1)
  exact cmpR_anti h3 h4
theorem more_len {c : Cf} {t : List (List En)} {l : List En} {n : Nat} {x : Px} {p : Pa} (hl : t[n]? = some l) (hn : getE l x = none) : (locR c (t.set n (applyE l (nwM x p)))).length ≤ (locR c t).length + 1 := by
  have := nodup_sub ((locR c (t.set n (applyE l (nwM x p)))).map Ch.x) ((locR c t).map Ch.x ++ [x]) (rise_nodup (loc_sorted _ _)) fun y hy => by
    obtain ⟨e, he, rfl⟩ := List.mem_map.1 hy
    by_cases hx : e.x = x
    · rw [hx]; simp
    · have h1 := (mem_more (p := p) hl hn).2 hx (best_spec (mem_loc.1 he)).1
      obtain ⟨b, hb⟩ := best_some h1
      exact List.mem_append_left _ (List.mem_map.2 ⟨⟨e.x, b⟩, mem_loc.2 hb, rfl⟩)
  simpa using this
end Go.Sim

/- What calls come to: printed by wip/tools/eq2.py: ribin.Apply. -/
namespace Go.Sim
open Go.RowKit Go.Proofs
set_option linter.unusedVariables false
set_option maxRecDepth 100000
variable [Lv]

theorem b7_10 (N : Nat) (xs g m : List T) (o h c k : Int) (s : List T) (i : Nat) : bodyL env (N + 1) 7 0 10 (⟨slots 82 [(0, .own 0), (2, .t (i64 k)), (4, .ptr 1 0), (41, .t (.sl 2 m)), (42, .t (i64 (m.length : Int))), (43, .t (i64 (i : Int)))], [.row 59 6 xs, .box 40 6 (.t (.agg [.sl 2 g, i64 o, .sl 1 s, i64 h, i64 c, .sl 2 m]))]⟩) = bif decide ((↑i : Int) < (↑m.length : Int)) then atT m (↑i : Int) fun e => chk (e.cells.length == 2 && !e.isTup) (clB (N + 1) 21 [e] fun b => bif !b then Res.ok (Ex.norm, { tmps := slots 82 [(0, PV.own 0), (2, PV.t (i64 k)), (4, PV.ptr 1 0), (41, PV.t (T.sl 2 m)), (42, PV.t (i64 (↑m.length : Int))), (43, PV.t (i64 (IntKind.i64.wrap ((↑i : Int) + 1))))], heap := [AObj.row 59 6 xs, AObj.box 40 6 (PV.t (T.agg [T.sl 2 g, i64 o, T.sl 1 s, i64 h, i64 c, T.sl 2 m]))] }) else clB (N + 1) 22 [T.agg [i64 o, T.sl 1 s, i64 h, i64 c]] fun b => bif !b then Res.ok (Ex.norm, { tmps := slots 82 [(0, PV.own 0), (2, PV.t (i64 k)), (4, PV.ptr 1 0), (41, PV.t (T.sl 2 m)), (42, PV.t (i64 (↑m.length : Int))), (43, PV.t (i64 (IntKind.i64.wrap ((↑i : Int) + 1))))], heap := [AObj.row 59 6 xs, AObj.box 40 6 (PV.t (T.agg [T.sl 2 g, i64 o, T.sl 1 s, i64 h, i64 c, T.sl 2 m]))] }) else chk (e.cells.length == 2 && !e.isTup) (cl (N + 1) 18 [T.sl 6 xs, e] fun x => chk x.plain (compT x 0 fun y => compT x 1 fun y_1 => bT y_1 fun v => bif v then anyT y fun i_1 => chk (decide (0 ≤ i_1) && decide (i_1 < (↑xs.length : Int))) (Res.ok (Ex.norm, { tmps := slots 82 [(0, PV.own 0), (2, PV.t (i64 k)), (4, PV.ptr 1 0), (41, PV.t (T.sl 2 m)), (42, PV.t (i64 (↑m.length : Int))), (43, PV.t (i64 (IntKind.i64.wrap ((↑i : Int) + 1))))], heap := [AObj.row 59 6 (xs.set i_1.toNat (T.agg [e.cell 0, e.cell 1, i64 o, T.sl 1 s, i64 h, i64 c])), AObj.box 40 6 (PV.t (T.agg [T.sl 2 g, i64 o, T.sl 1 s, i64 h, i64 c, T.sl 2 m]))] })) else chkAll (T.okE 6) [T.agg [e.cell 0, e.cell 1, i64 o, T.sl 1 s, i64 h, i64 c]] ((insG 59 6 64 [AObj.row 59 6 xs, AObj.box 40 6 (PV.t (T.agg [T.sl 2 g, i64 o, T.sl 1 s, i64 h, i64 c, T.sl 2 m])), AObj.box 28 2 (PV.t e), AObj.box 59 6 (PV.t (T.agg [e.cell 0, e.cell 1, i64 o, T.sl 1 s, i64 h, i64 c])), AObj.row 59 6 [T.agg [e.cell 0, e.cell 1, i64 o, T.sl 1 s, i64 h, i64 c]]] xs [PV.t y, PV.own 4]).bind fun ys => Res.ok (Ex.norm, { tmps := slots 82 [(0, PV.own 0), (2, PV.t (i64 k)), (4, PV.ptr 1 0), (41, PV.t (T.sl 2 m)), (42, PV.t (i64 (↑m.length : Int))), (43, PV.t (i64 (IntKind.i64.wrap ((↑i : Int) + 1))))], heap := [AObj.row 59 6 ys, AObj.box 40 6 (PV.t (T.agg [T.sl 2 g, i64 o, T.sl 1 s, i64 h, i64 c, T.sl 2 m]))] }))))) else Res.ok (Ex.exit 2, { tmps := slots 82 [(0, PV.own 0), (2, PV.t (i64 k))], heap := [AObj.row 59 6 xs] }) := by kernel_rfl
theorem b7_3 (N : Nat) (xs g m : List T) (o h c k : Int) (s : List T) (i : Nat) : bodyL env (N + 1) 7 0 3 (⟨slots 82 [(0, .own 0), (2, .t (i64 k)), (4, .ptr 1 0), (21, .t (.sl 2 g)), (22, .t (i64 (g.length : Int))), (23, .t (i64 (i : Int)))], [.row 59 6 xs, .box 40 6 (.t (.agg [.sl 2 g, i64 o, .sl 1 s, i64 h, i64 c, .sl 2 m]))]⟩) = bif decide ((↑i : Int) < (↑g.length : Int)) then atT g (↑i : Int) fun e => chk (e.cells.length == 2 && !e.isTup) (cl (N + 1) 18 [T.sl 6 xs, e] fun x => chk x.plain (compT x 0 fun y => compT x 1 fun y_1 => bT y_1 fun v => bif v then iT IntKind.i64 y fun a => chk (decide ((↑xs.length : Int) ≤ (↑xs.length : Int))) (chk (decide (0 ≤ IntKind.i64.wrap (a + 1)) && decide (IntKind.i64.wrap (a + 1) ≤ (↑(↑xs.length : Int).toNat : Int))) (anyT y fun i_1 => chk (decide (0 ≤ i_1) && decide (i_1 ≤ (↑(IntKind.i64.wrap (a + 1)).toNat : Int))) (iT IntKind.i64 y fun a_1 => bif a_1 == IntKind.i64.wrap (a + 1) then Res.ok (Ex.norm, { tmps := slots 82 [(0, PV.own 0), (2, PV.t (i64 k)), (4, PV.ptr 1 0), (21, PV.t (T.sl 2 g)), (22, PV.t (i64 (↑g.length : Int))), (23, PV.t (i64 (IntKind.i64.wrap ((↑i : Int) + 1))))], heap := [AObj.row 59 6 xs, AObj.box 40 6 (PV.t (T.agg [T.sl 2 g, i64 o, T.sl 1 s, i64 h, i64 c, T.sl 2 m]))] }) else anyT y fun i_2 => chk (decide (0 ≤ i_2) && decide (i_2 ≤ (↑xs.length : Int))) (chk (decide (0 ≤ IntKind.i64.wrap (a + 1)) && decide (IntKind.i64.wrap (a + 1) ≤ (↑xs.length : Int))) (bif decide (0 + (IntKind.i64.wrap (a + 1)).toNat ≤ 0 + xs.length) && decide (0 + xs.length ≤ xs.length) then chk (decide (0 + i_2.toNat + (List.drop (0 + (IntKind.i64.wrap (a + 1)).toNat) (List.take (0 + xs.length) xs)).length ≤ xs.length)) (chk (decide ((↑xs.length : Int) ≤ (↑(spliceT xs (0 + i_2.toNat) (List.drop (0 + (IntKind.i64.wrap (a + 1)).toNat) (List.take (0 + xs.length) xs))).length : Int))) (chk (decide ((↑(0 + i_2.toNat + (List.drop (0 + (IntKind.i64.wrap (a + 1)).toNat) (List.take (0 + xs.length) xs)).length) : Int) ≤ (↑(↑xs.length : Int).toNat : Int))) (chk (decide (0 + (↑(0 + i_2.toNat + (List.drop (0 + (IntKind.i64.wrap (a + 1)).toNat) (List.take (0 + xs.length) xs)).length) : Int).toNat ≤ 0 + (↑xs.length : Int).toNat) && decide (0 + (↑xs.length : Int).toNat ≤ (spliceT xs (0 + i_2.toNat) (List.drop (0 + (IntKind.i64.wrap (a + 1)).toNat) (List.take (0 + xs.length) xs))).length)) (bif decide (0 + i_2.toNat + (List.drop (0 + (IntKind.i64.wrap (a + 1)).toNat) (List.take (0 + xs.length) xs)).length ≤ (spliceT (spliceT xs (0 + i_2.toNat) (List.drop (0 + (IntKind.i64.wrap (a + 1)).toNat) (List.take (0 + xs.length) xs))) (0 + (↑(0 + i_2.toNat + (List.drop (0 + (IntKind.i64.wrap (a + 1)).toNat) (List.take (0 + xs.length) xs)).length) : Int).toNat) (List.replicate (0 + (↑xs.length : Int).toNat - (0 + (↑(0 + i_2.toNat + (List.drop (0 + (IntKind.i64.wrap (a + 1)).toNat) (List.take (0 + xs.length) xs)).length) : Int).toNat)) (T.agg [i64 0, i64 0, i64 0, T.sl 1 [], i64 0, i64 0]))).length) then Res.ok (Ex.norm, { tmps := slots 82 [(0, PV.own 0), (2, PV.t (i64 k)), (4, PV.ptr 1 0), (21, PV.t (T.sl 2 g)), (22, PV.t (i64 (↑g.length : Int))), (23, PV.t (i64 (IntKind.i64.wrap ((↑i : Int) + 1))))], heap := [AObj.row 59 6 (List.take (0 + i_2.toNat + (List.drop (0 + (IntKind.i64.wrap (a + 1)).toNat) (List.take (0 + xs.length) xs)).length) (spliceT (spliceT xs (0 + i_2.toNat) (List.drop (0 + (IntKind.i64.wrap (a + 1)).toNat) (List.take (0 + xs.length) xs))) (0 + (↑(0 + i_2.toNat + (List.drop (0 + (IntKind.i64.wrap (a + 1)).toNat) (List.take (0 + xs.length) xs)).length) : Int).toNat) (List.replicate (0 + (↑xs.length : Int).toNat - (0 + (↑(0 + i_2.toNat + (List.drop (0 + (IntKind.i64.wrap (a + 1)).toNat) (List.take (0 + xs.length) xs)).length) : Int).toNat)) (T.agg [i64 0, i64 0, i64 0, T.sl 1 [], i64 0, i64 0])))), AObj.box 40 6 (PV.t (T.agg [T.sl 2 g, i64 o, T.sl 1 s, i64 h, i64 c, T.sl 2 m]))] }) else Res.ok (Ex.norm, { tmps := slots 82 [(0, PV.view 0 6 0 (0 + i_2.toNat + (List.drop (0 + (IntKind.i64.wrap (a + 1)).toNat) (List.take (0 + xs.length) xs)).length)), (2, PV.t (i64 k)), (4, PV.ptr 1 0), (21, PV.t (T.sl 2 g)), (22, PV.t (i64 (↑g.length : Int))), (23, PV.t (i64 (IntKind.i64.wrap ((↑i : Int) + 1))))], heap := [AObj.row 59 6 (spliceT (spliceT xs (0 + i_2.toNat) (List.drop (0 + (IntKind.i64.wrap (a + 1)).toNat) (List.take (0 + xs.length) xs))) (0 + (↑(0 + i_2.toNat + (List.drop (0 + (IntKind.i64.wrap (a + 1)).toNat) (List.take (0 + xs.length) xs)).length) : Int).toNat) (List.replicate (0 + (↑xs.length : Int).toNat - (0 + (↑(0 + i_2.toNat + (List.drop (0 + (IntKind.i64.wrap (a + 1)).toNat) (List.take (0 + xs.length) xs)).length) : Int).toNat)) (T.agg [i64 0, i64 0, i64 0, T.sl 1 [], i64 0, i64 0]))), AObj.box 40 6 (PV.t (T.agg [T.sl 2 g, i64 o, T.sl 1 s, i64 h, i64 c, T.sl 2 m]))] }))))) else Res.stuck))))) else Res.ok (Ex.norm, { tmps := slots 82 [(0, PV.own 0), (2, PV.t (i64 k)), (4, PV.ptr 1 0), (21, PV.t (T.sl 2 g)), (22, PV.t (i64 (↑g.length : Int))), (23, PV.t (i64 (IntKind.i64.wrap ((↑i : Int) + 1))))], heap := [AObj.row 59 6 xs, AObj.box 40 6 (PV.t (T.agg [T.sl 2 g, i64 o, T.sl 1 s, i64 h, i64 c, T.sl 2 m]))] }))) else Res.ok (Ex.exit 0, { tmps := slots 82 [(0, PV.own 0), (2, PV.t (i64 k)), (4, PV.ptr 1 0)], heap := [AObj.row 59 6 xs, AObj.box 40 6 (PV.t (T.agg [T.sl 2 g, i64 o, T.sl 1 s, i64 h, i64 c, T.sl 2 m]))] }) := by kernel_rfl
end Go.Sim

/- What the functions of layer 18 answer: news that withdraw nothing, applied. -/
namespace Go.Sim
open Go.RowKit Go.Proofs
set_option linter.unusedVariables false
set_option linter.unusedSimpArgs false
set_option linter.unusedSectionVars false
set_option maxRecDepth 100000
variable [Lv]
def A21 (l : List En) (n : Nw) (k : Int) (i : Nat) : St := ⟨slots 82 [(0, .own 0), (2, .t (i64 k)), (4, .ptr 1 0), (21, .t (.sl 2 (n.g.map Px.t))), (22, .t (i64 ((n.g.map Px.t).length : Int))), (23, .t (i64 (i : Int)))], [.row 59 6 (l.map En.t), .box 40 6 (.t (.agg [.sl 2 (n.g.map Px.t), i64 n.p.o, .sl 1 (ints n.p.s), i64 n.p.h, i64 n.p.c, .sl 2 (n.m.map Px.t)]))]⟩
def B21 (l : List En) (n : Nw) (k : Int) (i : Nat) : St := ⟨slots 82 [(0, .own 0), (2, .t (i64 k)), (4, .ptr 1 0), (41, .t (.sl 2 (n.m.map Px.t))), (42, .t (i64 ((n.m.map Px.t).length : Int))), (43, .t (i64 (i : Int)))], [.row 59 6 (l.map En.t), .box 40 6 (.t (.agg [.sl 2 (n.g.map Px.t), i64 n.p.o, .sl 1 (ints n.p.s), i64 n.p.h, i64 n.p.c, .sl 2 (n.m.map Px.t)]))]⟩
theorem b7_new {N : Nat} {l : List En} {n : Nw} {k : Int} {i : Nat} {x : Px} (hx : n.m[i]? = some x) (hxo : x.ok) (hno : n.p.ok) (hg : n.m.length ≤ big) (hl : (l.length + 1) * 64 ≤ big) (hs : ∀ e ∈ l, e.ok) (hN : big + 8 ≤ N) :
    bodyL env (N + 1) 7 0 10 (B21 l n k i) = .ok (.norm, B21 (newE n.p l x) n k (i + 1)) := by
  have hi : i < n.m.length := (List.getElem?_eq_some_iff.1 hx).1
  have hf := f18_ok (M := N) (l := l) (x := x) (by omega) (by omega) hs hxo
  have h32 := f21_ok (M := N) (x := x) hxo (by omega)
  have h33 := f22_ok (M := N) (p := n.p) (by omega) hno
  unfold B21
  rw [b7_10, decide_eq_true (show ((i : Int) < ((n.m.map Px.t).length : Int)) by rw [List.length_map]; omega)]
  simp only [cond_true]
  rw [atT_get (map_get hx), show (x.t.cells.length == 2 && !x.t.isTup) = true from rfl]
  simp only [chk_true]
  rw [clB_ok h32, wrap_succ (show i ≤ big by omega)]
  have hpe := placeE_le l x
  unfold newE
  cases hps : psane x with
  | false => rfl
  | true =>
  simp only [Bool.not_true, cond_false]
  rw [show T.agg [i64 n.p.o, T.sl 1 (ints n.p.s), i64 n.p.h, i64 n.p.c] = n.p.t from rfl, clB_ok h33]
  cases has : asane7 n.p with
  | false => rfl
  | true =>
  simp only [Bool.not_true, cond_false, Bool.and_self, cond_true]
  rw [cl_ok hf, show (T.tup [i64 (placeE l x : Int), .bool (thereE l x)]).plain = true from rfl]
  simp only [chk_true, compT, List.getElem?_cons_zero, List.getElem?_cons_succ, bT_bool]
  rw [show T.agg [x.t.cell 0, x.t.cell 1, i64 n.p.o, T.sl 1 (ints n.p.s), i64 n.p.h, i64 n.p.c] = En.t ⟨x, n.p⟩ from rfl]
  cases hth : thereE l x with
  | true =>
    have hp := thereE_lt hth
    generalize placeE l x = p at hp hpe
    simp only [cond_true, anyT]
    rw [decide_eq_true (show (0 : Int) ≤ (p : Int) by omega), decide_eq_true (show (p : Int) < ((l.map En.t).length : Int) by rw [List.length_map]; omega)]
    simp only [Bool.and_self, chk_true, cond_true, Int.toNat_natCast, List.map_set]
  | false =>
    generalize placeE l x = p at hpe
    simp only [cond_false, chkAll, okE_en, chk, cond_true]
    have hins : insG 59 6 64 [AObj.row 59 6 (l.map En.t), AObj.box 40 6 (PV.t (T.agg [T.sl 2 (n.g.map Px.t), i64 n.p.o, T.sl 1 (ints n.p.s), i64 n.p.h, i64 n.p.c, T.sl 2 (n.m.map Px.t)])), AObj.box 28 2 (PV.t x.t), AObj.box 59 6 (PV.t (En.t ⟨x, n.p⟩)), AObj.row 59 6 [En.t ⟨x, n.p⟩]] (l.map En.t)
        [PV.t (i64 (p : Int)), PV.own 4] = .ok ((l.take p ++ [(⟨x, n.p⟩ : En)] ++ l.drop p).map En.t) := by
      simp only [insG, List.getElem?_cons_succ, List.getElem?_cons_zero]
      rw [decide_eq_true (show (0 : Int) ≤ (p : Int) by omega), decide_eq_true (show (p : Int) ≤ ((l.map En.t).length : Int) by rw [List.length_map]; omega), decide_eq_true (show ((l.map En.t).length + [En.t ⟨x, n.p⟩].length) * 64 ≤ big by rw [List.length_map]; exact hl)]
      simp [List.map_take, List.map_drop]
    rw [hins]
    simp only [Res.bind_ok]
def X21 (l : List En) (n : Nw) (k : Int) : St := ⟨slots 82 [(0, .own 0), (2, .t (i64 k)), (4, .ptr 1 0)], [.row 59 6 (l.map En.t), .box 40 6 (.t (.agg [.sl 2 (n.g.map Px.t), i64 n.p.o, .sl 1 (ints n.p.s), i64 n.p.h, i64 n.p.c, .sl 2 (n.m.map Px.t)]))]⟩
def Y21 (l : List En) (k : Int) : St := ⟨slots 82 [(0, .own 0), (2, .t (i64 k))], [.row 59 6 (l.map En.t)]⟩
theorem a21_exit {N : Nat} {l : List En} {n : Nw} {k : Int} : bodyL env (N + 1) 7 0 3 (A21 l n k n.g.length) = .ok (.exit 0, X21 l n k) := by
  unfold A21 X21
  rw [b7_3, decide_eq_false (show ¬ ((n.g.length : Int) < ((n.g.map Px.t).length : Int)) by rw [List.length_map]; omega)]
  simp only [cond_false]
theorem b7_exit {N : Nat} {l : List En} {n : Nw} {k : Int} : bodyL env (N + 1) 7 0 10 (B21 l n k n.m.length) = .ok (.exit 2, Y21 l k) := by
  unfold B21 Y21
  rw [b7_10, decide_eq_false (show ¬ ((n.m.length : Int) < ((n.m.map Px.t).length : Int)) by rw [List.length_map]; omega)]
  simp only [cond_false]
theorem new_loop {N : Nat} {n : Nw} {k : Int} (hn : n.ok) (hN : big + 8 ≤ N) (rest : List Px) : ∀ (pre : List Px) (l : List En) (fuel : Nat), n.m = pre ++ rest → rest.length < fuel → (l.length + rest.length + 1) * 64 ≤ big → (∀ e ∈ l, e.ok) →
    iterR (bodyL env (N + 1) 7 0 10) fuel (B21 l n k pre.length) = .ok (.exit 2, Y21 (rest.foldl (newE n.p) l) k) := by
  induction rest with
  | nil =>
    intro pre l fuel hg hf hl hs
    obtain ⟨fuel, rfl⟩ : ∃ f, fuel = f + 1 := ⟨fuel - 1, by omega⟩
    have : pre.length = n.m.length := by rw [hg]; simp
    rw [this, iterR_exit b7_exit, List.foldl_nil]
  | cons x rest ih =>
    intro pre l fuel hg hf hl hs
    obtain ⟨fuel, rfl⟩ : ∃ f, fuel = f + 1 := ⟨fuel - 1, by omega⟩
    have hx : n.m[pre.length]? = some x := by rw [hg]; simp
    have hxo := hn.m x (List.mem_of_getElem? hx)
    have h1 := newE_len n.p l x
    rw [List.length_cons] at hl hf
    have hl1 : (l.length + 1) * 64 ≤ big := Nat.le_trans (Nat.mul_le_mul_right 64 (by omega)) hl
    have hl2 : ((newE n.p l x).length + rest.length + 1) * 64 ≤ big := Nat.le_trans (Nat.mul_le_mul_right 64 (by omega)) hl
    have hstep := b7_new (k := k) hx hxo hn.p hn.ml hl1 hs hN
    rw [iterR_step hstep]
    have hg2 : n.m = (pre ++ [x]) ++ rest := by rw [hg]; simp
    have h2 := ih (pre ++ [x]) (newE n.p l x) fuel hg2 (by omega) hl2 (newE_ok hs hn.p hxo)
    rw [show (pre ++ [x]).length = pre.length + 1 by simp] at h2
    rw [h2, List.foldl_cons]
theorem f19_ok {N : Nat} {l : List En} (hl : l.length * 64 ≤ big) (hs : ∀ e ∈ l, e.ok) : callP env N 19 [.sl 6 (l.map En.t)] = .ok (.sl 6 (l.map En.t)) := by
  have hw : T.wfs [.sl 6 (l.map En.t)] = true := wfs1 (wf_sl (by omega) fun e he => (hs e he).wf)
  show (bif T.wfs [.sl 6 (l.map En.t)] then cloneG 6 64 [.sl 6 (l.map En.t)] else .absurd) = _
  rw [hw]
  simp only [cond_true, cloneG, List.length_map]
  rw [decide_eq_true hl]
  rfl
theorem f7_ok {M : Nat} {t : List En} {n : Nw} {k : Int} (hM : big + 30 ≤ M) (hl : (t.length + n.m.length + 1) * 64 ≤ big) (hs : ∀ e ∈ t, e.ok) (hn : n.ok) (hk : ok64 k = true) (hg0 : n.g = []) :
    callP env (M + 1) 7 [.sl 6 (t.map En.t), n.t, i64 k] = .ok (bif decide (((applyE t n).length : Int) > k) then .tup [.sl 6 [], .bool false] else .tup [.sl 6 ((applyE t n).map En.t), .bool true]) := by
  obtain ⟨m, rfl⟩ : ∃ m, M = m + 1 := ⟨M - 1, by omega⟩
  have hw := wfs3 (wf_sl (k := 6) (show t.length ≤ big by omega) fun e he => (hs e he).wf) hn.wf (wf_int hk)
  have h43 := f17_ok (M := m) (l := t) (by omega) (by omega) hs
  have hkl := known_len t
  have hks : ∀ e ∈ known t, e.ok := fun e he => hs e (known_sub he)
  have h46 := f19_ok (N := m + 1) (l := known t) (by omega) hks
  simp only [Nw.t] at hw ⊢
  rw [q7, hw, h43]
  simp only [cond_true, Res.bind_ok]
  rw [h46]
  simp only [Res.bind_ok, slT, if_true]
  rw [show (⟨slots 82 [(0, .own 0), (2, .t (i64 k)), (4, .ptr 1 0), (21, .t (.sl 2 (n.g.map Px.t))), (22, .t (i64 ((n.g.map Px.t).length : Int))), (23, .t (i64 0))], [.row 59 6 ((known t).map En.t), .box 40 6 (.t (.agg [.sl 2 (n.g.map Px.t), i64 n.p.o, .sl 1 (ints n.p.s), i64 n.p.h, i64 n.p.c, .sl 2 (n.m.map Px.t)]))]⟩ : St) = A21 (known t) n k ([] : List Px).length from rfl]
  unfold loopL
  have hgo : iterR (bodyL env (m + 1) 7 0 3) (m + 1) (A21 (known t) n k 0) = .ok (.exit 0, X21 (n.g.foldl goneE (known t)) n k) := by
    have e := iterR_exit (n := m) (a21_exit (N := m) (l := known t) (n := n) (k := k))
    rw [show n.g.length = 0 by rw [hg0]; rfl] at e
    rw [show n.g.foldl goneE (known t) = known t by rw [hg0]; rfl]
    exact e
  rw [show A21 (known t) n k ([] : List Px).length = A21 (known t) n k 0 from rfl, hgo]
  rw [Res.bind_ok]
  show tailL env (m + 1) 7 0 3 (outK env 7) (.exit 0) (X21 (n.g.foldl goneE (known t)) n k) = _
  unfold X21
  rw [t7_3_exit0]
  rw [show (⟨slots 82 [(0, .own 0), (2, .t (i64 k)), (4, .ptr 1 0), (41, .t (.sl 2 (n.m.map Px.t))), (42, .t (i64 ((n.m.map Px.t).length : Int))), (43, .t (i64 0))], [.row 59 6 ((n.g.foldl goneE (known t)).map En.t), .box 40 6 (.t (.agg [.sl 2 (n.g.map Px.t), i64 n.p.o, .sl 1 (ints n.p.s), i64 n.p.h, i64 n.p.c, .sl 2 (n.m.map Px.t)]))]⟩ : St) = B21 (n.g.foldl goneE (known t)) n k ([] : List Px).length from rfl]
  unfold loopL
  have hgl := gones_len n.g (known t)
  have hml : n.m.length < m + 1 := by have := hn.ml; omega
  have hl3 : ((n.g.foldl goneE (known t)).length + n.m.length + 1) * 64 ≤ big := Nat.le_trans (Nat.mul_le_mul_right 64 (by omega)) hl
  have hnl := new_loop (k := k) hn (show big + 8 ≤ m by omega) n.m [] (n.g.foldl goneE (known t)) (m + 1) rfl hml hl3 (gones_ok n.g hks)
  rw [hnl]
  rw [Res.bind_ok]
  show tailL env (m + 1) 7 0 10 (outK env 7) (.exit 2) (Y21 (applyE t n) k) = _
  unfold Y21
  rw [t7_10_exit2, List.length_map]
  cases decide (((applyE t n).length : Int) > k) <;> rfl
end Go.Sim

/- What calls come to: printed by wip/tools/eq2.py: law 19. -/
namespace Go.Sim
open Go.RowKit Go.Proofs
set_option linter.unusedVariables false
set_option maxRecDepth 100000
variable [Lv]
def sDK (x : Px) (l m : List Ch) (i : Int) : St := ⟨slots 148 [(8, .ptr 0 0), (11, .t (.bool true)), (17, .t (.sl 8 (l.map Ch.t))), (18, .t (.sl 8 (m.map Ch.t))), (19, .t (i64 i))], [.box 28 2 (.t x.t)]⟩

theorem q3 (N : Nat) (c : Cf) (t : List (List En)) (k : Int) (x : Px) (p : Pa) : callP env (N + 1) 3 [c.t, .sl 1 (tabT t), i64 k, x.t, p.t] = W [c.t, .sl 1 (tabT t), i64 k, x.t, p.t] (cl N 4 [] fun x_1 => clB N 5 [c.t, T.sl 1 (List.map (fun l => T.sl 6 (List.map En.t l)) t)] fun b => bif !b then Res.ok x_1 else bif decide ((↑(ints p.s).length : Int) > 100) then Res.ok x_1 else bif decide (k < 0) then Res.ok x_1 else bif decide (k ≥ (↑(List.map (fun l => T.sl 6 (List.map En.t l)) t).length : Int)) then Res.ok x_1 else atT (List.map (fun l => T.sl 6 (List.map En.t l)) t) k fun e => cl N 6 [e, x.t] fun x_2 => compT x_2 0 fun y => compT x_2 1 fun y_1 => chk (y.cells.length == 4 && !y.isTup) (atT (List.map (fun l => T.sl 6 (List.map En.t l)) t) k fun e => chkAll (T.okE 2) [x.t] (cl N 7 [e, T.agg [T.sl 2 [], i64 p.o, T.sl 1 (ints p.s), i64 p.h, i64 p.c, T.sl 2 [x.t]], i64 1000] fun x_3 => compT x_3 0 fun y => compT x_3 1 fun y_2 => bT y_1 fun b => bif b then Res.ok x_1 else bT y_2 fun b => bif !b then Res.ok x_1 else atT (List.map (fun l => T.sl 6 (List.map En.t l)) t) k fun e => clB N 8 [e] fun b => bif !b then Res.ok x_1 else chkAll (T.okE 1) [] (chk (decide ((0 + (List.map (fun l => T.sl 6 (List.map En.t l)) t).length) * 24 ≤ 140737488355328)) (chk (decide (0 ≤ k) && decide (k < (↑(List.map (fun l => T.sl 6 (List.map En.t l)) t).length : Int))) (chk (y.cells.length == 1 && !y.isTup) (chk (!y.isAgg) (cl N 9 [c.t, T.sl 1 (List.map (fun l => T.sl 6 (List.map En.t l)) t)] fun x_4 => cl N 9 [c.t, T.sl 1 ((List.map (fun l => T.sl 6 (List.map En.t l)) t).set k.toNat y)] fun x_5 => loopL env N 3 13 { tmps := slots 148 [(8, PV.ptr 0 0), (11, PV.t x_1), (17, PV.t x_4), (18, PV.t x_5), (19, PV.t (i64 0))], heap := [AObj.box 28 2 (PV.t x.t)] })))))))) := by kernel_rfl
theorem t3_13_exit0 (N : Nat) (l m : List Ch) : tailL env N 3 0 13 (outK env 3) (.exit 0) (⟨slots 148 [(11, .t (.bool true)), (17, .t (.sl 8 (l.map Ch.t))), (18, .t (.sl 8 (m.map Ch.t)))], []⟩) = rB (decide ((↑(List.map Ch.t m).length : Int) ≤ IntKind.i64.wrap ((↑(List.map Ch.t l).length : Int) + 1))) := by kernel_rfl
theorem b3_13 (N : Nat) (x : Px) (l m : List Ch) (i : Int) : bodyL env N 3 0 13 (sDK x l m i) = bif decide (i < (↑(List.map Ch.t l).length : Int)) then atT (List.map Ch.t l) i fun e => cl N 10 [T.sl 8 (List.map Ch.t m), e.partD 0 2 true] fun x_1 => compT x_1 0 fun y => compT x_1 1 fun y_1 => chk (y.cells.length == 6 && !y.isTup) (bT y_1 fun b => bif !b then Res.ok (Ex.ret, { tmps := slots 148 [(10, PV.t (T.bool false))], heap := [] }) else atT (List.map Ch.t l) i fun e => match T.eqLs [0, 0] (e.partD 0 2 true).cells [i64 x.a, i64 x.n] with | some b => bif !b then atT (List.map Ch.t l) i fun e => clB N 11 [y, e.partD 2 6 true] fun b => bif !b then Res.ok (Ex.ret, { tmps := slots 148 [(10, PV.t (T.bool false))], heap := [] }) else atT (List.map Ch.t l) i fun e => clI N 12 [y, e.partD 2 6 true] fun a => bif decide (a > 0) then Res.ok (Ex.ret, { tmps := slots 148 [(10, PV.t (T.bool false))], heap := [] }) else Res.ok (Ex.norm, sDK x l m (IntKind.i64.wrap (i + 1))) else atT (List.map Ch.t l) i fun e => clI N 12 [y, e.partD 2 6 true] fun a => bif decide (a > 0) then Res.ok (Ex.ret, { tmps := slots 148 [(10, PV.t (T.bool false))], heap := [] }) else Res.ok (Ex.norm, sDK x l m (IntKind.i64.wrap (i + 1))) | none => Res.stuck) else Res.ok (Ex.exit 0, { tmps := slots 148 [(11, PV.t (T.bool true)), (17, PV.t (T.sl 8 (List.map Ch.t l))), (18, PV.t (T.sl 8 (List.map Ch.t m)))], heap := [] }) := by kernel_rfl
end Go.Sim

/- Layer 19: DecideMore, up to its loop. -/
namespace Go.Sim
open Go.RowKit Go.Proofs
set_option linter.unusedVariables false
set_option linter.unusedSimpArgs false
set_option linter.unusedSectionVars false
set_option maxRecDepth 100000
theorem nwM_ok {x : Px} {p : Pa} (hx : x.ok) (hp : p.ok) : (nwM x p).ok := ⟨fun _ h => (by cases h), Nat.zero_le _, hp, fun y hy => (by rw [List.mem_singleton.1 hy]; exact hx), show 1 ≤ big by decide⟩
theorem seen_setK {c : Cf} {t : List (List En)} {l : List En} {n : Nat} (h1 : few12 c = true) (h2 : fewT t = true) (hl : l.length ≤ 1000) : (seenL c (t.set n l)).length ≤ 10020 := by
  obtain ⟨a1, a2, a3, a4⟩ := few_parts h1 h2
  unfold seenL
  rw [List.length_append]
  have := flat_le (f := fun l : List En => l.map En.x) (k := 1000) (l := (t.set n l).take c.s.length) fun l' hl' => by
    rw [List.length_map]
    rcases List.mem_or_eq_of_mem_set (List.mem_of_mem_take hl') with h | h
    · have := a4 l' h; omega
    · rw [h]; exact hl
  have h3 : ((t.set n l).take c.s.length).length ≤ t.length := by rw [List.length_take, List.length_set]; omega
  omega
theorem okT_setK {t : List (List En)} {l : List En} {n : Nat} (h : okT t) (hl : okL En.ok l) : okT (t.set n l) := ⟨by rw [List.length_set]; exact h.1, fun l' hl' => by
  rcases List.mem_or_eq_of_mem_set hl' with h' | h'
  · exact h.2 l' h'
  · rw [h']; exact hl⟩
/-- What the loop needs to know. -/
structure MoreOk (x : Px) (l l' : List Ch) : Prop where
  ok : okL Ch.ok l
  ok' : okL Ch.ok l'
  each : ∀ e ∈ l, ∃ r, getC l' e.x = some r ∧ (e.x ≠ x → r = e.r) ∧ cmpR r e.r ≤ 0
  len : l'.length ≤ l.length + 1
theorem more_loop {m : Nat} {x : Px} {l l' : List Ch} (hM : big + 90 ≤ m + 1) (h : MoreOk x l l') : loopL env (m + 1) 3 13 (sDK x l l' 0) = rB true := by
  have hbig := big_val
  have hbl := h.ok.1
  obtain ⟨f1, _⟩ := fold_gen (N := m + 1) (F := 3) (r := 13) (id := 0) (S := fun (_ : Unit) j => sDK x l l' (j : Int)) (X := fun _ => ⟨slots 148 [(11, .t (.bool true)), (17, .t (.sl 8 (l.map Ch.t))), (18, .t (.sl 8 (l'.map Ch.t)))], []⟩)
    (fun _ _ => True) (fun _ _ => ()) l () (by omega) (fun _ j e he _ => by
      have hj : j < l.length := (List.getElem?_eq_some_iff.1 he).1
      have hem := List.mem_of_getElem? he
      have heo := h.ok.2 e hem
      have hat := map_get (f := Ch.t) he
      obtain ⟨r, r1, r2, r3⟩ := h.each e hem
      have hro : r.ok := by have := getC_ok (x := e.x) h.ok'; rw [r1] at this; exact this
      refine ⟨?_, trivial⟩
      rw [b3_13, decide_eq_true (by rw [List.length_map]; omega)]
      simp only [cond_true]
      rw [atT_get hat, show e.t.partD 0 2 true = e.x.t from rfl, cl_ok (f10_ok (by omega) h.ok' heo.x), r1, optR_eq]
      simp only [compT, List.getElem?_cons_zero, List.getElem?_cons_succ, rt_chk, chk_true, Option.isSome_some, Option.getD_some, bT_bool, Bool.not_true, cond_false]
      rw [atT_get hat, show (e.t.partD 0 2 true).cells = [i64 e.x.a, i64 e.x.n] from rfl, eqLs_px, wrap_succ (show j ≤ big by omega)]
      simp only []
      cases hxe : eqPx e.x x with
      | true =>
        simp only [Bool.not_true, cond_false]
        rw [atT_get hat, show e.t.partD 2 6 true = e.r.t from rfl, clI_ok (f12_ok (by omega) hro heo.r), decide_eq_false (show ¬ cmpR r e.r > 0 by omega)]
        rfl
      | false =>
        have hne : e.x ≠ x := fun e' => by rw [eqPx_iff.2 e'] at hxe; cases hxe
        have hr := r2 hne
        simp only [Bool.not_false, cond_true]
        rw [atT_get hat, show e.t.partD 2 6 true = e.r.t from rfl, clB_ok (f11_ok (by omega) hro heo.r), cmp_beq, decide_eq_true hr]
        simp only [Bool.not_true, cond_false]
        rw [atT_get hat, show e.t.partD 2 6 true = e.r.t from rfl, clI_ok (f12_ok (by omega) hro heo.r), decide_eq_false (show ¬ cmpR r e.r > 0 by omega)]
        rfl) (fun _ _ => by
      rw [b3_13, decide_eq_false (by rw [List.length_map]; omega)]
      rfl) trivial
  refine f1.trans ?_
  have hl := h.len
  rw [t3_13_exit0, List.length_map, List.length_map, wrap_succ (show l.length ≤ big by omega), decide_eq_true (by omega)]
theorem f3_pre {M : Nat} {c : Cf} {t : List (List En)} {k : Int} {x : Px} {p : Pa} (hM : big + 90 ≤ M) (h : c.ok) (ht : okT t) (hk : ok64 k = true) (hx : x.ok) (hp : p.ok)
    (loop : ∀ l l', MoreOk x l l' → loopL env M 3 13 (sDK x l l' 0) = rB true) : callP env (M + 1) 3 [c.t, .sl 1 (tabT t), i64 k, x.t, p.t] = .ok (.bool true) := by
  obtain ⟨m, rfl⟩ := exM (show 1 ≤ M by omega)
  have hbig := big_val
  have hwf : T.wfs [c.t, .sl 1 (tabT t), i64 k, x.t, p.t] = true := by simp [T.wfs, h.wf, ht.wf, wf_int hk, hx.wf, hp.wf]
  rw [q3, W_ok hwf, cl_ok (f4_ok (by omega)), clB_ok (f5_ok (by omega) h ht)]
  cases h1 : few12 c with
  | false => rfl
  | true =>
  cases h2 : fewT t with
  | false => rfl
  | true =>
  have hrm := room_few h1 h2
  have hlo := loc_okF h ht h1 h2
  obtain ⟨a1, a2, a3, a4⟩ := few_parts h1 h2
  simp only [Bool.and_self, Bool.not_true, cond_false]
  by_cases hp100 : ((ints p.s).length : Int) > 100
  · rw [decide_eq_true hp100]; rfl
  rw [decide_eq_false hp100, cond_false]
  by_cases hk0 : k < 0
  · rw [decide_eq_true hk0]; rfl
  rw [decide_eq_false hk0, cond_false, List.length_map]
  by_cases hkl : k ≥ (t.length : Int)
  · rw [decide_eq_true hkl]; rfl
  obtain ⟨n, rfl⟩ : ∃ n : Nat, k = (n : Int) := ⟨k.toNat, by omega⟩
  obtain ⟨tl, e1⟩ : ∃ tl, t[n]? = some tl := ⟨_, List.getElem?_eq_getElem (by omega)⟩
  have htl := ht.2 tl (List.mem_of_getElem? e1)
  have htl40 := a4 tl (List.mem_of_getElem? e1)
  have hat : ∀ K : T → Res T, atT (t.map fun l => T.sl 6 (l.map En.t)) (n : Int) K = K (T.sl 6 (tl.map En.t)) := fun K => atT_get (tabs_get e1)
  have hnw := nwM_ok hx hp
  have hap := f7_ok (M := m) (t := tl) (n := nwM x p) (k := 1000) (by omega) (by show (tl.length + 1 + 1) * 64 ≤ big; omega) htl.2 hnw rfl rfl
  have hap : callP env (m + 1) 7 [T.sl 6 (tl.map En.t), T.agg [T.sl 2 [], i64 p.o, T.sl 1 (ints p.s), i64 p.h, i64 p.c, T.sl 2 [x.t]], i64 1000] = _ := hap
  rw [decide_eq_false hkl, cond_false, hat, cl_ok (f6_ok (by omega) htl.1 htl.2 hx)]
  simp only [compT, List.getElem?_cons_zero, List.getElem?_cons_succ, pa_chk, chk_true]
  rw [hat, show ∀ K : Res T, chkAll (T.okE 2) [x.t] K = K from fun K => rfl, cl_ok hap]
  cases hb : decide (((applyE tl (nwM x p)).length : Int) > 1000) with
  | true =>
    simp only [cond_true, compT, List.getElem?_cons_zero, List.getElem?_cons_succ, bT_bool]
    cases (getE tl x).isSome <;> rfl
  | false =>
  simp only [cond_false, compT, List.getElem?_cons_zero, List.getElem?_cons_succ, bT_bool, Bool.not_true]
  have hb' : (applyE tl (nwM x p)).length ≤ 1000 := by have := of_decide_eq_false hb; omega
  cases hg : getE tl x with
  | some q => rfl
  | none =>
  simp only [Option.isSome_none, cond_false]
  rw [hat, clB_ok (f8_ok (by omega) htl.1 htl.2)]
  cases hsn : tsane tl with
  | false => rfl
  | true =>
  simp only [Bool.not_true, cond_false]
  have hao : okL En.ok (applyE tl (nwM x p)) := ⟨by omega, applyE_ok htl.2 hnw⟩
  have hset : (t.map fun l => T.sl 6 (l.map En.t)).set n (T.sl 6 ((applyE tl (nwM x p)).map En.t)) = tabT (t.set n (applyE tl (nwM x p))) := by unfold tabT; rw [List.map_set]
  have hsk := seen_setK (n := n) h1 h2 hb'
  have hok2 := okT_setK (n := n) ht hao
  rw [show ∀ K : Res T, chkAll (T.okE 1) [] K = K from fun K => rfl, decide_eq_true (show (0 + t.length) * 24 ≤ 140737488355328 by omega), chk_true, decide_eq_true (show (0 : Int) ≤ (n : Int) by omega), decide_eq_true (show (n : Int) < (t.length : Int) by omega), Bool.and_self, chk_true,
    show ((T.sl 6 ((applyE tl (nwM x p)).map En.t)).cells.length == 1 && !(T.sl 6 ((applyE tl (nwM x p)).map En.t)).isTup) = true from rfl, chk_true, show (!(T.sl 6 ((applyE tl (nwM x p)).map En.t)).isAgg) = true from rfl, chk_true,
    cl_ok (f9_ok h ht hrm), Int.toNat_natCast, hset, cl_ok (f9_ok h hok2 (by unfold roomT; omega))]
  exact loop _ _ ⟨hlo, loc_okL h hok2 (by omega), fun e he => more_get e1 hg he, more_len e1 hg⟩
theorem f3_ok {M : Nat} {c : Cf} {t : List (List En)} {k : Int} {x : Px} {p : Pa} (hM : big + 91 ≤ M) (h : c.ok) (ht : okT t) (hk : ok64 k = true) (hx : x.ok) (hp : p.ok) : callP env (M + 1) 3 [c.t, .sl 1 (tabT t), i64 k, x.t, p.t] = .ok (.bool true) := by
  obtain ⟨m, rfl⟩ := exM (show 1 ≤ M by omega)
  exact f3_pre (by omega) h ht hk hx hp fun l l' hl => more_loop (by omega) hl
end Go.Sim
