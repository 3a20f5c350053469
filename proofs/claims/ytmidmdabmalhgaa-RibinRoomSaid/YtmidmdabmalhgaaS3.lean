/- What the functions of layer 18 answer: the place of a prefix. -/
import Derived.Test.YtmidmdabmalhgaaS2
namespace Go.Sim
open Go.RowKit Go.Proofs
set_option linter.unusedVariables false
set_option linter.unusedSimpArgs false

def bsE (c : Nat → Bool) : Nat → Nat → Nat → Nat
  | 0, i, _ => i
  | k + 1, i, j => bif decide (i < j) then (bif c ((i + j) / 2) then bsE c k ((i + j) / 2 + 1) j else bsE c k i ((i + j) / 2)) else i
theorem bsE_le (c : Nat → Bool) : ∀ (k i j : Nat), i ≤ j → i ≤ bsE c k i j ∧ bsE c k i j ≤ j
  | 0, i, j, h => ⟨Nat.le_refl _, h⟩
  | k + 1, i, j, h => by
    unfold bsE
    rcases Nat.lt_or_ge i j with h1 | h1
    · rw [decide_eq_true h1, cond_true]
      cases c ((i + j) / 2) with
      | true => have := bsE_le c k ((i + j) / 2 + 1) j (by omega); simp only [cond_true]; omega
      | false => have := bsE_le c k i ((i + j) / 2) (by omega); simp only [cond_false]; omega
    · rw [decide_eq_false (by omega), cond_false]; omega
def ltE (l : List En) (x : Px) (i : Nat) : Bool := match l[i]? with | some e => decide (cmpP e.x x < 0) | none => false
def placeE (l : List En) (x : Px) : Nat := bsE (ltE l x) l.length 0 l.length
def thereE (l : List En) (x : Px) : Bool := match l[placeE l x]? with | some e => cmpP e.x x == 0 | none => false
theorem placeE_le (l : List En) (x : Px) : placeE l x ≤ l.length := (bsE_le _ _ _ _ (Nat.zero_le _)).2
theorem thereE_lt {l : List En} {x : Px} (h : thereE l x = true) : placeE l x < l.length := by
  unfold thereE at h
  cases hx : l[placeE l x]? with
  | none => simp [hx] at h
  | some e => exact (List.getElem?_eq_some_iff.1 hx).1

theorem wrap_mid {i j : Nat} (hi : i ≤ big) (hj : j ≤ big) : IntKind.i64.wrap (Int.fdiv (IntKind.u64.wrap (IntKind.i64.wrap ((i : Int) + (j : Int)))) 2) = (((i + j) / 2 : Nat) : Int) := by
  have hb := big_val
  have h0 : IntKind.i64.wrap ((i : Int) + (j : Int)) = (i : Int) + (j : Int) := wrap64 (by omega)
  have h1 : IntKind.u64.wrap ((i : Int) + (j : Int)) = ((i + j : Nat) : Int) := by rw [IntKind.wrap_u64]; omega
  have h2 : Int.fdiv ((i + j : Nat) : Int) 2 = (((i + j) / 2 : Nat) : Int) := by
    rw [Int.fdiv_eq_ediv_of_nonneg _ (by omega)]; omega
  rw [h0, h1, h2, wrap64 (by omega)]

def S75 (l : List En) (x : Px) (i j : Nat) : St := ⟨slots 49 [(0, .t (.sl 6 (l.map En.t))), (2, .t (.fn 76 [] [])), (4, .ptr 0 0), (8, .t (i64 ((l.map En.t).length : Int))), (9, .t (i64 (i : Int))), (10, .t (i64 (j : Int)))], [.box 35 2 (.t (.agg [i64 x.a, i64 x.n]))]⟩
def X75 (l : List En) (x : Px) (i : Nat) : St := ⟨slots 49 [(0, .t (.sl 6 (l.map En.t))), (2, .t (.fn 76 [] [])), (4, .ptr 0 0), (8, .t (i64 ((l.map En.t).length : Int))), (9, .t (i64 (i : Int)))], [.box 35 2 (.t (.agg [i64 x.a, i64 x.n]))]⟩
theorem b75_exit {m : Nat} {l : List En} {x : Px} {i j : Nat} (h : j ≤ i) : bodyL env m 75 0 3 (S75 l x i j) = .ok (.exit 0, X75 l x i) := by
  unfold S75 X75
  rw [b75_3, decide_eq_false (by omega)]
  simp only [cond_false]
theorem b75_step {m : Nat} {l : List En} {x : Px} {i j : Nat} (h1 : i < j) (h2 : j ≤ l.length) (hl : l.length ≤ big) (h76 : ∀ i, (hi : i < l.length) → callP env m 76 [En.t l[i], .agg [i64 x.a, i64 x.n]] = .ok (i64 (cmpP l[i].x x))) :
    bodyL env m 75 0 3 (S75 l x i j) = .ok (.norm, bif ltE l x ((i + j) / 2) then S75 l x ((i + j) / 2 + 1) j else S75 l x i ((i + j) / 2)) := by
  have g : l[(i + j) / 2]? = some l[(i + j) / 2] := List.getElem?_eq_getElem (by omega)
  unfold S75
  rw [b75_3, decide_eq_true (by omega)]
  simp only [cond_true, wrap_mid (show i ≤ big by omega) (show j ≤ big by omega), atT_get (map_get g)]
  rw [apK_fn rfl (h76 _ (by omega))]
  simp only [iT_int, wrap_succ (show (i + j) / 2 ≤ big by omega), ltE, g]
  cases decide (cmpP l[(i + j) / 2].x x < 0) <;> simp only [cond_true, cond_false]
theorem e75' (N : Nat) (l : List En) (x : Px) (hw : T.wfs [.sl 6 (l.map En.t), .agg [i64 x.a, i64 x.n], .fn 76 [] []] = true) : callP env (N + 1) 75 [.sl 6 (l.map En.t), .agg [i64 x.a, i64 x.n], .fn 76 [] []] = loopL env N 75 3 (S75 l x 0 l.length) := by
  rw [e75, hw]
  simp only [cond_true, S75, List.length_map]
  rfl
theorem t75' (N : Nat) (l : List En) (x : Px) (i : Nat) (h76 : ∀ i, (hi : i < l.length) → callP env N 76 [En.t l[i], .agg [i64 x.a, i64 x.n]] = .ok (i64 (cmpP l[i].x x))) :
    tailL env N 75 0 3 (outK env 75) (.exit 0) (X75 l x i) = .ok (.tup [i64 (i : Int), .bool (match l[i]? with | some e => cmpP e.x x == 0 | none => false)]) := by
  unfold X75
  rw [t75_3_exit0]
  rcases Nat.lt_or_ge i l.length with h | h
  · have g : l[i]? = some l[i] := List.getElem?_eq_getElem h
    rw [decide_eq_true (by rw [List.length_map]; omega)]
    simp only [cond_true]
    rw [atT_get (map_get g), apK_fn rfl (h76 _ h)]
    simp only [iT_int, g]
  · have g : l[i]? = none := List.getElem?_eq_none h
    rw [decide_eq_false (by rw [List.length_map]; omega)]
    simp only [cond_false, g]

theorem f75_ok {M : Nat} {l : List En} {x : Px} (hM : big + 5 ≤ M) (hl : l.length ≤ big) (hs : ∀ e ∈ l, e.ok) (hx : x.ok) :
    callP env (M + 1) 75 [.sl 6 (l.map En.t), x.t, .fn 76 [] []] = .ok (.tup [i64 (placeE l x : Int), .bool (thereE l x)]) := by
  obtain ⟨m, rfl⟩ : ∃ m, M = m + 1 := ⟨M - 1, by omega⟩
  have hw := wfs3 (wf_sl (k := 6) hl fun e he => (hs e he).wf) hx.wf (wf_fn 76)
  have h76 : ∀ i, (hi : i < l.length) → callP env (m + 1) 76 [En.t l[i], .agg [i64 x.a, i64 x.n]] = .ok (i64 (cmpP l[i].x x)) := fun i hi => f76_ok (hs _ (List.getElem_mem _)) hx (by omega)
  have main : ∀ (k i j n : Nat), j - i ≤ k → k < n → j ≤ l.length → iterR (bodyL env (m + 1) 75 0 3) n (S75 l x i j) = .ok (.exit 0, X75 l x (bsE (ltE l x) k i j)) := by
    intro k
    induction k with
    | zero =>
      intro i j n h1 h2 h3
      obtain ⟨n, rfl⟩ : ∃ n', n = n' + 1 := ⟨n - 1, by omega⟩
      exact iterR_exit (b75_exit (by omega))
    | succ k ih =>
      intro i j n h1 h2 h3
      obtain ⟨n, rfl⟩ : ∃ n', n = n' + 1 := ⟨n - 1, by omega⟩
      rcases Nat.lt_or_ge i j with h4 | h4
      · rw [iterR_step (b75_step h4 h3 hl h76)]
        unfold bsE
        rw [decide_eq_true h4, cond_true]
        cases ltE l x ((i + j) / 2) with
        | true => simp only [cond_true]; exact ih _ _ _ (by omega) (by omega) h3
        | false => simp only [cond_false]; exact ih _ _ _ (by omega) (by omega) (by omega)
      · rw [iterR_exit (b75_exit h4)]
        unfold bsE
        rw [decide_eq_false (by omega), cond_false]
  have e := e75' (m + 1) l x hw
  rw [show x.t = .agg [i64 x.a, i64 x.n] from rfl, e]
  unfold loopL
  rw [main l.length 0 l.length (m + 1) (by omega) (by omega) (Nat.le_refl _)]
  rw [Res.bind_ok, t75' (m + 1) l x _ h76]
  rfl

theorem f44_ok {M : Nat} {l : List En} {x : Px} (hM : big + 7 ≤ M) (hl : l.length ≤ big) (hs : ∀ e ∈ l, e.ok) (hx : x.ok) :
    callP env (M + 1) 44 [.sl 6 (l.map En.t), x.t] = .ok (.tup [i64 (placeE l x : Int), .bool (thereE l x)]) := by
  obtain ⟨m, rfl⟩ : ∃ m, M = m + 1 := ⟨M - 1, by omega⟩
  have hw := wfs2 (wf_sl (k := 6) hl fun e he => (hs e he).wf) hx.wf
  have h := f75_ok (M := m) (by omega) hl hs hx
  simp only [Px.t] at hw h ⊢
  rw [e44, hw, h]
  rfl
end Go.Sim
