/- What the functions of layers 2, 7 and 18 answer, in plain data. -/
import Derived.Test.YtmidmdabmalhgaaQ1
namespace Go.Sim
open Go.RowKit Go.Proofs
set_option linter.unusedVariables false
set_option linter.unusedSimpArgs false

structure Px where
  a : Int
  n : Int
structure Pa where
  o : Int
  s : List Int
  h : Int
  c : Int
structure En where
  x : Px
  p : Pa
structure Nw where
  g : List Px
  p : Pa
  m : List Px
def ints (s : List Int) : List T := s.map i64
def Px.t (x : Px) : T := .agg [i64 x.a, i64 x.n]
def Pa.t (p : Pa) : T := .agg [i64 p.o, .sl 1 (ints p.s), i64 p.h, i64 p.c]
def En.t (e : En) : T := .agg [i64 e.x.a, i64 e.x.n, i64 e.p.o, .sl 1 (ints e.p.s), i64 e.p.h, i64 e.p.c]
def Nw.t (n : Nw) : T := .agg [.sl 2 (n.g.map Px.t), i64 n.p.o, .sl 1 (ints n.p.s), i64 n.p.h, i64 n.p.c, .sl 2 (n.m.map Px.t)]
structure Px.ok (x : Px) : Prop where
  a : ok64 x.a = true
  n : ok64 x.n = true
structure Pa.ok (p : Pa) : Prop where
  o : ok64 p.o = true
  l : p.s.length ≤ big
  s : ∀ i ∈ p.s, ok64 i = true
  h : ok64 p.h = true
  c : ok64 p.c = true
structure En.ok (e : En) : Prop where
  x : e.x.ok
  p : e.p.ok
structure Nw.ok (n : Nw) : Prop where
  g : ∀ x ∈ n.g, x.ok
  gl : n.g.length ≤ big
  p : n.p.ok
  m : ∀ x ∈ n.m, x.ok
  ml : n.m.length ≤ big

theorem wfs_ints {s : List Int} (h : ∀ i ∈ s, ok64 i = true) : T.wfs (ints s) = true := T.wfs_iff.2 fun x hx => by
  obtain ⟨i, hi, rfl⟩ := List.mem_map.1 hx
  simpa [T.wf] using h i hi
theorem Px.ok.wf {x : Px} (h : x.ok) : x.t.wf = true := by have := h.a; have := h.n; simp_all [Px.t, T.wf, T.wfs]
theorem Pa.ok.wf {p : Pa} (h : p.ok) : p.t.wf = true := by
  have h1 := h.o; have h2 := h.l; have h3 := wfs_ints h.s; have h4 := h.h; have h5 := h.c
  simp only [ok64] at h1 h4 h5
  simp [Pa.t, T.wf, T.wfs, h1, h3, h4, h5]
  simpa [ints] using h2
theorem En.ok.wf {e : En} (h : e.ok) : e.t.wf = true := by
  have h1 := h.p.o; have h2 := h.p.l; have h3 := wfs_ints h.p.s; have h4 := h.p.h; have h5 := h.p.c; have h6 := h.x.a; have h7 := h.x.n
  simp only [ok64] at h1 h4 h5 h6 h7
  simp [En.t, T.wf, T.wfs, h1, h3, h4, h5, h6, h7]
  simpa [ints] using h2
theorem wfs_map {α : Type} {f : α → T} {l : List α} (h : ∀ x ∈ l, (f x).wf = true) : T.wfs (l.map f) = true := T.wfs_iff.2 fun x hx => by
  obtain ⟨i, hi, rfl⟩ := List.mem_map.1 hx
  exact h i hi
theorem wf_sl {α : Type} {f : α → T} {l : List α} {k : Nat} (hl : l.length ≤ big) (h : ∀ x ∈ l, (f x).wf = true) : (T.sl k (l.map f)).wf = true := by
  simp only [T.wf, wfs_map h, Bool.and_true, decide_eq_true_eq, List.length_map]; exact hl
theorem Nw.ok.wf {n : Nw} (h : n.ok) : n.t.wf = true := by
  have a := wf_sl (k := 2) h.gl fun x hx => (h.g x hx).wf
  have b := wf_sl (k := 2) h.ml fun x hx => (h.m x hx).wf
  have h1 := h.p.o; have h2 := h.p.l; have h3 := wfs_ints h.p.s; have h4 := h.p.h; have h5 := h.p.c
  simp only [ok64] at h1 h4 h5
  have c : (T.sl 1 (ints n.p.s)).wf = true := by simp [T.wf, h3]; simpa [ints] using h2
  simp only [T.wf] at a b c
  simp only [Nw.t, T.wf, T.wfs, Bool.and_true]
  simp only [a, b, c, h1, h4, h5, Bool.and_self, T.wfs, T.wf]
theorem wfs1 {x : T} (h : x.wf = true) : T.wfs [x] = true := by simp [T.wfs, h]
theorem wfs2 {x y : T} (h : x.wf = true) (h2 : y.wf = true) : T.wfs [x, y] = true := by simp [T.wfs, h, h2]
theorem wfs3 {x y z : T} (h : x.wf = true) (h2 : y.wf = true) (h3 : z.wf = true) : T.wfs [x, y, z] = true := by simp [T.wfs, h, h2, h3]
theorem wf_fn (f : FuncId) : (T.fn f [] []).wf = true := by simp [T.wf, T.wfs]
theorem wf_int {n : Int} (h : ok64 n = true) : (i64 n).wf = true := by simpa [T.wf] using h

/-! ### loops -/
/-- The first of k numbers from i on. -/
def seekI (p : Nat → Bool) : Nat → Nat → Option Nat
  | _, 0 => none
  | i, k + 1 => bif p i then some i else seekI p (i + 1) k
theorem iter_seek {B : St → Res (Ex × St)} {S R : Nat → St} {X : St} {id : Nat} (p : Nat → Bool) : ∀ (k i n : Nat), k < n → (∀ j, i ≤ j → j < i + k → p j = true → B (S j) = .ok (.ret, R j)) → (∀ j, i ≤ j → j < i + k → p j = false → B (S j) = .ok (.norm, S (j + 1))) →
    B (S (i + k)) = .ok (.exit id, X) → iterR B n (S i) = match seekI p i k with | some j => .ok (.ret, R j) | none => .ok (.exit id, X)
  | 0, i, n + 1, _, _, _, h3 => by simp only [seekI]; exact iterR_exit h3
  | k + 1, i, n + 1, hk, h1, h2, h3 => by
    cases hp : p i with
    | true => simp only [seekI, hp, cond_true]; exact iterR_ret (h1 i (by omega) (by omega) hp)
    | false =>
      simp only [seekI, hp, cond_false]
      rw [iterR_step (h2 i (by omega) (by omega) hp)]
      exact iter_seek p k (i + 1) n (by omega) (fun j a b => h1 j (by omega) (by omega)) (fun j a b => h2 j (by omega) (by omega)) (by rw [show i + 1 + k = i + (k + 1) by omega]; exact h3)
theorem seekI_some {p : Nat → Bool} : ∀ {k i j : Nat}, seekI p i k = some j → i ≤ j ∧ j < i + k ∧ p j = true
  | 0, i, j, h => by simp [seekI] at h
  | k + 1, i, j, h => by
    cases hp : p i with
    | true => simp [seekI, hp] at h; subst h; exact ⟨by omega, by omega, hp⟩
    | false =>
      simp only [seekI, hp, cond_false] at h
      have := seekI_some h
      exact ⟨by omega, by omega, this.2.2⟩
theorem seekI_none {p : Nat → Bool} : ∀ {k i : Nat}, seekI p i k = none → ∀ j, i ≤ j → j < i + k → p j = false
  | 0, i, h, j, a, b => by omega
  | k + 1, i, h, j, a, b => by
    cases hp : p i with
    | true => simp [seekI, hp] at h
    | false =>
      simp only [seekI, hp, cond_false] at h
      rcases Nat.lt_or_ge i j with c | c
      · exact seekI_none h j (by omega) (by omega)
      · have : j = i := by omega
        subst this; exact hp
theorem seekI_any {α : Type} {l : List α} {q : α → Bool} {p : Nat → Bool} (hp : ∀ i x, l[i]? = some x → p i = q x) : (seekI p 0 l.length).isSome = l.any q := by
  rw [Bool.eq_iff_iff, List.any_eq_true]
  constructor
  · intro h
    obtain ⟨j, hj⟩ := Option.isSome_iff_exists.1 h
    obtain ⟨_, b, c⟩ := seekI_some hj
    have hlt : j < l.length := by omega
    exact ⟨l[j], List.getElem_mem _, by rw [← hp j _ (List.getElem?_eq_getElem hlt)]; exact c⟩
  · rintro ⟨x, hx, hq⟩
    obtain ⟨i, hi⟩ := List.getElem?_of_mem hx
    cases h : seekI p 0 l.length with
    | some _ => rfl
    | none =>
      have := seekI_none h i (by omega) (by have := (List.getElem?_eq_some_iff.1 hi).1; omega)
      rw [hp i x hi, hq] at this
      cases this

theorem atT_get {β : Type} {xs : List T} {i : Nat} {x : T} {K : T → Res β} (h : xs[i]? = some x) : atT xs (i : Int) K = K x := by
  simp only [atT, Int.toNat_natCast, h]
  rw [if_pos (by omega)]
theorem ints_get {s : List Int} {i : Nat} {x : Int} (h : s[i]? = some x) : (ints s)[i]? = some (i64 x) := by simp [ints, h]
theorem map_get {α : Type} {f : α → T} {l : List α} {i : Nat} {x : α} (h : l[i]? = some x) : (l.map f)[i]? = some (f x) := by simp [h]
theorem wrap_nat {n : Nat} (h : n ≤ big + big) : IntKind.i64.wrap (n : Int) = n := wrap64 (by have := big_val; omega)
theorem wrap_succ {n : Nat} (h : n ≤ big) : IntKind.i64.wrap ((n : Int) + 1) = ((n + 1 : Nat) : Int) := by rw [wrap64 (by have := big_val; omega)]; omega

/-- slices.IndexFunc, of a list that is read as 'f'. -/
def idxI : Option Nat → Int
  | some i => i
  | none => -1

theorem iT_int {β : Type} {n : Int} {K : Int → Res β} : iT .i64 (i64 n) K = K n := by simp [iT]
theorem bT_bool {β : Type} {b : Bool} {K : Bool → Res β} : bT (.bool b) K = K b := rfl

theorem f83_ok {M : Nat} {s : List Int} {g : FuncId} {q : Int → Bool} (hM : big + 1 ≤ M) (hl : s.length ≤ big) (hs : ∀ i ∈ s, (i64 i).wf = true) (hm : env.mode g = 0) (hq : ∀ i ∈ s, callP env M g [i64 i] = .ok (.bool (q i))) :
    ∃ k, callP env (M + 1) 83 [.sl 1 (s.map i64), .fn g [] []] = .ok (i64 (idxI k)) ∧ k.isSome = s.any q := by
  have hln : (s.map i64).length = s.length := by simp
  rw [e83, wfs2 (wf_sl hl hs) (wf_fn g)]
  simp only [cond_true, loopL]
  have hget : ∀ j, j < s.length → ∃ x, s[j]? = some x ∧ x ∈ s := fun j hj => ⟨s[j], List.getElem?_eq_getElem hj, List.getElem_mem _⟩
  have hstep : ∀ (j : Nat) x, s[j]? = some x → bodyL env M 83 0 2 ⟨slots 19 [(0, .t (.sl 1 (s.map i64))), (1, .t (.fn g [] [])), (7, .t (i64 ((s.map i64).length : Int))), (8, .t (i64 (j : Int)))], []⟩ =
      bif q x then .ok (.ret, ⟨slots 19 [(4, .t (i64 (j : Int)))], []⟩) else .ok (.norm, ⟨slots 19 [(0, .t (.sl 1 (s.map i64))), (1, .t (.fn g [] [])), (7, .t (i64 ((s.map i64).length : Int))), (8, .t (i64 ((j + 1 : Nat) : Int)))], []⟩) := fun j x hx => by
    have hj : j < s.length := (List.getElem?_eq_some_iff.1 hx).1
    rw [b83_2, decide_eq_true (by rw [hln]; omega)]
    simp only [cond_true, atT_get (map_get hx)]
    rw [show ∀ K : T → Res (Ex × St), apK env (recOf env M) (.fn g [] []) [i64 x] K = (callP env M g [i64 x]).bind K from fun K => by simp [apK, hm, recOf]]
    rw [hq x (List.mem_of_getElem? hx)]
    simp only [Res.bind_ok, bT_bool, wrap_succ (show j ≤ big by omega)]
  have := iter_seek (B := bodyL env M 83 0 2) (S := fun i => ⟨slots 19 [(0, .t (.sl 1 (s.map i64))), (1, .t (.fn g [] [])), (7, .t (i64 ((s.map i64).length : Int))), (8, .t (i64 (i : Int)))], []⟩) (R := fun i => ⟨slots 19 [(4, .t (i64 (i : Int)))], []⟩) (X := ⟨slots 19 [], []⟩) (id := 0)
    (fun i => match s[i]? with | some x => q x | none => false) s.length 0 M (by omega) (fun j _ hj hp => by
      obtain ⟨x, hx, _⟩ := hget j (by omega)
      simp only [hx] at hp
      rw [hstep j x hx, hp]; rfl) (fun j _ hj hp => by
      obtain ⟨x, hx, _⟩ := hget j (by omega)
      simp only [hx] at hp
      rw [hstep j x hx, hp]; rfl) (by rw [b83_2, decide_eq_false (by rw [hln]; omega)]; rfl)
  refine ⟨seekI (fun i => match s[i]? with | some x => q x | none => false) 0 s.length, ?_, seekI_any fun i x hx => by simp only [hx]⟩
  rw [show (i64 (0 : Int)) = i64 ((0 : Nat) : Int) from rfl]
  rw [this]
  cases seekI (fun i => match s[i]? with | some x => q x | none => false) 0 s.length with
  | none => simp only [Res.bind_ok, t83_2_exit0, idxI]
  | some j => simp only [Res.bind_ok, t83_2_ret, idxI]
theorem f82_ok {M : Nat} {s : List En} {g : FuncId} {q : En → Bool} (hM : big + 1 ≤ M) (hl : s.length ≤ big) (hs : ∀ i ∈ s, (En.t i).wf = true) (hm : env.mode g = 0) (hq : ∀ i ∈ s, callP env M g [En.t i] = .ok (.bool (q i))) :
    ∃ k, callP env (M + 1) 82 [.sl 6 (s.map En.t), .fn g [] []] = .ok (i64 (idxI k)) ∧ k.isSome = s.any q := by
  have hln : (s.map En.t).length = s.length := by simp
  rw [e82, wfs2 (wf_sl hl hs) (wf_fn g)]
  simp only [cond_true, loopL]
  have hget : ∀ j, j < s.length → ∃ x, s[j]? = some x ∧ x ∈ s := fun j hj => ⟨s[j], List.getElem?_eq_getElem hj, List.getElem_mem _⟩
  have hstep : ∀ (j : Nat) x, s[j]? = some x → bodyL env M 82 0 2 ⟨slots 19 [(0, .t (.sl 6 (s.map En.t))), (1, .t (.fn g [] [])), (7, .t (i64 ((s.map En.t).length : Int))), (8, .t (i64 (j : Int)))], []⟩ =
      bif q x then .ok (.ret, ⟨slots 19 [(4, .t (i64 (j : Int)))], []⟩) else .ok (.norm, ⟨slots 19 [(0, .t (.sl 6 (s.map En.t))), (1, .t (.fn g [] [])), (7, .t (i64 ((s.map En.t).length : Int))), (8, .t (i64 ((j + 1 : Nat) : Int)))], []⟩) := fun j x hx => by
    have hj : j < s.length := (List.getElem?_eq_some_iff.1 hx).1
    rw [b82_2, decide_eq_true (by rw [hln]; omega)]
    simp only [cond_true, atT_get (map_get hx)]
    rw [show ∀ K : T → Res (Ex × St), apK env (recOf env M) (.fn g [] []) [En.t x] K = (callP env M g [En.t x]).bind K from fun K => by simp [apK, hm, recOf]]
    rw [hq x (List.mem_of_getElem? hx)]
    simp only [Res.bind_ok, bT_bool, wrap_succ (show j ≤ big by omega)]
  have := iter_seek (B := bodyL env M 82 0 2) (S := fun i => ⟨slots 19 [(0, .t (.sl 6 (s.map En.t))), (1, .t (.fn g [] [])), (7, .t (i64 ((s.map En.t).length : Int))), (8, .t (i64 (i : Int)))], []⟩) (R := fun i => ⟨slots 19 [(4, .t (i64 (i : Int)))], []⟩) (X := ⟨slots 19 [], []⟩) (id := 0)
    (fun i => match s[i]? with | some x => q x | none => false) s.length 0 M (by omega) (fun j _ hj hp => by
      obtain ⟨x, hx, _⟩ := hget j (by omega)
      simp only [hx] at hp
      rw [hstep j x hx, hp]; rfl) (fun j _ hj hp => by
      obtain ⟨x, hx, _⟩ := hget j (by omega)
      simp only [hx] at hp
      rw [hstep j x hx, hp]; rfl) (by rw [b82_2, decide_eq_false (by rw [hln]; omega)]; rfl)
  refine ⟨seekI (fun i => match s[i]? with | some x => q x | none => false) 0 s.length, ?_, seekI_any fun i x hx => by simp only [hx]⟩
  rw [show (i64 (0 : Int)) = i64 ((0 : Nat) : Int) from rfl]
  rw [this]
  cases seekI (fun i => match s[i]? with | some x => q x | none => false) 0 s.length with
  | none => simp only [Res.bind_ok, t82_2_exit0, idxI]
  | some j => simp only [Res.bind_ok, t82_2_ret, idxI]
end Go.Sim
