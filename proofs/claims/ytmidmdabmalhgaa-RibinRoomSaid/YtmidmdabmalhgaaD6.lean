/- Binary and unary operations, conversions, slices that are read. -/
import Derived.Test.YtmidmdabmalhgaaD5
namespace Go.Sim
open Go.RowKit
set_option linter.unusedVariables false
set_option linter.unusedSimpArgs false

section
variable {β : Type} {E : Env} {st : St} {F : Nat → Prop} {κ : Nat → Value} {w : World}

theorem run_eqGuard_int (op : BinOp) (t : TypeId) (x y : Operand) (k k' : IntKind) (a b : Int) : (eqGuard op t x y (.int k a) (.int k' b)).run E.P w = .ok () w := by
  cases op <;> simp [eqGuard]

theorem arithK_sound {op : BinOp} {k : IntKind} {a b : Int} {K : T → Res β} {t : TypeId} (hop : op ≠ .shl ∧ op ≠ .shr) (h : arithK op k a b K ≠ .stuck) (ha : kindOk k a = true) (hb : kindOk k b = true) :
    ∃ q u, arithK op k a b K = K q ∧ (binOp op t (.int k a) (.int k b)).run E.P w = .ok u w ∧ Rd F w q u := by
  cases op with
  | quo =>
    simp only [arithK] at h ⊢
    obtain ⟨h1, h2⟩ := chk_inv h
    rw [h2]
    have : b ≠ 0 := by simpa using h1
    exact ⟨_, _, rfl, by simp [binOp, Op.intDiv, this], .int (wrap_ok _ _)⟩
  | rem =>
    simp only [arithK] at h ⊢
    obtain ⟨h1, h2⟩ := chk_inv h
    rw [h2]
    have : b ≠ 0 := by simpa using h1
    exact ⟨_, _, rfl, by simp [binOp, Op.intDiv, this], .int (tmod_ok ha)⟩
  | shl => exact absurd rfl hop.1
  | shr => exact absurd rfl hop.2
  | add | sub | mul => exact ⟨_, _, rfl, by simp [binOp, Op.intArith], .int (wrap_ok _ _)⟩
  | and | or | xor | andNot => exact ⟨_, _, rfl, by simp [binOp, Op.intBits], .int (wrap_ok _ _)⟩
  | eql | neq | lss | leq | gtr | geq => exact ⟨_, _, rfl, by simp [binOp, Op.intCmp], .bool⟩

theorem shiftK_sound {op : BinOp} {k k' : IntKind} {a b : Int} {K : T → Res β} {t : TypeId} (h : shiftK op k a b K ≠ .stuck) (ha : kindOk k a = true) :
    ∃ q u, shiftK op k a b K = K q ∧ (binOp op t (.int k a) (.int k' b)).run E.P w = .ok u w ∧ Rd F w q u := by
  cases op with
  | shl =>
    simp only [shiftK] at h ⊢
    obtain ⟨h1, h2⟩ := chk_inv h
    rw [h2]
    have : ¬ b < 0 := by have := of_decide_eq_true h1; omega
    exact ⟨_, _, rfl, by simp [binOp, Op.shift, this], .int (wrap_ok _ _)⟩
  | shr =>
    simp only [shiftK] at h ⊢
    obtain ⟨h1, h2⟩ := chk_inv h
    rw [h2]
    have : ¬ b < 0 := by have := of_decide_eq_true h1; omega
    exact ⟨_, _, rfl, by simp [binOp, Op.shift, this], .int (fdiv_ok _ ha)⟩
  | _ => exact absurd rfl h

def NilV (k : Nat) (v : Value) (b : Bool) : Prop := match k with
  | 0 => ∃ a, v = .pointer a ∧ b = a.isNone
  | 1 => (v = .nilFunc ∧ b = true) ∨ (∃ f fs cs, v = .func f fs cs ∧ b = false)
  | 2 => (v = .nilIface ∧ b = true) ∨ (∃ t x, v = .iface t x ∧ b = false)
  | 3 => v = .slice none 0 0 ∧ b = true
  | _ => False

theorem nilK_sound {k : Nat} {p : PV} {K : Bool → Res β} {v : Value} {N : Nat} (h : nilK k p K ≠ .stuck) (hp : RP F κ N w p v) : ∃ b, nilK k p K = K b ∧ NilV k v b := by
  cases hp with
  | ptr =>
    simp only [nilK] at h ⊢
    obtain ⟨h1, h2⟩ := cond_inv' h
    obtain rfl : k = 0 := by simpa using h1
    exact ⟨false, h2, _, rfl, rfl⟩
  | eptr =>
    simp only [nilK] at h ⊢
    obtain ⟨h1, h2⟩ := cond_inv' h
    obtain rfl : k = 0 := by simpa using h1
    exact ⟨false, h2, _, rfl, rfl⟩
  | rp =>
    simp only [nilK] at h ⊢
    obtain ⟨h1, h2⟩ := cond_inv' h
    obtain rfl : k = 0 := by simpa using h1
    exact ⟨false, h2, _, rfl, rfl⟩
  | fn =>
    simp only [nilK] at h ⊢
    obtain ⟨h1, h2⟩ := cond_inv' h
    obtain rfl : k = 1 := by simpa using h1
    exact ⟨false, h2, .inr ⟨_, _, _, rfl, rfl⟩⟩
  | nil =>
    simp only [nilK] at h ⊢
    obtain ⟨h1, h2⟩ := cond_inv' h
    obtain rfl : k = 3 := by simpa using h1
    exact ⟨true, h2, rfl, rfl⟩
  | t hx =>
    simp only [nilK] at h ⊢
    match k with
    | 0 =>
      cases hx with
      | nilp => exact ⟨true, rfl, _, rfl, rfl⟩
      | ref => exact ⟨false, rfl, _, rfl, rfl⟩
      | _ => exact absurd rfl h
    | 1 =>
      cases hx with
      | nilfn => exact ⟨true, rfl, .inl ⟨rfl, rfl⟩⟩
      | fn => exact ⟨false, rfl, .inr ⟨_, _, _, rfl, rfl⟩⟩
      | _ => exact absurd rfl h
    | 2 =>
      cases hx with
      | nilif => exact ⟨true, rfl, .inl ⟨rfl, rfl⟩⟩
      | iface => exact ⟨false, rfl, .inr ⟨_, _, rfl, rfl⟩⟩
      | _ => exact absurd rfl h
    | k + 3 => exact absurd rfl h
  | _ => exact absurd rfl h

theorem run_equalIn_nil (n : Nat) {t : TypeId} {k : Nat} (hk : nilKind E.P t = some k) {c v : Value} {b : Bool} (hv : NilV k v b) (hc : (k = 0 ∧ c = .pointer none) ∨ (k = 1 ∧ c = .nilFunc) ∨ (k = 2 ∧ c = .nilIface) ∨ (k = 3 ∧ c = .slice none 0 0)) :
    (Op.equalIn (n + 1) t v c).run E.P w = .ok b w ∧ (Op.equalIn (n + 1) t c v).run E.P w = .ok b w := by
  unfold nilKind at hk
  cases hd : E.P.underlying t with
  | none => simp [hd] at hk
  | some d =>
    cases d <;> simp [hd] at hk <;> subst hk <;> simp at hc <;> subst hc
    · obtain ⟨a, rfl, rfl⟩ := hv
      cases a <;> simp [Op.equalIn, run_underlying hd]
    · obtain ⟨rfl, rfl⟩ := hv
      simp [Op.equalIn, run_underlying hd]
    · rcases hv with ⟨rfl, rfl⟩ | ⟨f, fs, cs, rfl, rfl⟩ <;> simp [Op.equalIn, run_underlying hd]
    · rcases hv with ⟨rfl, rfl⟩ | ⟨f, fs, rfl, rfl⟩ <;> simp [Op.equalIn, run_underlying hd]
theorem run_equal_nil {t : TypeId} {k : Nat} (hk : nilKind E.P t = some k) {c v : Value} {b : Bool} (hv : NilV k v b) (hc : (k = 0 ∧ c = .pointer none) ∨ (k = 1 ∧ c = .nilFunc) ∨ (k = 2 ∧ c = .nilIface) ∨ (k = 3 ∧ c = .slice none 0 0)) :
    (Op.equal t v c).run E.P w = .ok b w ∧ (Op.equal t c v).run E.P w = .ok b w := by
  unfold Op.equal Op.maxDepth
  exact run_equalIn_nil 9999 hk hv hc

theorem isNilC_eval {k : Nat} {o : Operand} (h : isNilC k o = true) : ∃ c, o = .const c ∧ ((k = 0 ∧ c = .pointer none) ∨ (k = 1 ∧ c = .nilFunc) ∨ (k = 2 ∧ c = .nilIface) ∨ (k = 3 ∧ c = .slice none 0 0)) := by
  unfold isNilC at h
  split at h <;> simp at h <;> subst h <;> simp

theorem eqLs_len : ∀ (l : List Nat) (xs ys : List T) (b : Bool), T.eqLs l xs ys = some b → xs.length = l.length ∧ ys.length = l.length := by
  intro l
  induction l with
  | nil => intro xs ys b h; unfold T.eqLs at h; split at h <;> simp_all
  | cons k l ih =>
    intro xs ys b h
    unfold T.eqLs at h
    split at h
    · simp_all
    · rename_i h3
      injection h3 with h1 h1'
      subst h1 h1'
      split at h
      · simp only [Option.map_eq_some_iff] at h
        obtain ⟨b', h, _⟩ := h
        have := ih _ _ _ h
        simp [this.1, this.2]
      · cases h
    · rename_i h3
      injection h3 with h1 h1'
      subst h1 h1'
      simp only [Option.map_eq_some_iff] at h
      obtain ⟨b', h, _⟩ := h
      have := ih _ _ _ h
      simp [this.1, this.2]
    · rename_i h3
      injection h3 with h1 h1'
      subst h1 h1'
      simp only [Option.map_eq_some_iff] at h
      obtain ⟨b', h, _⟩ := h
      have := ih _ _ _ h
      simp [this.1, this.2]
    · cases h

theorem run_equal_flat {t : TypeId} {l : List Nat} {s : Nat} {a : Bool} (e1 : eqLv E.P 20 t = some l) (e2 : aggP E.P t = some a) (hls : l.length = s) (hc : (a = true ∧ 2 ≤ s) ∨ (a = false ∧ s = 1)) {x y : T} {vx vy : Value} {b : Bool}
    (r1 : Rd F w x vx) (r2 : Rd F w y vy) (he : T.eqLs l (x.flat l) (y.flat l) = some b) :
    ∃ vs us, vs.length = l.length ∧ us.length = l.length ∧ vx = valOf a vs ∧ vy = valOf a us ∧ (Op.equal t (valOf a vs) (valOf a us)).run E.P w = .ok b w := by
  obtain ⟨hx1, hy1⟩ := eqLs_len _ _ _ _ he
  have hcells : ∀ {x : T} {v : Value}, Rd F w x v → (x.flat l).length = l.length → ∃ vs, v = valOf a vs ∧ vs.length = l.length ∧ ∀ (i : Nat) (y : T) (u : Value), (x.flat l)[i]? = some y → vs[i]? = some u → Rd F w y u := by
    intro x v r hl
    rcases hc with ⟨rfl, h2⟩ | ⟨rfl, rfl⟩
    · have hf : x.flat l = x.cells := by
        unfold T.flat
        split
        · simp at hls; omega
        · rfl
      rw [hf] at hl ⊢
      obtain ⟨cs, rfl⟩ := agg_of_two (x := x) (by omega)
      cases r with
      | @agg _ vs hl' h1 hr => exact ⟨vs, rfl, by simp [T.cells] at hl; omega, hr⟩
    · obtain ⟨k, rfl⟩ := List.length_eq_one_iff.1 hls
      refine ⟨[v], rfl, rfl, fun i y u g1 g2 => ?_⟩
      cases i with
      | zero => simp [T.flat] at g1 g2; subst g1 g2; exact r
      | succ i => simp at g2
  obtain ⟨vs, rfl, hv1, rv⟩ := hcells r1 hx1
  obtain ⟨us, rfl, hu1, ru⟩ := hcells r2 hy1
  have hrun := eq_sound 9980 20 t l e1 a e2 F w _ _ vs us b hv1 hu1 hx1 hy1 rv ru he
  refine ⟨vs, us, hv1, hu1, rfl, rfl, ?_⟩
  unfold Op.equal Op.maxDepth
  exact hrun

set_option maxHeartbeats 1000000 in
theorem flat_sound {t : TypeId} {l : List Nat} {s : Nat} {a : Bool} (e1 : eqLv E.P 20 t = some l) (e2 : aggP E.P t = some a) (hls : l.length = s) (hc : (a = true ∧ 2 ≤ s) ∨ (a = false ∧ s = 1)) (hg : E.P.eqGuardType E.P.depth t = false) (hkind : kindP E.P t = none)
    {x y : T} {vx vy : Value} {b : Bool} (r1 : Rd F w x vx) (r2 : Rd F w y vy) (he : T.eqLs l (x.flat l) (y.flat l) = some b) (ox oy : Operand) :
    (do eqGuard .eql t ox oy vx vy; binOp .eql t vx vy : Sem Value).run E.P w = .ok (.bool b) w ∧ (do eqGuard .neq t ox oy vx vy; binOp .neq t vx vy : Sem Value).run E.P w = .ok (.bool !b) w := by
  obtain ⟨vs, us, hv1, hu1, rfl, rfl, hrun⟩ := run_equal_flat e1 e2 hls hc r1 r2 he
  rcases hc with ⟨rfl, h2⟩ | ⟨rfl, rfl⟩
  · have hgd := fun op => run_eqGuard_agg (P := E.P) w op t ox oy vs.toArray us.toArray hg
    have hrun' : (Op.equal t (.agg vs.toArray) (.agg us.toArray)).run E.P w = .ok b w := hrun
    constructor
    · show (do eqGuard .eql t ox oy (.agg vs.toArray) (.agg us.toArray); binOp .eql t (.agg vs.toArray) (.agg us.toArray) : Sem Value).run E.P w = _
      simp only [Sem.run_bind, hgd, Result.andThen_ok, binOp, hrun', Sem.run_pure]
    · show (do eqGuard .neq t ox oy (.agg vs.toArray) (.agg us.toArray); binOp .neq t (.agg vs.toArray) (.agg us.toArray) : Sem Value).run E.P w = _
      simp only [Sem.run_bind, hgd, Result.andThen_ok, binOp, hrun', Sem.run_pure]
  · obtain ⟨k, rfl⟩ := List.length_eq_one_iff.1 hls
    obtain ⟨v, rfl⟩ := List.length_eq_one_iff.1 hv1
    obtain ⟨u, rfl⟩ := List.length_eq_one_iff.1 hu1
    have q1 : Rd F w x v := r1
    have q2 : Rd F w y u := r2
    simp only [T.flat] at he
    have hrun' : (Op.equal t v u).run E.P w = .ok b w := hrun
    show (do eqGuard .eql t ox oy v u; binOp .eql t v u : Sem Value).run E.P w = _ ∧ (do eqGuard .neq t ox oy v u; binOp .neq t v u : Sem Value).run E.P w = _
    match k, he with
    | 0, he =>
      exfalso
      unfold eqLv at e1
      cases hd : E.P.underlying t with
      | none => simp [hd] at e1
      | some kd =>
        cases kd with
        | int k => simp [kindP, hd] at hkind
        | bool => simp [hd] at e1
        | string => simp [hd] at e1
        | struct fs => simp [aggP, hd] at e2
        | _ => simp [hd] at e1
    | 1, he =>
      cases q1 <;> cases q2 <;> simp [T.eqLs] at he
      constructor
      · simp [eqGuard, binOp, hrun']
      · simp [eqGuard, binOp, hrun']
    | 2, he =>
      cases q1 <;> cases q2 <;> simp [T.eqLs] at he
      subst he
      constructor
      · simp [eqGuard, binOp, Op.stringOp, beq_toListBytes]
      · simp [eqGuard, binOp, Op.stringOp, beq_toListBytes]
    | k + 3, he => simp [T.eqLs] at he

set_option maxHeartbeats 1000000 in
def Is (o : Operand) (v : Value) : Prop := ∀ c, o = .const c → v = c

theorem eqK_sound {t : TypeId} {x y : Operand} {px py : PV} {K : Bool → Res β} {vx vy : Value} {N : Nat} (h : eqK E t x y px py K ≠ .stuck) (hx : RP F κ N w px vx) (hy : RP F κ N w py vy) (ix : Is x vx) (iy : Is y vy) (hkind : kindP E.P t = none) :
    ∃ b, eqK E t x y px py K = K b ∧ (do eqGuard .eql t x y vx vy; binOp .eql t vx vy : Sem Value).run E.P w = .ok (.bool b) w ∧ (do eqGuard .neq t x y vx vy; binOp .neq t vx vy : Sem Value).run E.P w = .ok (.bool !b) w := by
  unfold eqK at h ⊢
  cases hk : nilKind E.P t with
  | some k =>
    simp only [hk] at h ⊢
    have fin : ∀ {b : Bool}, (Op.equal t vx vy).run E.P w = .ok b w → (∀ op, (eqGuard op t x y vx vy).run E.P w = .ok () w) → (∀ k a k' a', ¬ (vx = .int k a ∧ vy = .int k' a')) → (∀ k a k' a', ¬ (vx = .float k a ∧ vy = .float k' a')) →
        (∀ k a a2 k' a' a2', ¬ (vx = .complex k a a2 ∧ vy = .complex k' a' a2')) → (∀ a b, ¬ (vx = .string a ∧ vy = .string b)) →
        (do eqGuard .eql t x y vx vy; binOp .eql t vx vy : Sem Value).run E.P w = .ok (.bool b) w ∧ (do eqGuard .neq t x y vx vy; binOp .neq t vx vy : Sem Value).run E.P w = .ok (.bool !b) w := by
      intro b he hg n1 n2 n3 n4
      have e1 : binOp .eql t vx vy = (do pure (.bool (← Op.equal t vx vy))) := by
        cases vx <;> cases vy <;> first | rfl | exact absurd ⟨rfl, rfl⟩ (n1 _ _ _ _) | exact absurd ⟨rfl, rfl⟩ (n2 _ _ _ _) | exact absurd ⟨rfl, rfl⟩ (n3 _ _ _ _ _ _) | exact absurd ⟨rfl, rfl⟩ (n4 _ _)
      have e2 : binOp .neq t vx vy = (do pure (.bool (!(← Op.equal t vx vy)))) := by
        cases vx <;> cases vy <;> first | rfl | exact absurd ⟨rfl, rfl⟩ (n1 _ _ _ _) | exact absurd ⟨rfl, rfl⟩ (n2 _ _ _ _) | exact absurd ⟨rfl, rfl⟩ (n3 _ _ _ _ _ _) | exact absurd ⟨rfl, rfl⟩ (n4 _ _)
      rw [e1, e2]
      simp [hg, he]
    have guardOf : ∀ {c : Value}, ((k = 0 ∧ c = .pointer none) ∨ (k = 1 ∧ c = .nilFunc) ∨ (k = 2 ∧ c = .nilIface) ∨ (k = 3 ∧ c = .slice none 0 0)) → (x = .const c ∧ vx = c ∨ y = .const c ∧ vy = c) → ∀ op, (eqGuard op t x y vx vy).run E.P w = .ok () w := by
      intro c hc hxy op
      have hn : ∀ cs, c ≠ .agg cs := by rintro cs rfl; simp at hc
      unfold eqGuard
      rcases hxy with ⟨rfl, rfl⟩ | ⟨rfl, rfl⟩
      · cases op <;> (cases vx <;> cases vy <;> first | (simp; done) | exact absurd rfl (hn _))
      · cases op <;> (cases vx <;> cases vy <;> first | (simp; done) | exact absurd rfl (hn _))
    cases hc1 : isNilC k y with
    | true =>
      simp only [hc1, cond_true] at h ⊢
      obtain ⟨b, e1, hv⟩ := nilK_sound h hx
      obtain ⟨c, rfl, hc⟩ := isNilC_eval hc1
      obtain rfl := iy c rfl
      refine ⟨b, e1, fin (run_equal_nil hk hv hc).1 (guardOf hc (.inr ⟨rfl, rfl⟩)) ?_ ?_ ?_ ?_⟩ <;> (intros; rintro ⟨-, rfl⟩; simp at hc)
    | false =>
      simp only [hc1, cond_false] at h ⊢
      obtain ⟨hc2, e0⟩ := cond_inv' h
      rw [e0] at h ⊢
      obtain ⟨b, e1, hv⟩ := nilK_sound h hy
      obtain ⟨c, rfl, hc⟩ := isNilC_eval hc2
      obtain rfl := ix c rfl
      refine ⟨b, e1, fin (run_equal_nil hk hv hc).2 (guardOf hc (.inl ⟨rfl, rfl⟩)) ?_ ?_ ?_ ?_⟩ <;> (intros; rintro ⟨rfl, -⟩; simp at hc)
  | none =>
    simp only [hk] at h ⊢
    obtain ⟨l, hl, e0⟩ := someK_inv h
    rw [e0] at h ⊢
    unfold flatP at hl
    cases hg : E.P.eqGuardType E.P.depth t with
    | true => simp [hg] at hl
    | false =>
      simp only [hg, cond_false] at hl
      cases e1 : eqLv E.P 20 t with
      | none => simp [e1] at hl
      | some l' =>
        cases e2 : aggP E.P t with
        | none => simp [e1, e2] at hl
        | some a =>
          cases e3 : szP E.P t with
          | none => simp [e1, e2, e3] at hl
          | some s =>
            simp only [e1, e2, e3] at hl
            cases hc : (l'.length == s && ((a && decide (2 ≤ s)) || (!a && s == 1))) with
            | false => simp [hc] at hl
            | true =>
              simp only [hc, cond_true, Option.some.injEq] at hl
              subst hl
              cases hx with
              | @t a1 _ r1 =>
                cases hy with
                | @t a2 _ r2 =>
                  simp only [eqT] at h ⊢
                  cases he : T.eqLs l' (a1.flat l') (a2.flat l') with
                  | none => simp [he] at h
                  | some b =>
                    simp only [he] at h ⊢
                    simp only [Bool.and_eq_true, beq_iff_eq] at hc
                    obtain ⟨hls, hc⟩ := hc
                    exact ⟨b, rfl, flat_sound e1 e2 hls (by cases a <;> simp_all) hg hkind r1 r2 he x y⟩
                | _ => exact absurd rfl h
              | _ => exact absurd rfl h
end
end Go.Sim
