/- slices.Clone: its walk, and what its callers lean on. -/
import Derived.Test.YtmidmdabmalhgaaD25
import Derived.Test.YtmidmdabmalhgaaProg
import Derived.Shelf.Spec.SlicesInsert
import Derived.WalkLawsBesides
namespace Go.Sim
open Go.RowKit Go.Proofs Go.Lib
set_option linter.unusedVariables false
set_option linter.unusedSimpArgs false
set_option maxHeartbeats 4000000
set_option maxRecDepth 100000

/-- What slices.Clone does. -/
def cloneG (k b : Nat) (ts : List T) : Res T := match ts with
  | [.sl k' xs] => bif k' == k && decide (xs.length * b ≤ big) then .ok (.sl k xs) else .stuck
  | _ => .stuck

theorem clone46_walk (A : Option Addr) (n c : Nat) (w : World) (news : List Value) (hl : news.length = n * 6) (h1 : ∀ u ∈ news, u.oneCell' = true)
    (hA : (A = none ∧ n = 0) ∨ ∃ ad : Addr, A = some ad ∧ ∀ (j : Nat) (u : Value), news[j]? = some u → w.cell? (ad.add j) = some u) (hb : n * 64 ≤ big) :
    Calls Try.prog 46 #[.slice A n c] w fun e w' => ∃ v', e = .returned v' ∧ w'.ownsRow 0 64 6 v' n news ∧ w.grownBy w' none ∧ (∀ b, v'.ownBlock = some b → w.heap.size ≤ b ∧ b < w'.heap.size) := by
  have u40 : Try.prog.underlying 40 = some (.slice 64) := by kernel_rfl
  have sz : szP Try.prog 64 = some 6 := by kernel_rfl
  have by64 : byP Try.prog 64 = some 64 := by kernel_rfl
  have zr : zeroOk Try.prog 64 6 = true := by kernel_rfl
  have hcmp : ∀ (B : Option Addr) (p q : Nat) (w : World), (binOp .eql 40 (.slice B p q) (.slice none 0 0)).run Try.prog w = .ok (.bool B.isNone) w := fun B p q w => by
    have hu := run_underlying u40
    have hd : Op.maxDepth = 9999 + 1 := by decide
    have he : (Op.equalIn Op.maxDepth 40 (.slice B p q) (.slice none 0 0)).run Try.prog w = .ok B.isNone w := by
      rw [hd, Op.equalIn]
      cases B <;> simp only [Sem.run_bind, hu, Result.andThen_ok, Sem.run_pure] <;> rfl
    simp [binOp, Op.equal, he]
  rcases hA with ⟨rfl, rfl⟩ | ⟨ad, rfl, hA⟩
  · have : news = [] := List.eq_nil_of_length_eq_zero (by simpa using hl)
    subst this
    go_enter Try.func46, Try.ntmps46
    go_wp2
    go_ret
    exact ⟨_, rfl, World.ownsRow_nil w 0 64 6, ⟨rfl, rfl, rfl, Nat.le_refl _, fun _ _ _ => rfl⟩, fun b hb => by simp [Value.ownBlock] at hb⟩
  · obtain ⟨N, hN⟩ : ∃ N, w.heap.size = N := ⟨_, rfl⟩
    have hown : (w.alloc (.cells #[] 64)).ownsRow 0 64 6 (.slice (some ⟨N, 0, none⟩) 0 0) 0 [] := by
      rw [← hN]; exact World.ownsRow_lit w #[] 0 (by omega) (by simp) (by simp)
    have hA' : ∀ (j : Nat) (u : Value), news[j]? = some u → (w.alloc (.cells #[] 64)).cell? (ad.add j) = some u := fun j u hj => by
      have h2 := hA j u hj
      have hb : (ad.add j).block < w.heap.size := by
        cases h3 : w.heap[(ad.add j).block]? with
        | none => simp [World.cell?, h3] at h2
        | some _ => exact (Array.getElem?_eq_some_iff.1 h3).1
      rw [World.cell?_of_block (heap_alloc_old w _ hb)]
      exact h2
    obtain ⟨v', w', r1, r2, r3, r4⟩ := run_append_any (w.alloc (.cells #[] 64)) 40 40 64 (k := 5) (b := 63) u40 sz by64 zr (.slice (some ⟨N, 0, none⟩) 0 0) 0 [] hown (some ad) n c news hl (.inr ⟨ad, rfl, hA'⟩) h1 (by omega)
    have hsz : (w.alloc (.cells #[] 64)).heap.size = N + 1 := by simp [hN]
    have hgb : w.grownBy w' none := by
      refine ⟨r3.os, r3.tape, r3.output, by have := r3.size; omega, fun k hk _ => ?_⟩
      rw [r3.block k (by omega) (by simp [Value.ownBlock]; omega)]
      exact heap_alloc_old w _ hk
    clear hA hA' hown
    obtain ⟨ab, ao, asp⟩ := ad
    go_enter Try.func46, Try.ntmps46
    go_wp2_with (at_builtin; refine Lib.wpList_append_run _ rfl _ _ _ _ rfl _ _ rfl rfl _ _ r1 ?_)
    all_goals
      go_ret
      refine ⟨v', rfl, by simpa using r2, hgb, fun b hb => ?_⟩
      refine ⟨?_, ownsRow_lt r2 b hb⟩
      rcases r4 with r4 | r4
      · rw [hb] at r4; simp [Value.ownBlock] at r4; omega
      · rw [hb] at r4; injection r4 with r4; omega

theorem clone46_ext {E : Env} (hP : E.P = Try.prog) (hr : retRow E 46 = some (64, 6)) (hm : E.mode 46 = 1) : ∀ ts, cloneG 6 64 ts ≠ .stuck → ∀ (F : Nat → Prop) (w : World) (vals : List Value), vals.length = ts.length →
    (∀ (i : Nat) (x : T) (v : Value), ts[i]? = some x → vals[i]? = some v → Rd F w x v) → (∀ b, F b → b < w.heap.size) →
    Invokes E.P 46 vals.toArray w fun v w' => ∃ x F', cloneG 6 64 ts = .ok x ∧ Out E 46 F' w.heap.size w' x v ∧ Grown F w F' w' := by
  intro ts h F w vals hl ha hfl
  unfold cloneG at h ⊢
  match ts, vals, hl with
  | [.sl k' xs], [v], _ =>
    simp only [] at h ⊢
    obtain ⟨g1, e1⟩ := cond_inv' h
    rw [e1]
    simp only [Bool.and_eq_true, beq_iff_eq, decide_eq_true_eq] at g1
    obtain ⟨rfl, hb⟩ := g1
    have hv := ha 0 _ v rfl rfl
    obtain ⟨A, c, news, rfl, n1, n2, n3, n4, n5, n6⟩ := (SlV.of_sl (κ := fun _ => undef) (H := []) (p := .junk) hv).news
    have hw := clone46_walk A xs.length c w news n1 n2 (n5.imp (fun h => ⟨h.1, by rw [h.2]; rfl⟩) id) hb
    unfold Invokes
    have : (callFunc 46 [Value.slice A xs.length c].toArray).run E.P w = .ok (.enter 46 [Value.slice A xs.length c].toArray) w := by
      rw [hP]; simp [callFunc, Try.func46, Try.f46]
    rw [this]
    rw [hP]
    refine Calls.mono hw ?_
    rintro e w' ⟨v', rfl, b1, b2, b3⟩
    have hold : ∀ b, b < w.heap.size → w'.heap[b]? = w.heap[b]? := fun b hb => b2.block b hb (by simp)
    refine ⟨v', rfl, .sl 6 xs, F, rfl, .row hm hr ⟨news, b1, n4, n3, n2, fun i x j y u h1 h2 h3 => (n6 i x j y u h1 h2 h3).mono (fun _ h => h) (fun b hb => hold b (hfl b hb))⟩ (fun b hb => ⟨(b3 b hb).1, (b3 b hb).2, fun hf => by have := hfl b hf; have := (b3 b hb).1; omega⟩),
      ⟨b2.os, b2.tape, b2.output, b2.size, hold, fun _ h => h, fun _ h => .inl h, fun b hb => Nat.lt_of_lt_of_le (hfl b hb) b2.size⟩⟩
theorem clone73_walk (A : Option Addr) (n c : Nat) (w : World) (news : List Value) (hl : news.length = n * 6) (h1 : ∀ u ∈ news, u.oneCell' = true)
    (hA : (A = none ∧ n = 0) ∨ ∃ ad : Addr, A = some ad ∧ ∀ (j : Nat) (u : Value), news[j]? = some u → w.cell? (ad.add j) = some u) (hb : n * 48 ≤ big) :
    Calls Try.prog 73 #[.slice A n c] w fun e w' => ∃ v', e = .returned v' ∧ w'.ownsRow 0 37 6 v' n news ∧ w.grownBy w' none ∧ (∀ b, v'.ownBlock = some b → w.heap.size ≤ b ∧ b < w'.heap.size) := by
  have u31 : Try.prog.underlying 31 = some (.slice 37) := by kernel_rfl
  have sz : szP Try.prog 37 = some 6 := by kernel_rfl
  have byt : byP Try.prog 37 = some 48 := by kernel_rfl
  have zr : zeroOk Try.prog 37 6 = true := by kernel_rfl
  have hcmp : ∀ (B : Option Addr) (p q : Nat) (w : World), (binOp .eql 31 (.slice B p q) (.slice none 0 0)).run Try.prog w = .ok (.bool B.isNone) w := fun B p q w => by
    have hu := run_underlying u31
    have hd : Op.maxDepth = 9999 + 1 := by decide
    have he : (Op.equalIn Op.maxDepth 31 (.slice B p q) (.slice none 0 0)).run Try.prog w = .ok B.isNone w := by
      rw [hd, Op.equalIn]
      cases B <;> simp only [Sem.run_bind, hu, Result.andThen_ok, Sem.run_pure] <;> rfl
    simp [binOp, Op.equal, he]
  rcases hA with ⟨rfl, rfl⟩ | ⟨ad, rfl, hA⟩
  · have : news = [] := List.eq_nil_of_length_eq_zero (by simpa using hl)
    subst this
    go_enter Try.func73, Try.ntmps73
    go_wp2
    go_ret
    exact ⟨_, rfl, World.ownsRow_nil w 0 37 6, ⟨rfl, rfl, rfl, Nat.le_refl _, fun _ _ _ => rfl⟩, fun b hb => by simp [Value.ownBlock] at hb⟩
  · obtain ⟨N, hN⟩ : ∃ N, w.heap.size = N := ⟨_, rfl⟩
    have hown : (w.alloc (.cells #[] 37)).ownsRow 0 37 6 (.slice (some ⟨N, 0, none⟩) 0 0) 0 [] := by
      rw [← hN]; exact World.ownsRow_lit w #[] 0 (by omega) (by simp) (by simp)
    have hA' : ∀ (j : Nat) (u : Value), news[j]? = some u → (w.alloc (.cells #[] 37)).cell? (ad.add j) = some u := fun j u hj => by
      have h2 := hA j u hj
      have hb : (ad.add j).block < w.heap.size := by
        cases h3 : w.heap[(ad.add j).block]? with
        | none => simp [World.cell?, h3] at h2
        | some _ => exact (Array.getElem?_eq_some_iff.1 h3).1
      rw [World.cell?_of_block (heap_alloc_old w _ hb)]
      exact h2
    obtain ⟨v', w', r1, r2, r3, r4⟩ := run_append_any (w.alloc (.cells #[] 37)) 31 31 37 (k := 5) (b := 47) u31 sz byt zr (.slice (some ⟨N, 0, none⟩) 0 0) 0 [] hown (some ad) n c news hl (.inr ⟨ad, rfl, hA'⟩) h1 (by omega)
    have hsz : (w.alloc (.cells #[] 37)).heap.size = N + 1 := by simp [hN]
    have hgb : w.grownBy w' none := by
      refine ⟨r3.os, r3.tape, r3.output, by have := r3.size; omega, fun k hk _ => ?_⟩
      rw [r3.block k (by omega) (by simp [Value.ownBlock]; omega)]
      exact heap_alloc_old w _ hk
    clear hA hA' hown
    obtain ⟨ab, ao, asp⟩ := ad
    go_enter Try.func73, Try.ntmps73
    go_wp2_with (at_builtin; refine Lib.wpList_append_run _ rfl _ _ _ _ rfl _ _ rfl rfl _ _ r1 ?_)
    all_goals
      go_ret
      refine ⟨v', rfl, by simpa using r2, hgb, fun b hb => ?_⟩
      refine ⟨?_, ownsRow_lt r2 b hb⟩
      rcases r4 with r4 | r4
      · rw [hb] at r4; simp [Value.ownBlock] at r4; omega
      · rw [hb] at r4; injection r4 with r4; omega

theorem clone73_ext {E : Env} (hP : E.P = Try.prog) (hr : retRow E 73 = some (37, 6)) (hm : E.mode 73 = 1) : ∀ ts, cloneG 6 48 ts ≠ .stuck → ∀ (F : Nat → Prop) (w : World) (vals : List Value), vals.length = ts.length →
    (∀ (i : Nat) (x : T) (v : Value), ts[i]? = some x → vals[i]? = some v → Rd F w x v) → (∀ b, F b → b < w.heap.size) →
    Invokes E.P 73 vals.toArray w fun v w' => ∃ x F', cloneG 6 48 ts = .ok x ∧ Out E 73 F' w.heap.size w' x v ∧ Grown F w F' w' := by
  intro ts h F w vals hl ha hfl
  unfold cloneG at h ⊢
  match ts, vals, hl with
  | [.sl k' xs], [v], _ =>
    simp only [] at h ⊢
    obtain ⟨g1, e1⟩ := cond_inv' h
    rw [e1]
    simp only [Bool.and_eq_true, beq_iff_eq, decide_eq_true_eq] at g1
    obtain ⟨rfl, hb⟩ := g1
    have hv := ha 0 _ v rfl rfl
    obtain ⟨A, c, news, rfl, n1, n2, n3, n4, n5, n6⟩ := (SlV.of_sl (κ := fun _ => undef) (H := []) (p := .junk) hv).news
    have hw := clone73_walk A xs.length c w news n1 n2 (n5.imp (fun h => ⟨h.1, by rw [h.2]; rfl⟩) id) hb
    unfold Invokes
    have : (callFunc 73 [Value.slice A xs.length c].toArray).run E.P w = .ok (.enter 73 [Value.slice A xs.length c].toArray) w := by
      rw [hP]; simp [callFunc, Try.func73, Try.f73]
    rw [this]
    rw [hP]
    refine Calls.mono hw ?_
    rintro e w' ⟨v', rfl, b1, b2, b3⟩
    have hold : ∀ b, b < w.heap.size → w'.heap[b]? = w.heap[b]? := fun b hb => b2.block b hb (by simp)
    refine ⟨v', rfl, .sl 6 xs, F, rfl, .row hm hr ⟨news, b1, n4, n3, n2, fun i x j y u h1 h2 h3 => (n6 i x j y u h1 h2 h3).mono (fun _ h => h) (fun b hb => hold b (hfl b hb))⟩ (fun b hb => ⟨(b3 b hb).1, (b3 b hb).2, fun hf => by have := hfl b hf; have := (b3 b hb).1; omega⟩),
      ⟨b2.os, b2.tape, b2.output, b2.size, hold, fun _ h => h, fun _ h => .inl h, fun b hb => Nat.lt_of_lt_of_le (hfl b hb) b2.size⟩⟩
end Go.Sim
