/- slices.Insert: what its callers lean on. -/
import Derived.Test.YtmidmdabmalhgaaIns
import Derived.Test.YtmidmdabmalhgaaD25
namespace Go.Sim
open Go.RowKit Go.Proofs
set_option linter.unusedVariables false
set_option linter.unusedSimpArgs false

theorem cells_insert {k i : Nat} {xs zs : List T} {cs ds : List Value} (hcs : cs.length = xs.length * k) (hds : ds.length = zs.length * k) (hi : i ≤ xs.length) {R : T → Value → Prop}
    (kx : ∀ x ∈ xs, x.cells.length = k) (kz : ∀ x ∈ zs, x.cells.length = k)
    (h1 : ∀ (i : Nat) (x : T) (j : Nat) (y : T) (v : Value), xs[i]? = some x → x.cells[j]? = some y → cs[i * k + j]? = some v → R y v)
    (h2 : ∀ (i : Nat) (x : T) (j : Nat) (y : T) (v : Value), zs[i]? = some x → x.cells[j]? = some y → ds[i * k + j]? = some v → R y v) :
    ∀ (q : Nat) (x : T) (j : Nat) (y : T) (v : Value), (xs.take i ++ zs ++ xs.drop i)[q]? = some x → x.cells[j]? = some y → (cs.take (i * k) ++ ds ++ cs.drop (i * k))[q * k + j]? = some v → R y v := by
  intro q x j y v hx hy hv
  have hik : i * k ≤ cs.length := by rw [hcs]; exact Nat.mul_le_mul_right _ hi
  have l1 : (xs.take i).length = i := by simp; omega
  have l2 : (cs.take (i * k)).length = i * k := by simp; omega
  have hj : ∀ l : List T, (∀ x ∈ l, x.cells.length = k) → x ∈ l → j < k := fun l hl hm => by rw [← hl x hm]; exact (List.getElem?_eq_some_iff.1 hy).1
  rcases Nat.lt_or_ge q i with a1 | a1
  · rw [List.append_assoc, List.getElem?_append_left (by omega), List.getElem?_take, if_pos a1] at hx
    have hjk := hj xs kx (List.mem_of_getElem? hx)
    have := mul_in a1 hjk
    rw [List.append_assoc, List.getElem?_append_left (by omega), List.getElem?_take, if_pos this] at hv
    exact h1 q x j y v hx hy hv
  · have h3 : i * k ≤ q * k := Nat.mul_le_mul_right _ a1
    rcases Nat.lt_or_ge q (i + zs.length) with a2 | a2
    · rw [List.append_assoc, List.getElem?_append_right (by omega), l1, List.getElem?_append_left (by omega)] at hx
      have hjk := hj zs kz (List.mem_of_getElem? hx)
      have h4 := mul_in (show q - i < zs.length by omega) hjk
      have h5 : (q - i) * k + j = q * k + j - i * k := by rw [Nat.sub_mul]; omega
      rw [List.append_assoc, List.getElem?_append_right (by omega), l2, List.getElem?_append_left (by omega)] at hv
      exact h2 (q - i) x j y v hx hy (by rw [h5]; exact hv)
    · rw [List.getElem?_append_right (by simp; omega), List.getElem?_drop] at hx
      have e1 : i + (q - (xs.take i ++ zs).length) = q - zs.length := by simp; omega
      rw [e1] at hx
      have hjk := hj xs kx (List.mem_of_getElem? hx)
      have h6 : (i + zs.length) * k ≤ q * k := Nat.mul_le_mul_right _ a2
      rw [Nat.add_mul, ← hds] at h6
      rw [List.getElem?_append_right (by simp; omega), List.getElem?_drop] at hv
      have h7 : i * k + (q * k + j - (cs.take (i * k) ++ ds).length) = (q - zs.length) * k + j := by
        rw [List.length_append, l2, Nat.sub_mul, ← hds]; omega
      rw [h7] at hv
      exact h1 (q - zs.length) x j y v hx hy hv

/-- What slices.Insert does. -/
def insG (e k b : Nat) (H : List AObj) (xs : List T) (rest : List PV) : Res (List T) := match rest with
  | [.t (.int .i64 i), .own m] => match H[m]? with
    | some (.row e' k' zs) => bif e' == e && k' == k && decide (0 ≤ i) && decide (i ≤ xs.length) && !zs.isEmpty && decide ((xs.length + zs.length) * b ≤ big) then .ok (xs.take i.toNat ++ zs ++ xs.drop i.toNat) else .stuck
    | _ => .stuck
  | _ => .stuck

theorem insert_inpl {E : Env} (hP : E.P = Try.prog) (hr : retRow E 48 = some (64, 6)) : InplOk E 48 (insG 64 6 64) := by
  intro F κ w H l e k xs rest vals s ho hret hnm hl ha h
  have hfn : ∃ fn c, E.P.funcs[48]? = some fn ∧ fn.body = some c := ⟨Try.f48, _, by rw [hP]; exact Try.func48, rfl⟩
  rw [hr] at hret
  injection hret with hret
  injection hret with h64 h6
  subst h64; subst h6
  unfold insG at h ⊢
  match rest, vals, hl with
  | [.t (.int .i64 i), .own m], [vi, vm], _ =>
    have hvi := ha 0 _ vi rfl rfl
    have hvm := ha 1 _ vm rfl rfl
    cases hvi with
    | t hvi =>
    cases hvi with
    | int hik =>
    cases hvm with
    | @own _ A n' c' hN hκm =>
    simp only [] at h ⊢
    cases hm : H[m]? with
    | none => simp [hm] at h
    | some obj =>
      cases obj with
      | row e' k' zs =>
        simp only [hm] at h ⊢
        obtain ⟨g1, e1⟩ := cond_inv' h
        rw [e1]
        simp only [Bool.and_eq_true, beq_iff_eq, decide_eq_true_eq, Bool.not_eq_true'] at g1
        obtain ⟨⟨⟨⟨⟨rfl, rfl⟩, g2⟩, g3⟩, g4⟩, g5⟩ := g1
        have hz : 0 < zs.length := by cases zs with | nil => simp at g4 | cons => simp
        obtain ⟨q, rfl⟩ : ∃ q : Nat, i = q := ⟨i.toNat, by omega⟩
        have hq : q ≤ xs.length := by omega
        obtain ⟨cs, o1, o2, o3, o4, o5⟩ := s.ro l _ ho
        obtain ⟨ds, p1, p2, p3, p4, p5⟩ := s.ro m _ hm
        have hlm : l ≠ m := fun e => hnm (by subst e; simp [PV.rows, PV.rowss])
        have hbig : (xs.length + zs.length) * 64 ≤ big := g5
        have hle : xs.length + zs.length ≤ big := by omega
        rw [hκm] at p1
        rcases p1.2 with ⟨e2, e3⟩ | ⟨gb, capb, curb, e2, _, e4, e5, _, e6, e7⟩
        · omega
        injection e2 with e2 e8 e9
        subst e2; subst e8; subst e9
        have hnews : ∀ (j : Nat) (u : Value), ds[j]? = some u → w.cell? ⟨gb, 0 + j, none⟩ = some u := fun j u hu => by
          rw [Nat.zero_add, cell_of_row w gb j curb 64 (0, 0) e4]
          rw [← e7, List.getElem?_take] at hu
          split at hu
          · simpa using hu
          · cases hu
        have hds : ds.length = zs.length * 6 := p1.1
        have hcs : cs.length = xs.length * 6 := o1.1
        -- what any of the roads leaves
        have fin : ∀ (r : Value) (w' : World), w'.ownsRow 0 64 6 r (xs.length + zs.length) (cs.take (q * 6) ++ ds ++ cs.drop (q * 6)) → w.grownBy w' (κ l).ownBlock → (r.ownBlock = (κ l).ownBlock ∨ ∃ b, r.ownBlock = some b ∧ w.heap.size ≤ b) →
            ∃ ys, (Res.ok (xs.take (q : Int).toNat ++ zs ++ xs.drop (q : Int).toNat) : Res (List T)) = .ok ys ∧ w.grownBy w' (κ l).ownBlock ∧ (r.ownBlock = (κ l).ownBlock ∨ ∃ b, r.ownBlock = some b ∧ w.heap.size ≤ b) ∧ (∀ b, r.ownBlock = some b → b < w'.heap.size) ∧
              ∀ F1 : Nat → Prop, (∀ b, F b → F1 b) → (∀ m' ∈ PV.rowss [PV.t (.int .i64 q), PV.own m], ∀ (e' k' : Nat) (xs' : List T) (b : Nat), H[m']? = some (.row e' k' xs') → (κ m').ownBlock = some b → F1 b) → (∀ b, F1 b → w'.heap[b]? = w.heap[b]?) → Row F1 w' 64 6 ys r := by
          intro r w' f1 f2 f3
          refine ⟨_, rfl, f2, f3, fun b hb => ownsRow_lt f1 b hb, fun F1 a1 _ a3 => ?_⟩
          have hlen : (xs.take q ++ zs ++ xs.drop q).length = xs.length + zs.length := by simp; omega
          rw [Int.toNat_natCast]
          refine ⟨_, by rw [hlen]; exact f1, by rw [hlen]; exact hle, fun x hx => ?_, fun c hc => ?_, ?_⟩
          · simp only [List.mem_append] at hx
            rcases hx with (hx | hx) | hx
            · exact o3 x (List.mem_of_mem_take hx)
            · exact p3 x hx
            · exact o3 x (List.mem_of_mem_drop hx)
          · simp only [List.mem_append] at hc
            rcases hc with (hc | hc) | hc
            · exact o4 c (List.mem_of_mem_take hc)
            · exact p4 c hc
            · exact o4 c (List.mem_of_mem_drop hc)
          · exact cells_insert (R := Rd F1 w') hcs hds hq (fun x hx => (o3 x hx).1) (fun x hx => (p3 x hx).1) (fun i x j y v b1 b2 b3 => (o5 i x j y v b1 b2 b3).mono a1 (fun b hb => a3 b (a1 b hb))) (fun i x j y v b1 b2 b3 => (p5 i x j y v b1 b2 b3).mono a1 (fun b hb => a3 b (a1 b hb)))
        have he : E.P = Try.prog := hP
        have enter : ∀ R : Value → World → Prop, (Calls E.P 48 #[κ l, .int .i64 q, .slice (some ⟨gb, 0, none⟩) zs.length c'] w fun e w' => ∃ v, e = .returned v ∧ R v w') → Invokes E.P 48 [κ l, .int .i64 (q : Int), .slice (some ⟨gb, 0, none⟩) zs.length c'].toArray w R := fun R hc => by
          unfold Invokes
          have : (callFunc 48 [κ l, .int .i64 (q : Int), .slice (some ⟨gb, 0, none⟩) zs.length c'].toArray).run E.P w = .ok (.enter 48 [κ l, .int .i64 (q : Int), .slice (some ⟨gb, 0, none⟩) zs.length c'].toArray) w := by
            rw [he]; simp [callFunc, Try.func48, Try.f48]
          rw [this]
          exact hc
        refine enter _ ?_
        rw [he]
        rcases Nat.lt_or_ge q xs.length with hlt | hge
        · rcases o1.2 with ⟨t1, t2⟩ | ⟨g, c, cur, t1, t0, t2, t3, t4, t5, t6⟩
          · omega
          · have hgg : gb ≠ g := fun e => hlm (s.ne l m _ _ g ho hm (by simp [blk, t1, Value.ownBlock]) (by simp [blk, hκm, Value.ownBlock, e]))
            rw [t1]
            rcases Nat.lt_or_ge c (xs.length + zs.length) with hc | hc
            · refine Calls.mono (insert_grow g c xs.length q zs.length gb 0 c' cur cs ds w t2 t5 t6 hlt hz t3 hc hbig hds hnews p4 o4 (Array.getElem?_eq_some_iff.1 e4).1) ?_
              rintro e w' ⟨C, cur', rfl, b1, b2, b3, b4, b5, b6⟩
              refine ⟨_, rfl, ?_⟩
              have := fin (.slice (some ⟨w.heap.size, 0, none⟩) (xs.length + zs.length) C) w' ⟨?_, .inr ⟨w.heap.size, C, cur', rfl, by omega, b4, b1, b2, b5, b6⟩⟩ ⟨b3.os, b3.tape, b3.output, b3.size, fun k hk _ => b3.block k hk (by simp)⟩ (.inr ⟨_, rfl, Nat.le_refl _⟩)
              · rw [t1] at this; exact this
              · simp only [List.length_append, List.length_take, List.length_drop, hcs, hds]; omega
            · have hsh : w.shape? gb = some (64, curb.size) := by simp [World.shape?, e4]
              refine Calls.mono (insert_room g c xs.length q zs.length gb 0 c' cur cs ds w t2 t5 t6 hlt hz hc t4 hgg hds hnews p4 o4 64 curb.size hsh (by simp [World.frozen?, e4]) (by simp [World.frozen?, e4])) ?_
              rintro e w' ⟨rfl, cur', rfl, b1, b2⟩
              refine ⟨_, rfl, ?_⟩
              have := fin (.slice (some ⟨g, 0, none⟩) (xs.length + zs.length) c) (w.drew.setRow g cur') ⟨?_, .inr ⟨g, c, cur', rfl, t0, setRow_heap w.drew g cur cur' 64 (0, 0) t2, hc, t4, b1, b2⟩⟩ ⟨rfl, rfl, rfl, by simp, fun k hk hne => setRow_other w.drew g k cur' (fun e => hne (by rw [t1]; simp [Value.ownBlock, e]))⟩ (.inl (by rw [t1]; rfl))
              · rw [t1] at this; exact this
              · simp only [List.length_append, List.length_take, List.length_drop, hcs, hds]; omega
        · obtain rfl : q = xs.length := by omega
          refine Calls.mono (insert_end (κ l) xs.length zs.length c' cs w o1 ⟨gb, 0, none⟩ ds hds (fun j u hu => by rw [add_mid]; exact hnews j u hu) p4 hbig hz) ?_
          rintro e w' ⟨v', rfl, b1, b2, b3⟩
          refine ⟨_, rfl, ?_⟩
          refine fin v' w' ?_ b2 (b3.imp id fun h => ⟨_, h, Nat.le_refl _⟩)
          rw [← hcs, List.take_length, List.drop_length, List.append_nil]
          exact b1
      | _ => simp [hm] at h
  | [], _, _ => exact absurd rfl h
  | [.t (.int .i64 i), .own m], [], hl => simp at hl
end Go.Sim
