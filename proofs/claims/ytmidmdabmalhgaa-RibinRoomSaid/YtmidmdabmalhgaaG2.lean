/- Arguments of layer 18, as plain data. -/
import Derived.Test.YtmidmdabmalhgaaG1
import Derived.Test.YtmidmdabmalhgaaS1
namespace Go.Sim
open Go.RowKit Go.Proofs
set_option linter.unusedVariables false
set_option linter.unusedSimpArgs false
set_option maxRecDepth 100000

def tyF (P : Program) (t : TypeId) : Option (List TypeId) := match P.underlying t with | some (.struct fs) => some (fs.toList.map (·.type)) | _ => none
theorem shp_struct {P : Program} {n : Nat} {t : TypeId} {ts : List TypeId} {xs : List T} (hu : tyF P t = some ts) (h : ShP P (n + 1) t xs) :
    ∃ parts : List (List T), parts.length = ts.length ∧ (∀ (i : Nat) (u : TypeId) (p : List T), ts[i]? = some u → parts[i]? = some p → ShP P n u p) ∧ xs = parts.flatten := by
  unfold tyF at hu
  unfold ShP at h
  split at hu
  · rename_i fs e
    injection hu with hu
    subst hu
    simp only [e] at h
    obtain ⟨parts, h1, h2, h3⟩ := h
    refine ⟨parts, by simpa using h1, fun i u p a b => ?_, h3⟩
    rw [List.getElem?_map, Option.map_eq_some_iff] at a
    obtain ⟨f, a, rfl⟩ := a
    exact h2 i f p a b
  · cases hu
theorem shp_int {P : Program} {n : Nat} {t : TypeId} {k : IntKind} {xs : List T} (hu : P.underlying t = some (.int k)) (h : ShP P (n + 1) t xs) : ∃ i, xs = [.int k i] ∧ kindOk k i = true := by
  unfold ShP at h
  simpa only [hu] using h
theorem shp_slice {P : Program} {n : Nat} {t e : TypeId} {xs : List T} (hu : P.underlying t = some (.slice e)) (h : ShP P (n + 1) t xs) : ∃ ys, xs = [.sl (P.cellsOf e) ys] ∧ ys.length * P.bytesOf e ≤ reachBytes ∧ ∀ y ∈ ys, ∃ cs, ShP P n e cs ∧ y = elT (P.cellsOf e) cs := by
  unfold ShP at h
  simpa only [hu] using h
theorem list_of {α : Type} {f : α → T} {q : α → Prop} : ∀ {ys : List T}, (∀ y ∈ ys, ∃ a, y = f a ∧ q a) → ∃ l : List α, ys = l.map f ∧ ∀ a ∈ l, q a
  | [], _ => ⟨[], rfl, by simp⟩
  | y :: ys, h => by
    obtain ⟨a, rfl, ha⟩ := h y List.mem_cons_self
    obtain ⟨l, rfl, hl⟩ := list_of (f := f) (q := q) (fun z hz => h z (List.mem_cons_of_mem _ hz))
    exact ⟨a :: l, rfl, fun b hb => (List.mem_cons.1 hb).elim (fun e => e ▸ ha) (hl b)⟩

theorem u3 : Try.prog.underlying 3 = some (.int .i64) := by kernel_rfl
theorem u41 : Try.prog.underlying 41 = some (.slice 3) := by kernel_rfl
theorem u40 : Try.prog.underlying 40 = some (.slice 64) := by kernel_rfl
theorem u22 : Try.prog.underlying 22 = some (.slice 35) := by kernel_rfl
theorem u35 : tyF Try.prog 35 = some [3, 3] := by kernel_rfl
theorem u43 : tyF Try.prog 43 = some [3, 41, 3, 3] := by kernel_rfl
theorem u64 : tyF Try.prog 64 = some [35, 43] := by kernel_rfl
theorem u45 : tyF Try.prog 45 = some [22, 43, 22] := by kernel_rfl
theorem c3 : Try.prog.cellsOf 3 = 1 := by kernel_rfl
theorem c64 : Try.prog.cellsOf 64 = 6 := by kernel_rfl
theorem c35 : Try.prog.cellsOf 35 = 2 := by kernel_rfl
theorem y3 : Try.prog.bytesOf 3 = 8 := by kernel_rfl
theorem y64 : Try.prog.bytesOf 64 = 64 := by kernel_rfl
theorem y35 : Try.prog.bytesOf 35 = 16 := by kernel_rfl

theorem shp_px {n : Nat} {xs : List T} (h : ShP Try.prog (n + 2) 35 xs) : ∃ x : Px, xs = [i64 x.a, i64 x.n] ∧ x.ok := by
  obtain ⟨parts, h1, h2, rfl⟩ := shp_struct u35 h
  match parts, h1 with
  | [p, q], _ =>
    obtain ⟨a, rfl, ha⟩ := shp_int u3 (h2 0 3 p rfl rfl)
    obtain ⟨b, rfl, hb⟩ := shp_int u3 (h2 1 3 q rfl rfl)
    exact ⟨⟨a, b⟩, rfl, ha, hb⟩
theorem reach_big {n b : Nat} (h : n * (b + 1) ≤ reachBytes) : n ≤ big := by
  have h6 : reachBytes ≤ big := by decide
  have : n ≤ n * (b + 1) := Nat.le_mul_of_pos_right _ (by omega)
  omega
theorem shp_ints {n : Nat} {xs : List T} (h : ShP Try.prog (n + 2) 41 xs) : ∃ s : List Int, xs = [.sl 1 (ints s)] ∧ s.length ≤ big ∧ ∀ i ∈ s, ok64 i = true := by
  obtain ⟨ys, rfl, h1, h2⟩ := shp_slice u41 h
  rw [y3] at h1
  rw [c3] at h2 ⊢
  obtain ⟨l, rfl, hl⟩ := list_of (f := i64) (q := fun i => ok64 i = true) (ys := ys) fun y hy => by
    obtain ⟨cs, h3, rfl⟩ := h2 y hy
    obtain ⟨i, rfl, hi⟩ := shp_int u3 h3
    exact ⟨i, rfl, hi⟩
  exact ⟨l, rfl, by simpa using reach_big h1, hl⟩
theorem shp_pa {n : Nat} {xs : List T} (h : ShP Try.prog (n + 3) 43 xs) : ∃ p : Pa, xs = [i64 p.o, .sl 1 (ints p.s), i64 p.h, i64 p.c] ∧ p.ok := by
  obtain ⟨parts, h1, h2, rfl⟩ := shp_struct u43 h
  match parts, h1 with
  | [p, q, r, s], _ =>
    obtain ⟨a, rfl, ha⟩ := shp_int u3 (h2 0 3 p rfl rfl)
    obtain ⟨l, rfl, hl, hl2⟩ := shp_ints (h2 1 41 q rfl rfl)
    obtain ⟨b, rfl, hb⟩ := shp_int u3 (h2 2 3 r rfl rfl)
    obtain ⟨c, rfl, hc⟩ := shp_int u3 (h2 3 3 s rfl rfl)
    exact ⟨⟨a, l, b, c⟩, rfl, ha, hl, hl2, hb, hc⟩
theorem shp_en {n : Nat} {xs : List T} (h : ShP Try.prog (n + 4) 64 xs) : ∃ e : En, elT 6 xs = e.t ∧ e.ok := by
  obtain ⟨parts, h1, h2, rfl⟩ := shp_struct u64 h
  match parts, h1 with
  | [p, q], _ =>
    obtain ⟨x, rfl, hx⟩ := shp_px (h2 0 35 p rfl rfl)
    obtain ⟨r, rfl, hr⟩ := shp_pa (h2 1 43 q rfl rfl)
    exact ⟨⟨x, r⟩, rfl, hx, hr⟩
theorem shp_table {n : Nat} {xs : List T} (h : ShP Try.prog (n + 5) 40 xs) : ∃ l : List En, xs = [.sl 6 (l.map En.t)] ∧ l.length * 64 ≤ reachBytes ∧ ∀ e ∈ l, e.ok := by
  obtain ⟨ys, rfl, h1, h2⟩ := shp_slice u40 h
  rw [y64] at h1
  rw [c64] at h2 ⊢
  obtain ⟨l, rfl, hl⟩ := list_of (f := En.t) (q := En.ok) (ys := ys) fun y hy => by
    obtain ⟨cs, h3, rfl⟩ := h2 y hy
    exact shp_en h3
  exact ⟨l, rfl, by simpa using h1, hl⟩
theorem shp_pxs {n : Nat} {xs : List T} (h : ShP Try.prog (n + 3) 22 xs) : ∃ l : List Px, xs = [.sl 2 (l.map Px.t)] ∧ l.length ≤ big ∧ ∀ e ∈ l, e.ok := by
  obtain ⟨ys, rfl, h1, h2⟩ := shp_slice u22 h
  rw [y35] at h1
  rw [c35] at h2 ⊢
  obtain ⟨l, rfl, hl⟩ := list_of (f := Px.t) (q := Px.ok) (ys := ys) fun y hy => by
    obtain ⟨cs, h3, rfl⟩ := h2 y hy
    obtain ⟨x, rfl, hx⟩ := shp_px h3
    exact ⟨x, rfl, hx⟩
  exact ⟨l, rfl, by simpa using reach_big h1, hl⟩
theorem shp_news {n : Nat} {xs : List T} (h : ShP Try.prog (n + 4) 45 xs) : ∃ m : Nw, T.agg xs = m.t ∧ m.ok := by
  obtain ⟨parts, h1, h2, rfl⟩ := shp_struct u45 h
  match parts, h1 with
  | [p, q, r], _ =>
    obtain ⟨g, rfl, hg, hg2⟩ := shp_pxs (h2 0 22 p rfl rfl)
    obtain ⟨a, rfl, ha⟩ := shp_pa (h2 1 43 q rfl rfl)
    obtain ⟨m, rfl, hm, hm2⟩ := shp_pxs (h2 2 22 r rfl rfl)
    exact ⟨⟨g, a, m⟩, rfl, hg2, hg, ha, hm2, hm⟩
end Go.Sim
