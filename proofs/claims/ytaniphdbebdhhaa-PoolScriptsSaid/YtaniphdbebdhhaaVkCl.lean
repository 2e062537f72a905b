/-
  Slices of records: clear, an append that has room, a slice with three bounds. No condition.
-/
import Derived.Test.YtaniphdbebdhhaaVkRec
namespace Go.Vk

theorem writeN_size' (cs : Array Value) : ∀ (vs : List Value) (o : Nat), (writeN cs o vs).size = cs.size := by
  intro vs
  induction vs generalizing cs with
  | nil => intro o; rfl
  | cons v vs ih => intro o; unfold writeN; rw [ih]; simp
theorem writeN_lt (vs : List Value) : ∀ (cs : Array Value) (o j : Nat), j < o → (writeN cs o vs)[j]? = cs[j]? := by
  induction vs with
  | nil => intro cs o j _; rfl
  | cons v vs ih =>
    intro cs o j h
    unfold writeN
    rw [ih _ _ _ (by omega), Array.getElem?_setIfInBounds, if_neg (by omega)]

section
variable {P : Program} {T e z : Nat} {i : TypeInfo} {zv : Value}

theorem zero_cells_one {vs : Array Value} (h : vs.toList.all Value.oneCell' = true) (n : Nat) : (Builtin.zeroCells vs n).toList.all Value.oneCell' = true := by
  rw [List.all_eq_true] at h ⊢
  intro x hx
  simp only [Builtin.zeroCells, Array.toList_map, List.mem_map] at hx
  obtain ⟨j, hj, rfl⟩ := hx
  have hpos : 0 < vs.size := by
    rcases Nat.eq_zero_or_pos vs.size with h0 | h0
    · simp [h0] at hj
    · exact h0
  have hlt := Nat.mod_lt j hpos
  rw [getElem!_pos vs _ hlt]
  exact h _ (by simp)

/-- clear of a slice: what lies ahead of it stays. -/
theorem opK_clearN (hT : P.underlying T = some (.slice e)) (hi : P.info? e = some i) (hz : i.zero = some zv) (hzs : zv.cells.size = z) (hone : zv.cells.toList.all Value.oneCell' = true) {g o n cap : Nat} {w : World} {cs : Array Value}
    (hg : w.heap[g]? = some (.cells cs e (0, 0))) (hn : o + n * z ≤ cs.size) {ty : TypeId} {K : Value → World → Prop}
    (h : ∀ cs' : Array Value, cs'.size = cs.size → (∀ j, j < o → cs'[j]? = cs[j]?) → K (.tuple #[]) (putB w g (.cells cs' e (0, 0)))) :
    opK P (.call ⟨.builtin .clear, #[.const (.slice (some ⟨g, o, none⟩) n cap)], #[T]⟩) ty w K := by
  have hlen : (Builtin.zeroCells zv.cells n).toList.length = n * z := by simp [size_zeroCells, hzs]
  have hst := storeCells_blk (P := P) (o := o) (T := e) (Builtin.zeroCells zv.cells n).toList 0 w cs hg (by rw [hlen]; omega) (zero_cells_one hone n)
  have hr : ∃ cs' : Array Value, cs'.size = cs.size ∧ (∀ j, j < o → cs'[j]? = cs[j]?) ∧
      (execOp bare { dst := none, op := .call ⟨.builtin .clear, #[.const (.slice (some ⟨g, o, none⟩) n cap)], #[T]⟩, type := ty, pos := "", after := #[], guard := none }).run P w = .ok (.value (.tuple #[])) (putB w g (.cells cs' e (0, 0))) := by
    cases n with
    | zero =>
      refine ⟨cs, rfl, fun _ _ => rfl, ?_⟩
      rw [putB_self hg]
      simp [execOp, resolve, invoke, builtin, bare, Act.eval, Builtin.clear_, underlying, hT]
    | succ n =>
      refine ⟨writeN cs o (Builtin.zeroCells zv.cells (n + 1)).toList, writeN_size' cs _ o, fun j hj => writeN_lt _ cs o j hj, ?_⟩
      simp only [Nat.add_zero] at hst
      simp [execOp, resolve, invoke, builtin, bare, Act.eval, Builtin.clear_, underlying, hT, zeroValue, typeInfo, hi, hz, hst]
  obtain ⟨cs', h1, h2, h3⟩ := hr
  show runK P K _
  rw [h3]
  exact h cs' h1 h2

theorem setRow_putB {w : World} {g : Nat} {cs : Array Value} (hg : w.heap[g]? = some (.cells cs e (0, 0))) (cs' : Array Value) : w.setRow g cs' = putB w g (.cells cs' e (0, 0)) := by
  unfold World.setRow putB
  congr 1
  apply Array.ext_getElem?
  intro j
  rw [Array.getElem?_modify, Array.getElem?_setIfInBounds]
  by_cases e1 : g = j
  · subst e1
    have hb : g < w.heap.size := blk_lt hg
    have hgg : w.heap[g] = .cells cs e (0, 0) := by simpa [hb] using hg
    simp [hb, hgg]
  · rw [if_neg e1, if_neg e1]

/-- append where there is room. -/
theorem opK_append_room (hT : P.underlying T = some (.slice e)) (hi : P.info? e = some i) (hsz : i.size = z) {w : World} {g n cap : Nat} {cs : Array Value} (hg : w.heap[g]? = some (.cells cs e (0, 0)))
    {a : Addr} {m c : Nat} {news : List Value} (hl : news.length = m * z) (hnews : ∀ j u, news[j]? = some u → w.cell? (a.add j) = some u) (hone : ∀ u ∈ news, u.oneCell' = true) (hroom : n + m ≤ cap) (hfit : n * z + news.length ≤ cs.size) {ty : TypeId} {K : Value → World → Prop}
    (h : K (.slice (some ⟨g, 0, none⟩) (n + m) cap) (putB w g (.cells (cs.toList.take (n * z) ++ news ++ cs.toList.drop (n * z + news.length)).toArray e (0, 0)))) :
    opK P (.call ⟨.builtin .append, #[.const (.slice (some ⟨g, 0, none⟩) n cap), .const (.slice (some a) m c)], #[T, T]⟩) ty w K := by
  subst hsz
  have hr := run_append_room (P := P) w T ty e i hT hi g n cap cs hg a m c news hl hnews hone hroom hfit
  rw [setRow_putB hg] at hr
  show runK P K _
  have : (execOp bare { dst := none, op := .call ⟨.builtin .append, #[.const (.slice (some ⟨g, 0, none⟩) n cap), .const (.slice (some a) m c)], #[T, T]⟩, type := ty, pos := "", after := #[], guard := none }).run P w =
      .ok (.value (.slice (some ⟨g, 0, none⟩) (n + m) cap)) (putB w g (.cells (cs.toList.take (n * i.size) ++ news ++ cs.toList.drop (n * i.size + news.length)).toArray e (0, 0))) := by
    simp only [execOp, resolve, invoke, builtin, Sem.run_bind, Sem.run_pure, Result.andThen_ok, List.map_toArray, List.map_cons, List.map_nil, bare, Act.eval, hr]
  rw [this]
  exact h

/-- s[a:b:c]: that it is within its bounds. -/
theorem opK_slice3 (hT : P.underlying T = some (.slice e)) (hi : P.info? e = some i) {g n cap : Nat} {k k2 k3 : IntKind} {lo hi2 mx : Int} (h0 : 0 ≤ lo) (h1 : lo ≤ hi2) (h2 : hi2 ≤ mx) (h3 : mx ≤ cap) {ty : TypeId} {w : World} {K : Value → World → Prop}
    (h : ∀ v, K v w) : opK P (.slice T (.const (.slice (some ⟨g, 0, none⟩) n cap)) (some (.const (.int k lo))) (some (.const (.int k2 hi2))) (some (.const (.int k3 mx)))) ty w K := by
  have h4 : 0 ≤ hi2 := by omega
  have h5 : 0 ≤ mx := by omega
  show runK P K _
  have : ∃ v, (execOp bare { dst := none, op := .slice T (.const (.slice (some ⟨g, 0, none⟩) n cap)) (some (.const (.int k lo))) (some (.const (.int k2 hi2))) (some (.const (.int k3 mx))), type := ty, pos := "", after := #[], guard := none }).run P w = .ok (.value v) w := by
    simp [execOp, bare, Act.eval, Instr.sliceAt, Instr.slice, underlying, hT, Instr.sliceBounds, Instr.sliceBound, asIntOf, h0, h3, h4, h5, sizeOf, typeInfo, hi]
    rw [if_pos (by omega), if_pos (by omega)]
    exact ⟨_, rfl⟩
  obtain ⟨v, hv⟩ := this
  rw [hv]
  exact h v

/-- A variable's cells handed back as a result. -/
theorem resK_agg {n b : Nat} {vs : List Value} {cs : Array Value} {T0 : TypeId} {fr : Nat × Nat} (hl : lies P T = some (some n)) {w : World} (hb : w.heap[b]? = some (.cells cs T0 fr)) (hr : readN cs 0 n = some vs) {R : Value → World → Prop} (h : R (.agg vs.toArray) w) :
    resK P [(.pointer (some ⟨b, 0, none⟩), some T)] w R := by
  refine ⟨[.agg vs.toArray], ?_, h⟩
  have := loadCells_run (P := P) (o := 0) hb n 0 #[] vs (by simpa using hr)
  simp only [resSem, asAddr, loadVar, Sem.run_bind, (lies_agg hl w).1, (lies_agg hl w).2, Result.andThen_ok, if_true, loadCells, this, Sem.run_pure, pure_bind]
  simp
end
end Go.Vk
