/-
  Slices: append, slicing, clearing, over rows that the program itself owns. No condition.
-/
import Derived.Test.YtaniphdbebdhhaaVkMap
namespace Go.Vk

/-- What opening a row of the program's own gives: nil, or a block whose first cells are the row's. -/
theorem row_open {w : World} {e z n : Nat} {v : Value} {xs : List Value} (h : w.ownsRow 0 e z v n xs) :
    (v = .slice none 0 0 ∧ n = 0 ∧ xs = []) ∨ ∃ g cap rest, v = .slice (some ⟨g, 0, none⟩) n cap ∧ w.heap[g]? = some (.cells (xs ++ rest).toArray e (0, 0)) ∧ n ≤ cap ∧ cap ≤ maxLen ∧ (xs ++ rest).length = cap * z ∧ xs.length = n * z := by
  obtain ⟨hl, h | ⟨g, cap, cur, hv, _, hg, hn, hm, hs, ht⟩⟩ := h
  · refine .inl ⟨h.1, h.2, ?_⟩
    rw [h.2] at hl
    exact List.eq_nil_of_length_eq_zero (by simpa using hl)
  · refine .inr ⟨g, cap, cur.toList.drop (n * z), hv, ?_, hn, hm, ?_, hl⟩
    · rw [← ht, List.take_append_drop]; exact hg
    · rw [← ht, List.take_append_drop]; simpa using hs

theorem row_shut {w : World} {e z n g cap : Nat} {xs rest : List Value} (hg : w.heap[g]? = some (.cells (xs ++ rest).toArray e (0, 0))) (hn : n ≤ cap) (hm : cap ≤ maxLen) (hs : (xs ++ rest).length = cap * z) (hl : xs.length = n * z) :
    w.ownsRow 0 e z (.slice (some ⟨g, 0, none⟩) n cap) n xs :=
  ⟨hl, .inr ⟨g, cap, (xs ++ rest).toArray, rfl, Nat.zero_le _, hg, hn, hm, by simpa using hs, by simp [← hl]⟩⟩

/-- A row lies in another world as it lay, where its block does. -/
theorem row_keep {w w' : World} {e z n : Nat} {v : Value} {xs : List Value} (h : w.ownsRow 0 e z v n xs) (hb : ∀ g, v.ownBlock = some g → w'.heap[g]? = w.heap[g]?) : w'.ownsRow 0 e z v n xs := by
  obtain ⟨hl, h | ⟨g, cap, cur, hv, h0, hg, r⟩⟩ := h
  · exact ⟨hl, .inl h⟩
  · refine ⟨hl, .inr ⟨g, cap, cur, hv, h0, ?_, r⟩⟩
    rw [hb g (by rw [hv]; rfl)]; exact hg

theorem row_lt {w : World} {e z n : Nat} {v : Value} {xs : List Value} (h : w.ownsRow 0 e z v n xs) {g : Nat} (hg : v.ownBlock = some g) : g < w.heap.size := (h.lt g hg).2

section
variable {P : Program} {T e z bytes : Nat} {i : TypeInfo} {zv : Value}

/-- append(s, x): the row of what has just been made behind it. -/
theorem run_append1 (hT : P.underlying T = some (.slice e)) (hi : P.info? e = some i) (hz : i.zero = some zv) (hsz : i.size = z) (hby : i.bytes = bytes) (hzs : zv.cells.size = z) (hpos : 0 < z)
    {w : World} {v : Value} {n : Nat} {xs : List Value} (hown : w.ownsRow 0 e z v n xs) {g c m : Nat} {cs : Array Value} {fr : Nat × Nat} (hg : w.heap[g]? = some (.cells cs e fr)) (hcs : cs.size = m * z) (hone : ∀ u ∈ cs.toList, u.oneCell' = true)
    (hlen : n + m ≤ maxLen) (hbytes : (n + m) * bytes ≤ 140737488355328) (ty : TypeId) :
    ∃ v' w', (Builtin.append_ #[T, T] ty #[v, .slice (some ⟨g, 0, none⟩) m c]).run P w = .ok v' w' ∧ w'.ownsRow 0 e z v' (n + m) (xs ++ cs.toList) ∧ w.grownBy w' v.ownBlock ∧ (∀ b, v'.ownBlock = some b → v.ownBlock = some b ∨ w.heap.size ≤ b) ∧
      (∀ u nu ys, w.ownsRow 0 e z u nu ys → nu ≤ n → w'.ownsRow 0 e z u nu ys) := by
  subst hsz
  subst hby
  have hnews : ∀ j u, cs.toList[j]? = some u → w.cell? ((⟨g, 0, none⟩ : Addr).add j) = some u := fun j u hu => by rw [add_off, cell_of_blk hg]; simpa using hu
  have hl : cs.toList.length = m * i.size := by simpa using hcs
  have hsmall : n + m ≤ 9223372036854775807 := by simp only [maxLen] at hlen; omega
  have hxl : (xs ++ cs.toList).length = (n + m) * i.size := by rw [List.length_append, hown.1, hl, Nat.add_mul]
  have grown : ∀ (old : Nat), old < n + m → ∀ (row : Option Nat),
      (w.drew.alloc (.cells (xs.toArray ++ cs.toList.toArray ++ Builtin.zeroCells zv.cells (grownCap w (n + m) old e - (n + m))) e)).ownsRow 0 e i.size
        (.slice (some ⟨w.heap.size, 0, none⟩) (n + m) (grownCap w (n + m) old e)) (n + m) (xs ++ cs.toList) ∧
      w.grownBy (w.drew.alloc (.cells (xs.toArray ++ cs.toList.toArray ++ Builtin.zeroCells zv.cells (grownCap w (n + m) old e - (n + m))) e)) row := by
    intro old ho row
    have hge := grownCap_ge w (n + m) old e
    have hcm : grownCap w (n + m) old e ≤ maxLen := grownCap_le_maxLen w (n + m) old e hlen
    refine ⟨⟨hxl, .inr ⟨w.heap.size, _, _, rfl, Nat.zero_le _, heap_alloc_new w.drew _, hge, hcm, ?_, ?_⟩⟩, ⟨rfl, rfl, rfl, by simp, fun k hk _ => alloc_old (w := w.drew) hk _⟩⟩
    · simp only [Array.size_append, List.size_toArray, size_zeroCells, hzs, hown.1, hl, ← Nat.add_mul]
      congr 1
      omega
    · simp only [Array.toList_append, List.append_assoc]
      rw [← List.append_assoc, ← hxl]
      exact List.take_left
  rcases hown.2 with ⟨rfl, rfl⟩ | ⟨g0, cap, cur, rfl, hbg, hg0, hnc, hcm, hcs0, htake⟩
  · have hx : xs = [] := List.eq_nil_of_length_eq_zero (by simpa using hown.1)
    subst hx
    by_cases hm : m = 0
    · subst hm
      have hn : cs.toList = [] := List.eq_nil_of_length_eq_zero (by simpa using hl)
      refine ⟨.slice none 0 0, w, ?_, by rw [hn]; exact World.ownsRow_nil w 0 e i.size, ⟨rfl, rfl, rfl, Nat.le_refl _, fun _ _ _ => rfl⟩, fun b hb => (by simp [Value.ownBlock] at hb), fun _ _ _ h _ => h⟩
      simp [Builtin.append_, run_underlying hT, sizeOf, typeInfo, hi, Builtin.lenOf, Builtin.firstCells, loadCells, loadCellsFrom]
    · have hr := run_append_nil (P := P) w T ty e i zv hT hi hz ⟨g, 0, none⟩ m c cs.toList hl hnews (by omega) (by omega) (by have hb := hbytes; simp only [Nat.zero_add] at hb; omega)
      have hgr := grown 0 (by omega) (Value.ownBlock (.slice none 0 0))
      simp only [Nat.zero_add, List.nil_append, Array.empty_append] at hgr ⊢
      exact ⟨_, _, hr, hgr.1, hgr.2, fun b hb => (by simp [Value.ownBlock] at hb; omega), fun u nu ys h _ => row_keep h fun g hg => alloc_old (w := w.drew) (row_lt h hg) _⟩
  · by_cases hroom : n + m ≤ cap
    · have hfit : n * i.size + cs.toList.length ≤ cur.size := by rw [hl, hcs0, ← Nat.add_mul]; exact Nat.mul_le_mul_right _ hroom
      have hr := run_append_room (P := P) w T ty e i hT hi g0 n cap cur hg0 ⟨g, 0, none⟩ m c cs.toList hl hnews hone hroom hfit
      refine ⟨_, _, hr, ⟨hxl, .inr ⟨g0, cap, _, rfl, hbg, setRow_heap w g0 cur _ e _ hg0, hroom, hcm, ?_, ?_⟩⟩, ⟨rfl, rfl, rfl, by simp, fun k _ hk => setRow_other w g0 k _ (fun e => hk (by simp [Value.ownBlock, e]))⟩, fun b hb => .inl hb, fun u nu ys h hnu => ?_⟩
      · simp only [List.size_toArray, List.length_append, List.length_take, List.length_drop, Array.length_toList]
        simp only [Array.length_toList] at hfit
        omega
      · rw [htake, ← hxl]
        exact List.take_left
      · obtain ⟨hyl, h | ⟨gu, cu, curu, hv, hb0, hgu, hnc2, hcm2, hcs2, ht2⟩⟩ := h
        · exact ⟨hyl, .inl h⟩
        · by_cases e2 : gu = g0
          · subst e2
            rw [hg0] at hgu
            obtain rfl : cur = curu := by simpa using hgu
            refine ⟨hyl, .inr ⟨gu, cu, _, hv, hb0, setRow_heap w gu cur _ e _ hg0, hnc2, hcm2, ?_, ?_⟩⟩
            · rw [← hcs2]
              simp only [List.size_toArray, List.length_append, List.length_take, List.length_drop, Array.length_toList]
              simp only [Array.length_toList] at hfit
              omega
            · have hle : nu * i.size ≤ n * i.size := Nat.mul_le_mul_right _ hnu
              rw [← ht2]
              simp only [List.append_assoc]
              rw [List.take_append_of_le_length (by simp; rw [hcs0]; exact Nat.le_min.2 ⟨hle, Nat.mul_le_mul_right _ (by omega)⟩), List.take_take, Nat.min_eq_left hle]
          · exact ⟨hyl, .inr ⟨gu, cu, curu, hv, hb0, (setRow_other w g0 gu _ e2).trans hgu, hnc2, hcm2, hcs2, ht2⟩⟩
    · have holds : ∀ j u, xs[j]? = some u → w.cell? ((⟨g0, 0, none⟩ : Addr).add j) = some u := hown.cells (g := g0) rfl
      have hr := run_append_grow (P := P) w T ty e i zv hT hi hz ⟨g0, 0, none⟩ n cap xs hown.1 holds ⟨g, 0, none⟩ m c cs.toList hl hnews (by omega) (by omega) (growslice_fits (by omega) hbytes)
      have hgr := grown cap (by omega) (Value.ownBlock (.slice (some ⟨g0, 0, none⟩) n cap))
      exact ⟨_, _, hr, hgr.1, hgr.2, fun b hb => (by simp [Value.ownBlock] at hb; omega), fun u nu ys h _ => row_keep h fun g hg => alloc_old (w := w.drew) (row_lt h hg) _⟩

theorem opK_append1 (hT : P.underlying T = some (.slice e)) (hi : P.info? e = some i) (hz : i.zero = some zv) (hsz : i.size = z) (hby : i.bytes = bytes) (hzs : zv.cells.size = z) (hpos : 0 < z)
    {w : World} {v : Value} {n : Nat} {xs : List Value} (hown : w.ownsRow 0 e z v n xs) {g c m : Nat} {cs : Array Value} {fr : Nat × Nat} (hg : w.heap[g]? = some (.cells cs e fr)) (hcs : cs.size = m * z) (hone : ∀ u ∈ cs.toList, u.oneCell' = true)
    (hlen : n + m ≤ maxLen) (hbytes : (n + m) * bytes ≤ 140737488355328) {ty : TypeId} {K : Value → World → Prop}
    (h : ∀ v' w', w'.ownsRow 0 e z v' (n + m) (xs ++ cs.toList) → w.grownBy w' v.ownBlock → (∀ b, v'.ownBlock = some b → v.ownBlock = some b ∨ w.heap.size ≤ b) → K v' w') :
    opK P (.call ⟨.builtin .append, #[.const v, .const (.slice (some ⟨g, 0, none⟩) m c)], #[T, T]⟩) ty w K := by
  obtain ⟨v', w', hr, h2, h3, h4, _⟩ := run_append1 hT hi hz hsz hby hzs hpos hown hg hcs hone hlen hbytes ty (c := c)
  show runK P K _
  have : (execOp bare { dst := none, op := .call ⟨.builtin .append, #[.const v, .const (.slice (some ⟨g, 0, none⟩) m c)], #[T, T]⟩, type := ty, pos := "", after := #[], guard := none }).run P w = .ok (.value v') w' := by
    simp only [execOp, resolve, invoke, builtin, Sem.run_bind, Sem.run_pure, Result.andThen_ok, List.map_toArray, List.map_cons, List.map_nil, bare, Act.eval, hr]
  rw [this]
  exact h v' w' h2 h3 h4

/-- The same, and what shorter rows of the same block say. -/
theorem opK_append1s (hT : P.underlying T = some (.slice e)) (hi : P.info? e = some i) (hz : i.zero = some zv) (hsz : i.size = z) (hby : i.bytes = bytes) (hzs : zv.cells.size = z) (hpos : 0 < z)
    {w : World} {v : Value} {n : Nat} {xs : List Value} (hown : w.ownsRow 0 e z v n xs) {g c m : Nat} {cs : Array Value} {fr : Nat × Nat} (hg : w.heap[g]? = some (.cells cs e fr)) (hcs : cs.size = m * z) (hone : ∀ u ∈ cs.toList, u.oneCell' = true)
    (hlen : n + m ≤ maxLen) (hbytes : (n + m) * bytes ≤ 140737488355328) {ty : TypeId} {K : Value → World → Prop}
    (h : ∀ v' w', w'.ownsRow 0 e z v' (n + m) (xs ++ cs.toList) → w.grownBy w' v.ownBlock → (∀ b, v'.ownBlock = some b → v.ownBlock = some b ∨ w.heap.size ≤ b) →
      (∀ u nu ys, w.ownsRow 0 e z u nu ys → nu ≤ n → w'.ownsRow 0 e z u nu ys) → K v' w') :
    opK P (.call ⟨.builtin .append, #[.const v, .const (.slice (some ⟨g, 0, none⟩) m c)], #[T, T]⟩) ty w K := by
  obtain ⟨v', w', hr, h2, h3, h4, h5⟩ := run_append1 hT hi hz hsz hby hzs hpos hown hg hcs hone hlen hbytes ty (c := c)
  show runK P K _
  have : (execOp bare { dst := none, op := .call ⟨.builtin .append, #[.const v, .const (.slice (some ⟨g, 0, none⟩) m c)], #[T, T]⟩, type := ty, pos := "", after := #[], guard := none }).run P w = .ok (.value v') w' := by
    simp only [execOp, resolve, invoke, builtin, Sem.run_bind, Sem.run_pure, Result.andThen_ok, List.map_toArray, List.map_cons, List.map_nil, bare, Act.eval, hr]
  rw [this]
  exact h v' w' h2 h3 h4 h5

/-- s[lo:] and s[:hi] and s[lo:hi] of a row. -/
theorem run_slice_lo (hT : P.underlying T = some (.slice e)) (hi : P.info? e = some i) (hsz : i.size = z) {g n cap : Nat} {k : IntKind} {lo : Int} (h0 : 0 ≤ lo) (h1 : lo ≤ n) (ty : TypeId) (w : World) :
    (execOp bare { dst := none, op := .slice T (.const (.slice (some ⟨g, 0, none⟩) n cap)) (some (.const (.int k lo))) none none, type := ty, pos := "", after := #[], guard := none }).run P w =
      .ok (.value (.slice (some ⟨g, if cap = lo.toNat then 0 else lo.toNat * z, none⟩) (n - lo.toNat) (cap - lo.toNat))) w := by
  subst hsz
  by_cases hc : cap = lo.toNat
  · simp [execOp, bare, Act.eval, Instr.sliceAt, Instr.slice, underlying, hT, Instr.sliceBounds, Instr.sliceBound, asIntOf, h0, h1, sizeOf, typeInfo, hi, hc]
  · simp [execOp, bare, Act.eval, Instr.sliceAt, Instr.slice, underlying, hT, Instr.sliceBounds, Instr.sliceBound, asIntOf, h0, h1, sizeOf, typeInfo, hi, hc, add_off]

theorem run_slice_hi (hT : P.underlying T = some (.slice e)) (hi : P.info? e = some i) {g n cap : Nat} {k : IntKind} {h : Int} (h0 : 0 ≤ h) (h1 : h ≤ cap) (ty : TypeId) (w : World) :
    (execOp bare { dst := none, op := .slice T (.const (.slice (some ⟨g, 0, none⟩) n cap)) none (some (.const (.int k h))) none, type := ty, pos := "", after := #[], guard := none }).run P w =
      .ok (.value (.slice (some ⟨g, 0, none⟩) h.toNat cap)) w := by
  by_cases hc : cap = 0
  · simp [execOp, bare, Act.eval, Instr.sliceAt, Instr.slice, underlying, hT, Instr.sliceBounds, Instr.sliceBound, asIntOf, h0, sizeOf, typeInfo, hi, hc]
    have : h.toNat = 0 := by omega
    simp [this, hc] at *
    omega
  · simp [execOp, bare, Act.eval, Instr.sliceAt, Instr.slice, underlying, hT, Instr.sliceBounds, Instr.sliceBound, asIntOf, h0, h1, sizeOf, typeInfo, hi, hc, add_off]

/-- clear of a slice of one-cell elements. -/
theorem run_clear1 (hT : P.underlying T = some (.slice e)) (hi : P.info? e = some i) (hz : i.zero = some zv) (hone : zv.oneCell' = true) {g o n cap : Nat} {w : World} {cs : Array Value} (hg : w.heap[g]? = some (.cells cs e (0, 0))) (hn : o + n ≤ cs.size) (ty : TypeId) :
    (execOp bare { dst := none, op := .call ⟨.builtin .clear, #[.const (.slice (some ⟨g, o, none⟩) n cap)], #[T]⟩, type := ty, pos := "", after := #[], guard := none }).run P w =
      .ok (.value (.tuple #[])) (putB w g (.cells (writeN cs o (List.replicate n zv)) e (0, 0))) := by
  have hzc : (Builtin.zeroCells zv.cells n).toList = List.replicate n zv := by
    rw [cells_one hone]
    apply List.ext_getElem
    · simp [Builtin.zeroCells]
    · intro j h1 h2
      simp [Builtin.zeroCells, Nat.mod_one]
  have hst := storeCells_blk (P := P) (o := o) (T := e) (List.replicate n zv) 0 w cs hg (by simpa using hn) (by simp [hone])
  cases n with
  | zero => simp [execOp, resolve, invoke, builtin, bare, Act.eval, Builtin.clear_, underlying, hT, writeN, putB_self hg]
  | succ n => simp [execOp, resolve, invoke, builtin, bare, Act.eval, Builtin.clear_, underlying, hT, zeroValue, typeInfo, hi, hz, hzc, hst]
end
end Go.Vk
