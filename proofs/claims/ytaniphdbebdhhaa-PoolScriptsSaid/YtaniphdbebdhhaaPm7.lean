/-
  Pages and untypeds: the library's sort of a row of objects. No condition beyond what each theorem names.
-/
import Derived.Test.YtaniphdbebdhhaaPm6
import Derived.Test.YtaniphdbebdhhaaSo
import Derived.Shelf.SlSortCmp.NoneTotal
namespace Go.Proofs.Ytaniphdbebdhhaa.Pool
open Go.Vk Vk.Pool Go.Sort

abbrev OF := Fin 16 × Fin 65536
def toOb (x : OF) : Ob := ⟨x.1.val, x.2.val⟩
def encO (x : OF) : List Value := obCells (toOb x)
def cfO (x y : OF) : Int := if x.1 = y.1 then (x.2.val : Int) - y.2.val else (x.1.val : Int) - y.1.val
def ltOb (a b : Ob) : Bool := decide (a.kind < b.kind) || (decide (a.kind = b.kind) && decide (a.num < b.num))
/-- The order of objects. -/
def leOb (a b : Ob) : Bool := !ltOb b a
theorem ltO (x y : OF) : ltOf cfO x y = ltOb (toOb x) (toOb y) := by
  unfold ltOf cfO ltOb toOb
  rw [Bool.eq_iff_iff]
  simp only [decide_eq_true_eq, Bool.or_eq_true, Bool.and_eq_true]
  by_cases h : x.1 = y.1
  · rw [if_pos h, h]; omega
  · rw [if_neg h]
    have : x.1.val ≠ y.1.val := fun e => h (Fin.ext e)
    omega
theorem ltOb_iff (a b : Ob) : ltOb a b = true ↔ a.kind < b.kind ∨ a.kind = b.kind ∧ a.num < b.num := by unfold ltOb; simp
theorem ltOb_not (a b : Ob) : ltOb a b = false ↔ ¬ (a.kind < b.kind ∨ a.kind = b.kind ∧ a.num < b.num) := by rw [← ltOb_iff]; simp
theorem swoO : SWO (ltOf cfO) where
  irrefl x := by rw [ltO, ltOb_not]; omega
  trans x y z h1 h2 := by rw [ltO, ltOb_iff] at *; omega
  ntrans x y z h1 h2 := by rw [ltO, ltOb_not] at *; omega
theorem totO (x y : OF) (h1 : ltOf cfO x y = false) (h2 : ltOf cfO y x = false) : x = y := by
  rw [ltO, ltOb_not] at h1 h2
  have e1 : (toOb x).kind = (toOb y).kind := by omega
  have e2 : (toOb x).num = (toOb y).num := by omega
  unfold toOb at e1 e2
  simp only at e1 e2
  exact Prod.ext (Fin.ext (by omega)) (Fin.ext (by omega))

set_option maxRecDepth 100000 in
/-- The comparison: two blocks are laid. -/
theorem cmp_calls (x y : OF) (W : World) : Calls Try.prog 125 #[.agg (encO x).toArray, .agg (encO y).toArray] W fun e w' => e = .returned (.int .i64 (cfO x y)) ∧ ∃ q os', w' = grow (W.drewN q) os' := by
  apply vk125
  unfold vc125
  rw [opK_box, opK_box]
  have g1 : (W.alloc (.cells (encO x).toArray 84)).heap[W.heap.size]? = some (.cells (obCells (toOb x)).toArray 84 (0, 0)) := alloc_new _ _
  obtain ⟨W1, hW1⟩ : ∃ W1, W.alloc (.cells (encO x).toArray 84) = W1 := ⟨_, rfl⟩
  rw [hW1] at g1
  show opK _ _ _ ((W.alloc (.cells (encO x).toArray 84)).alloc (.cells (encO y).toArray 84)) _
  have hg : (W.alloc (.cells (encO x).toArray 84)).alloc (.cells (encO y).toArray 84) = grow (W.drewN 0) #[.cells (encO x).toArray 84, .cells (encO y).toArray 84] := by
    rw [alloc_eq_grow, alloc_eq_grow, grow_grow]; rfl
  rw [hW1] at hg ⊢
  have s1 : W1.heap.size = W.heap.size + 1 := by rw [← hW1]; simp
  have g2 : (W1.alloc (.cells (encO y).toArray 84)).heap[W1.heap.size]? = some (.cells (obCells (toOb y)).toArray 84 (0, 0)) := alloc_new _ _
  have g3 : (W1.alloc (.cells (encO y).toArray 84)).heap[W.heap.size]? = some (.cells (obCells (toOb x)).toArray 84 (0, 0)) := (alloc_old (by omega) _).trans g1
  obtain ⟨W2, hW2⟩ : ∃ W2, W1.alloc (.cells (encO y).toArray 84) = W2 := ⟨_, rfl⟩
  rw [hW2] at hg g2 g3 ⊢
  show opK _ _ _ W2 fun t5 w => _
  have hx1 := x.1.isLt
  have hx2 := x.2.isLt
  have hy1 := y.1.isLt
  have hy2 := y.2.isLt
  rw [show (W.alloc (Obj.cells (Value.agg (encO x).toArray).cells 84)).heap.size = W1.heap.size by rw [← hW1]; rfl]
  by_cases h : x.1 = y.1
  · have hk : (toOb x).kind = (toOb y).kind := by unfold toOb; rw [h]
    have hw : IntKind.i64.wrap ((toOb x).num - (toOb y).num) = cfO x y := by
      unfold cfO; rw [if_pos h]; exact wr (by unfold toOb; simp only; omega) (by unfold toOb; simp only; omega)
    simp [g2, g3, hk, hw]
    exact ⟨0, _, hg⟩
  · have hk : ¬ (toOb x).kind = (toOb y).kind := by
      unfold toOb; simp only; intro e; exact h (Fin.ext (by omega))
    have hw : IntKind.i64.wrap ((toOb x).kind - (toOb y).kind) = cfO x y := by
      unfold cfO; rw [if_neg h]; exact wr (by unfold toOb; simp only; omega) (by unfold toOb; simp only; omega)
    simp [g2, g3, hk, hw]
    exact ⟨0, _, hg⟩

theorem flat_K (d : Array OF) : (flatK encO 2 d).toList = d.toList.flatMap encO := by
  apply List.ext_getElem?
  intro t
  rcases Nat.lt_or_ge t (d.size * 2) with h | h
  · have hz : ∀ e : OF, (encO e).length = 2 := fun _ => rfl
    have hi : t / 2 < d.toList.length := by simp; omega
    have := flat_get hz d.toList [] (t / 2) (t % 2) hi (Nat.mod_lt _ (by decide))
    rw [List.append_nil, show t / 2 * 2 + t % 2 = t by omega] at this
    rw [this]
    have h2 := get_flatK encO 2 d t h
    rw [getElem!_pos _ t (by simpa using h)] at h2
    have h3 : (flatK encO 2 d).toList[t]? = some ((flatK encO 2 d)[t]'(by simpa using h)) := by simp [h]
    rw [h3, h2]
    have hi' : t / 2 < d.size := by simpa using hi
    rw [getElem!_pos d (t / 2) hi', getElem!_pos _ (t % 2) (by rw [hz]; exact Nat.mod_lt _ (by decide))]
    simp [hz, Nat.mod_lt]
  · rw [List.getElem?_eq_none (by simpa using h), List.getElem?_eq_none]
    rw [flat_len (z := 2) (f := encO) (fun _ => rfl)]
    simpa using h

set_option maxRecDepth 100000 in
theorem sort_calls {w : World} {v : Value} {xs : List Ob} (hv : w.ownsRow 0 84 2 v xs.length (xs.flatMap obCells)) (hb : ∀ o ∈ xs, 0 ≤ o.kind ∧ o.kind < 16 ∧ 0 ≤ o.num ∧ o.num < 65536) (hbig : xs.length < 1000000) :
    Calls Try.prog 124 #[v, .func (.func 125) #[] #[]] w fun en w' => en = .returned (.tuple #[]) ∧ ∃ ys : List Ob, ys.Perm xs ∧ ys.Pairwise (fun a b => leOb a b) ∧
      w'.ownsRow 0 84 2 v ys.length (ys.flatMap obCells) ∧ Upd (fun c => v.ownBlock = some c) w w' := by
  rcases row_open hv with ⟨rfl, h0, hx⟩ | ⟨g, cap, rest, rfl, hg, hn, hm, hs, hl⟩
  · have hx0 : xs = [] := List.eq_nil_of_length_eq_zero h0
    subst hx0
    have h := AnyF.slices_SortFunc_none Try.sortOb none 0 (.func (.func 125) #[] #[]) w
    change Calls Try.prog 124 _ _ _ at h
    refine h.mono ?_
    rintro e w' ⟨rfl, rfl⟩
    exact ⟨rfl, [], List.Perm.refl _, List.Pairwise.nil, hv, Upd.refl _ _⟩
  obtain ⟨L, hL⟩ : ∃ L : List OF, L.map toOb = xs := by
    clear hv hg hs hl hn hbig
    induction xs with
    | nil => exact ⟨[], rfl⟩
    | cons o xs ih =>
      obtain ⟨L, hL⟩ := ih fun p hp => hb p (List.mem_cons_of_mem _ hp)
      obtain ⟨h1, h2, h3, h4⟩ := hb o List.mem_cons_self
      refine ⟨(⟨o.kind.toNat, by omega⟩, ⟨o.num.toNat, by omega⟩) :: L, ?_⟩
      rw [List.map_cons, hL]
      congr 1
      obtain ⟨a, b⟩ := o
      simp only at h1 h3
      unfold toOb
      simp only [Int.toNat_of_nonneg h1, Int.toNat_of_nonneg h3]
  have hfl : ∀ M : List OF, (M.map toOb).flatMap obCells = M.flatMap encO := fun M => by
    rw [List.flatMap_map]; rfl
  have hlen : xs.length = L.toArray.size := by rw [← hL]; simp
  have hflat : (flatK encO 2 L.toArray).toList = xs.flatMap obCells := by rw [flat_K, ← hL, hfl]
  have hH : HoldsK encO 2 w g 0 L.toArray := by
    intro j hj
    have hj' : j < (xs.flatMap obCells).length := by rw [← hflat]; simpa using hj
    refine ⟨?_, ?_⟩
    · simp only [World.cell?, hg, Nat.zero_add]
      rw [List.getElem?_toArray, List.getElem?_append_left hj', ← hflat, getElem!_pos _ j hj]
      simp [hj]
    · simp [World.frozen?, hg]
  have eg : ∀ args w, (callFunc 125 args).run Try.prog w = .ok (.enter 125 args) w := enters_of Try.func125 (by kernel_rfl) rfl
  have h := AnyQ.slices_SortFunc Try.sortOb 2 (fun w => by kernel_rfl) (fun w => by kernel_rfl) encO (fun _ => rfl) (fun x v hv => by simp [encO, obCells] at hv; rcases hv with rfl | rfl <;> rfl) cfO swoO 125 #[] g 0 cap L.toArray w eg
    (fun _ _ _ _ x y => cmp_calls x y _) hH (blk_lt hg) (by rw [← hlen]; omega)
  change Calls Try.prog 124 _ _ _ at h
  rw [← hlen] at h
  refine h.mono ?_
  rintro e w' ⟨rfl, d', n, os, ⟨hps, _, hp⟩, hso, rfl⟩
  replace hps : d'.size = xs.length := hps.trans hlen.symm
  have hp' : d'.toList.Perm L := by
    have e1 : (d'.extract 0 xs.length).toList = d'.toList := by rw [← hps]; simp
    have e2 : (L.toArray.extract 0 xs.length).toList = L := by rw [hlen]; simp
    rw [e1, e2] at hp; exact hp
  refine ⟨rfl, d'.toList.map toOb, by rw [← hL]; exact hp'.map _, ?_, ?_, ?_⟩
  · rw [List.pairwise_map, List.pairwise_iff_getElem]
    intro i j hi hj hij
    have := hso i j (by omega) hij (by rw [← hps]; simpa using hj)
    rw [getElem!_pos d' j (by simpa using hj), getElem!_pos d' i (by simpa using hi), ltO] at this
    unfold leOb
    simpa using this
  · have hyl : (d'.toList.map toOb).length = xs.length := by simp [hps]
    rw [hyl]
    have hgo : (grow (putRowK encO 2 (Sort.ahead w n) g 0 d') os).heap[g]? = some (.cells ((d'.toList.map toOb).flatMap obCells ++ rest).toArray 84 (0, 0)) := by
      have hgl := blk_lt hg
      have e1 : (grow (putRowK encO 2 (Sort.ahead w n) g 0 d') os).heap[g]? = (putRowK encO 2 (Sort.ahead w n) g 0 d').heap[g]? := by
        unfold grow
        simp only
        rw [Array.getElem?_append_left (by rw [size_putRowK]; exact hgl)]
      rw [e1]
      unfold putRowK putRow mapBlock
      simp only [Sort.ahead]
      rw [Array.getElem?_modify, if_pos rfl, hg]
      simp only [Option.map_some, onCells]
      congr 2
      apply Array.toList_inj.1
      simp only [hfl]
      rw [← flat_K]
      apply List.ext_getElem?
      intro k
      have hsz : (flatK encO 2 d').size = xs.length * 2 := by rw [size_flatK, hps]
      have hxl : (xs.flatMap obCells).length = xs.length * 2 := hl
      by_cases hk : k < xs.length * 2
      · rw [List.getElem?_append_left (by simpa [hsz] using hk)]
        simp only [putCells, Array.toList_mapIdx, List.getElem?_mapIdx]
        have h5 : ((xs.flatMap obCells ++ rest))[k]? = some ((xs.flatMap obCells ++ rest)[k]'(by rw [List.length_append]; omega)) := by simp
        simp [hsz, hk, hxl]
        rw [List.getElem?_append_left (by omega)]
        have : (xs.flatMap obCells)[k]? = some ((xs.flatMap obCells)[k]'(by omega)) := by simp [hxl, hk]
        rw [this]
        simp [hsz, hk]
      · rw [List.getElem?_append_right (by simp [hsz]; omega)]
        simp only [putCells, Array.toList_mapIdx, List.getElem?_mapIdx]
        rw [List.getElem?_append_right (by omega)]
        simp [hsz, hxl]
        cases rest[k - xs.length * 2]? with
        | none => rfl
        | some u => simp [hk]
    exact row_shut hgo hn hm (by rw [List.length_append, flat_len ob_len, hyl]; rw [List.length_append, hl] at hs; omega) (by rw [flat_len ob_len, hyl])
  · refine ⟨rfl, rfl, rfl, ?_, fun b hb hne => ?_⟩
    · unfold sortWorldK grow; simp [size_putRowK]
    · have hbg : b ≠ g := fun e => hne (by rw [e]; rfl)
      show (grow (putRowK encO 2 (Sort.ahead w n) g 0 d') os).heap[b]? = _
      unfold grow
      simp only
      rw [Array.getElem?_append_left (by rw [size_putRowK]; exact hb)]
      unfold putRowK putRow mapBlock
      simp only [Sort.ahead]
      rw [Array.getElem?_modify, if_neg (fun e => hbg e.symm)]
end Go.Proofs.Ytaniphdbebdhhaa.Pool
