/-
  The document's scheduler: New. No condition.
-/
import Derived.Test.YtaniphdbebdhhaaRf4
namespace Go.Proofs.Ytaniphdbebdhhaa
open Go.Vk Vk.Sched

def trCells (p : Int × Int) : List Value := [.int .i64 p.1, .int .i64 p.2]
theorem tr_len (p : Int × Int) : (trCells p).length = 2 := rfl
theorem turn_read (ts : List (Int × Int)) (rest : List Value) {i : Nat} (hi : i < ts.length) : readN (turnCells ts ++ rest).toArray (i * 2) 2 = some [.int .i64 ts[i].1, .int .i64 ts[i].2] :=
  flat_read (f := trCells) tr_len ts rest i hi

theorem turn_info : ∃ i, Try.prog.info? 36 = some i ∧ i.zero = some (.agg #[.int .i64 0, .int .i64 0]) ∧ i.size = 2 ∧ i.bytes = 16 := by
  have h : (Try.prog.info? 36).map (fun i => (i.zero, i.size, i.bytes)) = some (some (.agg #[.int .i64 0, .int .i64 0]), 2, 16) := by kernel_rfl
  cases hi : Try.prog.info? 36 with
  | none => rw [hi] at h; cases h
  | some i => rw [hi] at h; simp at h; exact ⟨i, rfl, h.1, h.2.1, h.2.2⟩

theorem zero36_eq : zero36 = #[.int .i64 0, .int .i64 0] := by kernel_rfl

/-- A row that somebody else may own: what its cells are, wherever it lies. -/
def RowAt (w : World) (z : Nat) (v : Value) (n : Nat) (xs : List Value) : Prop :=
  ((v = .slice none 0 0 ∨ ∃ a c, v = .slice (some a) 0 c) ∧ n = 0 ∧ xs = []) ∨ ∃ g o cap cs T fr, v = .slice (some ⟨g, o, none⟩) n cap ∧ w.heap[g]? = some (.cells cs T fr) ∧ xs.length = n * z ∧ ∀ j u, xs[j]? = some u → cs[o + j]? = some u

theorem RowAt.of_own {w : World} {e z n : Nat} {v : Value} {xs : List Value} (h : w.ownsRow 0 e z v n xs) : RowAt w z v n xs := by
  rcases row_open h with ⟨h1, h2, h3⟩ | ⟨g, cap, rest, rfl, hg, _, _, _, hl⟩
  · exact .inl ⟨.inl h1, h2, h3⟩
  · refine .inr ⟨g, 0, cap, _, _, _, rfl, hg, hl, fun j u hu => ?_⟩
    rw [Nat.zero_add, List.getElem?_toArray, List.getElem?_append_left (List.getElem?_eq_some_iff.1 hu).1]
    exact hu
theorem RowAt.slice {w : World} {z n : Nat} {v : Value} {xs : List Value} (h : RowAt w z v n xs) : ∃ a c, v = .slice a n c := by
  rcases h with ⟨rfl | ⟨a, c, rfl⟩, rfl, _⟩ | ⟨g, o, cap, cs, T, fr, rfl, _⟩
  · exact ⟨_, _, rfl⟩
  · exact ⟨_, _, rfl⟩
  · exact ⟨_, _, rfl⟩
theorem RowAt.keep {w w' : World} {z n : Nat} {v : Value} {xs : List Value} (h : RowAt w z v n xs) (hb : ∀ g, g < w.heap.size → v.ownBlock = some g → w'.heap[g]? = w.heap[g]?) : RowAt w' z v n xs := by
  rcases h with h | ⟨g, o, cap, cs, T, fr, rfl, hg, r⟩
  · exact .inl h
  · exact .inr ⟨g, o, cap, cs, T, fr, rfl, (hb g (blk_lt hg) rfl).trans hg, r⟩
theorem RowAt.lt {w : World} {z n : Nat} {v : Value} {xs : List Value} (h : RowAt w z v n xs) {b : Nat} (hb : v.ownBlock = some b) : n = 0 ∨ b < w.heap.size := by
  rcases h with ⟨_, h0, _⟩ | ⟨g, o, cap, cs, T, fr, rfl, hg, _⟩
  · exact .inl h0
  · obtain rfl : g = b := by simpa [Value.ownBlock] using hb
    exact .inr (blk_lt hg)
/-- Its cells at their addresses, wherever what lay lies. -/
theorem RowAt.src {w : World} {z n : Nat} {v : Value} {xs : List Value} (h : RowAt w z v n xs) : (v = .slice none 0 0 ∧ n = 0 ∧ xs = []) ∨
    ∃ a c, v = .slice (some a) n c ∧ xs.length = n * z ∧ ∀ w' : World, (∀ g, g < w.heap.size → w'.heap[g]? = w.heap[g]?) → ∀ j u, xs[j]? = some u → w'.cell? (a.add j) = some u := by
  rcases h with ⟨rfl | ⟨a, c, rfl⟩, rfl, rfl⟩ | ⟨g, o, cap, cs, T, fr, rfl, hg, hl, hcs⟩
  · exact .inl ⟨rfl, rfl, rfl⟩
  · exact .inr ⟨a, c, rfl, by simp, fun w' _ j u hu => by simp at hu⟩
  · refine .inr ⟨_, _, rfl, hl, fun w' hw j u hu => ?_⟩
    rw [add_off, cell_of_blk ((hw g (blk_lt hg)).trans hg)]
    exact hcs j u hu
theorem turn_cellA {ts : List (Int × Int)} {cs : Array Value} {o : Nat} (h : ∀ j u, (turnCells ts)[j]? = some u → cs[o + j]? = some u) {k : Nat} (hk : k < ts.length) :
    cs[o + k * 2]? = some (.int .i64 ts[k].1) ∧ cs[o + k * 2 + 1]? = some (.int .i64 ts[k].2) := by
  have := turn_cell hk []
  simp only [List.append_nil, List.getElem?_toArray] at this
  exact ⟨h _ _ this.1, h _ _ this.2⟩
theorem turn_readA {ts : List (Int × Int)} {cs : Array Value} {o : Nat} (h : ∀ j u, (turnCells ts)[j]? = some u → cs[o + j]? = some u) {k : Nat} (hk : k < ts.length) :
    readN cs (o + k * 2) 2 = some [.int .i64 ts[k].1, .int .i64 ts[k].2] := by
  obtain ⟨h1, h2⟩ := turn_cellA h hk
  simp [readN, h1, h2]

/-- A turn that no scheduler takes. -/
def BadT (t : Int × Int) : Prop := ((t.1 < 0 ∨ 7 < t.1) ∨ t.2 < 1) ∨ 1000 < t.2
instance (t : Int × Int) : Decidable (BadT t) := by unfold BadT; infer_instance
def OkTs (ts : List (Int × Int)) : Prop := 1 ≤ ts.length ∧ ts.length ≤ 16 ∧ ∀ t ∈ ts, ¬ BadT t

theorem bld102 (l : Int) (ty : TypeId) (w : World) (K : Value → World → Prop) :
    opK Try.prog (.build 102 #[(2, .const (.int .i64 l))]) ty w K = K (.agg #[.slice none 0 0, .int .i64 0, .int .i64 l, .slice none 0 0, .int .i64 0]) w := opK_of (by kernel_rfl) rfl

def RNewPost (ts : List (Int × Int)) (w : World) (en : Ending) (w' : World) : Prop :=
  Upd (fun _ => False) w w' ∧ ((¬ OkTs ts ∧ en = .returned (.tuple #[.pointer none, .int .i64 1])) ∨
    (OkTs ts ∧ ∃ x own, en = .returned (.tuple #[.pointer (some ⟨x, 0, none⟩), .int .i64 0]) ∧ RefIn own w' x ⟨ts, 0, (ts.getD 0 (0, 0)).2, [], 0⟩ ∧ ∀ b, own b ≠ none → w.heap.size ≤ b))

set_option maxRecDepth 100000 in
theorem RNew_calls {w : World} {v : Value} {ts : List (Int × Int)} (hv : RowAt w 2 v ts.length (turnCells ts)) :
    Calls Try.prog 11 #[v] w (RNewPost ts w) := by
  apply vk11
  unfold vc11
  obtain ⟨a0, c0, hv0⟩ := hv.slice
  have hbadlen : ts.length < 1 ∨ 16 < ts.length → ¬ OkTs ts := fun h2 h => by have := h.1; have := h.2.1; omega
  by_cases hlen1 : ts.length < 1
  · have hl1 : (ts.length : Int) < 1 := by omega
    subst hv0
    simp [hl1]
    exact ⟨Upd.refl _ _, .inl ⟨hbadlen (.inl hlen1), rfl⟩⟩
  have hl1 : ¬ (ts.length : Int) < 1 := by omega
  by_cases hlen2 : 16 < ts.length
  · have hl2 : 16 < (ts.length : Int) := by omega
    subst hv0
    simp [hl1, hl2]
    exact ⟨Upd.refl _ _, .inl ⟨hbadlen (.inr hlen2), rfl⟩⟩
  have hl2 : ¬ 16 < (ts.length : Int) := by omega
  rcases hv with ⟨_, h0, _⟩ | ⟨g, o, cap, cs, T, fr, rfl, hg, hl, hcs⟩
  · omega
  simp [hl1, hl2]
  refine loopK1 (fun m v' w' => ∃ k : Nat, k ≤ ts.length ∧ v' = .int .i64 k ∧ m = ts.length - k ∧ Upd (fun _ => False) w w' ∧ ∀ j : Nat, ∀ hj : j < ts.length, j < k → ¬ BadT ts[j]) ts.length ⟨0, by omega, rfl, by omega, Upd.refl _ _, fun j _ h => by omega⟩ ?_
  rintro m v' w' ⟨k, hk, rfl, rfl, hu, hgood⟩
  have hgl := blk_lt hg
  have hg' : w'.heap[g]? = some (.cells cs T fr) := (hu.old g hgl (fun f => f)).trans hg
  by_cases hlt : k < ts.length
  · have hw : IntKind.i64.wrap ((k : Int) + 1) = ((k + 1 : Nat) : Int) := by rw [wrap_i64 (by omega) (by omega)]; rfl
    have hur := fun (o o' : Obj) => ((hu.alloc o).putB (b := w'.heap.size) (.inl hu.size) o')
    by_cases c1 : ts[k].1 < 0
    · simp [hlt, hg', turn_readA hcs hlt, zero36_eq, writeN, c1]
      exact ⟨hur _ _, .inl ⟨fun h => h.2.2 _ (List.getElem_mem hlt) (.inl (.inl (.inl c1))), rfl⟩⟩
    by_cases c2 : 7 < ts[k].1
    · simp [hlt, hg', turn_readA hcs hlt, zero36_eq, writeN, c1, c2]
      exact ⟨hur _ _, .inl ⟨fun h => h.2.2 _ (List.getElem_mem hlt) (.inl (.inl (.inr c2))), rfl⟩⟩
    by_cases c3 : ts[k].2 < 1
    · simp [hlt, hg', turn_readA hcs hlt, zero36_eq, writeN, c1, c2, c3]
      exact ⟨hur _ _, .inl ⟨fun h => h.2.2 _ (List.getElem_mem hlt) (.inl (.inr c3)), rfl⟩⟩
    by_cases c4 : 1000 < ts[k].2
    · simp [hlt, hg', turn_readA hcs hlt, zero36_eq, writeN, c1, c2, c3, c4]
      exact ⟨hur _ _, .inl ⟨fun h => h.2.2 _ (List.getElem_mem hlt) (.inr c4), rfl⟩⟩
    simp [hlt, hg', turn_readA hcs hlt, zero36_eq, writeN, c1, c2, c3, c4, hw, -Int.natCast_add]
    refine ⟨_, ?_, k + 1, by omega, rfl, rfl, hur _ _, fun j hj hjk => ?_⟩
    · omega
    · by_cases e : j = k
      · subst e
        rintro (((h | h) | h) | h)
        · exact c1 h
        · exact c2 h
        · exact c3 h
        · exact c4 h
      · exact hgood j hj (by omega)
  · have hkn : k = ts.length := by omega
    have hok : OkTs ts := ⟨by omega, by omega, fun t ht => by obtain ⟨j, hj, rfl⟩ := List.getElem_of_mem ht; exact hgood j hj (by omega)⟩
    obtain ⟨inf, hi1, hi2, hi3, hi4⟩ := turn_info
    have hpos : (0 : Int) < ts.length := by omega
    have hpos' : 0 < ts.length := by omega
    have htc := (turn_cellA hcs hpos').2
    simp only [Nat.zero_mul, Nat.add_zero] at htc
    have hne : ts ≠ [] := List.ne_nil_of_length_pos hpos'
    have hx0 : Int.toNat 0 = 0 := rfl
    rw [hkn]
    simp only [opK_int_lss, Int.lt_irrefl, decide_false, boolK_bool, Bool.false_eq_true, if_false]
    rw [opK_ix_24 _ _ _ _ _ _ (Int.le_refl 0) hpos]
    simp only [hx0, Nat.zero_mul, Nat.add_zero, opK_fa_36_1, ld1_ptr, hg', blkK_cells, htc, valK_some, bld102]
    change opK Try.prog (.call ⟨.builtin .append, #[.const (.slice none 0 0), .const (.slice (some ⟨g, o, none⟩) ts.length cap)], #[24, 24]⟩) 24 (w'.alloc (.cells #[.slice none 0 0, .int .i64 0, .int .i64 ts[0].2, .slice none 0 0, .int .i64 0] 102)) _
    have hgl' := blk_lt hg'
    refine opK_appendN Try.underlying24 hi1 hi2 hi3 hi4 rfl (by omega) (World.ownsRow_nil _ 0 36 2) (news := turnCells ts) ?_ hl ?_ (by simp [maxLen]; omega) (by omega) ?_
    · intro j u hu
      rw [add_off, cell_of_blk (by rw [alloc_old hgl']; exact hg')]
      exact hcs j u hu
    · intro u hu
      obtain ⟨e, _, he⟩ := List.mem_flatMap.1 hu
      simp at he
      rcases he with rfl | rfl <;> rfl
    intro v4 w4 h1 h2 h3
    have h3' : ∀ b, v4.ownBlock = some b → w'.heap.size + 1 ≤ b := fun b hb => by
      rcases h3 b hb with h | h
      · simp [Value.ownBlock] at h
      · simpa using h
    have hs4 : w'.heap.size + 1 ≤ w4.heap.size := by simpa using h2.size
    have hx4 : w4.heap[w'.heap.size]? = some (.cells #[.slice none 0 0, .int .i64 0, .int .i64 ts[0].2, .slice none 0 0, .int .i64 0] 102 (0, 0)) :=
      (h2.block _ (by simp) (by simp [Value.ownBlock])).trans (alloc_new _ _)
    have hgd : ts.getD 0 (0, 0) = ts[0] := by rw [List.getD_eq_getElem?_getD, List.getElem?_eq_getElem hpos']; rfl
    have hsz := hu.size
    have hu4 : Upd (fun _ => False) w w4 := (hu.alloc _).trans (Upd.grown (F := fun _ => False) h2 (fun k hk => by simp [Value.ownBlock] at hk)) fun _ _ h => h
    simp [hx4, row_one h1]
    refine ⟨hu4.putB (.inl hsz) _, .inr ⟨hok, w'.heap.size, fun b => if b = w'.heap.size then some .head else if v4.ownBlock = some b then some .turns else none, rfl, ⟨v4, .slice none 0 0, ?_⟩, fun b hb => ?_⟩⟩
    · refine ⟨?_, ?_, World.ownsRow_nil _ 0 168 5, if_pos rfl, fun b hb => ?_, fun b hb => by simp [Value.ownBlock] at hb, fun b hb => ?_⟩
      · rw [hgd]
        exact putB_same (blk_lt hx4) _
      · have := row_keep (w' := putB w4 w'.heap.size (.cells #[v4, .int .i64 0, .int .i64 ts[0].2, .slice none 0 0, .int .i64 0] 102 (0, 0))) h1 fun g hg => putB_other (fun e => by have := h3' g hg; omega) _
        simpa using this
      · have := h3' b hb
        rw [if_neg (by omega), if_pos hb]
      · by_cases e : b = w'.heap.size
        · simp; omega
        · simp only [if_neg e] at hb
          by_cases e2 : v4.ownBlock = some b
          · have := row_lt h1 e2; simpa using this
          · simp [e2] at hb
    · by_cases e : b = w'.heap.size
      · omega
      · simp only [if_neg e] at hb
        by_cases e2 : v4.ownBlock = some b
        · have := h3' b e2; omega
        · simp [e2] at hb
end Go.Proofs.Ytaniphdbebdhhaa
