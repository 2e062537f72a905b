/-
  The program's scheduler: New. No condition.
-/
import Derived.Test.YtaniphdbebdhhaaSc6
import Derived.Test.YtaniphdbebdhhaaRf5
namespace Go.Proofs.Ytaniphdbebdhhaa
open Go.Vk Vk.Sched

theorem eqs24 (a : Addr) (n c : Nat) (ty : TypeId) (w : World) (K : Value → World → Prop) :
    opK Try.prog (.binOp .eql 24 (.const (.slice (some a) n c)) (.const (.slice none 0 0)) ty) 4 w K = K (.bool false) w := opK_of (by kernel_rfl) rfl
theorem bs24 (ty : TypeId) (w : World) (K : Value → World → Prop) :
    opK Try.prog (.buildSlice 24 0 #[]) ty w K = K (.slice (some ⟨w.heap.size, 0, none⟩) 0 0) (w.alloc (.cells #[] 36)) := opK_of (by kernel_rfl) rfl

set_option maxRecDepth 100000 in
theorem Clone_calls {w : World} {g cap : Nat} {ts : List (Int × Int)} {rest : List Value} (hg : w.heap[g]? = some (.cells (turnCells ts ++ rest).toArray 36 (0, 0))) (hlen : ts.length ≤ 16) :
    Calls Try.prog 32 #[.slice (some ⟨g, 0, none⟩) ts.length cap] w fun en w' => ∃ v, en = .returned v ∧ w'.ownsRow 0 36 2 v ts.length (turnCells ts) ∧ Upd (fun _ => False) w w' ∧ ∀ b, v.ownBlock = some b → w.heap.size ≤ b := by
  apply vk32
  unfold vc32
  simp [eqs24, bs24]
  obtain ⟨inf, hi1, hi2, hi3, hi4⟩ := turn_info
  have hgl := blk_lt hg
  have hr0 : (w.alloc (.cells #[] 36)).ownsRow 0 36 2 (.slice (some ⟨w.heap.size, 0, none⟩) 0 0) 0 [] :=
    row_shut (rest := []) (by rw [alloc_new]; rfl) (Nat.le_refl _) (by simp [maxLen]) rfl rfl
  have hl2 : (turnCells ts).length = ts.length * 2 := flat_len (f := trCells) tr_len ts
  refine opK_appendN Try.underlying24 hi1 hi2 hi3 hi4 rfl (by omega) hr0 (news := turnCells ts) ?_ hl2 ?_ (by simp [maxLen]; omega) (by omega) ?_
  · intro j u hu
    rw [add_off, cell_of_blk (by rw [alloc_old hgl]; exact hg), Nat.zero_add, List.getElem?_toArray, List.getElem?_append_left (List.getElem?_eq_some_iff.1 hu).1]
    exact hu
  · intro u hu
    obtain ⟨e, _, he⟩ := List.mem_flatMap.1 hu
    simp at he
    rcases he with rfl | rfl <;> rfl
  intro v4 w4 h1 h2 h3
  have h3' : ∀ b, v4.ownBlock = some b → w.heap.size ≤ b := fun b hb => by
    rcases h3 b hb with h | h
    · simp [Value.ownBlock] at h; omega
    · simp at h; omega
  refine ⟨by simpa using h1, ?_, h3'⟩
  have hu : Upd (fun k => k = w.heap.size) (w.alloc (.cells #[] 36)) w4 := Upd.grown h2 (fun k hk => by simpa [Value.ownBlock] using hk.symm)
  exact ((Upd.refl _ w).alloc _).trans hu fun x hx he => by omega

theorem bld99 (a : Option Addr) (n c : Nat) (l : Int) (m : Nat) (ty : TypeId) (w : World) (K : Value → Prop) :
    stK Try.prog (.build 99 #[(0, .const (.slice a n c)), (2, .const (.int .i64 l)), (3, .const (.map (some m)))]) ty w K = K (.agg (schedCells (.slice a n c) 0 l m fun _ => .slice none 0 0)) := stK_of (by kernel_rfl) rfl

def NewPost (ts : List (Int × Int)) (w : World) (en : Ending) (w' : World) : Prop :=
  Upd (fun _ => False) w w' ∧ ((¬ OkTs ts ∧ en = .returned (.tuple #[.pointer none, .int .i64 1])) ∨
    (OkTs ts ∧ ∃ x own, en = .returned (.tuple #[.pointer (some ⟨x, 0, none⟩), .int .i64 0]) ∧ SchedIn own w' x ⟨ts, 0, (ts.getD 0 (0, 0)).2, fun _ => none, fun _ => []⟩ ∧ ∀ b, own b ≠ none → w.heap.size ≤ b))

/-- What stands where the new scheduler is handed back. -/
def NewM (ts : List (Int × Int)) (w : World) (v2 v3 : Value) (w' : World) : Prop :=
  ∃ x own, v2 = .pointer (some ⟨x, 0, none⟩) ∧ v3 = .int .i64 0 ∧ SchedIn own w' x ⟨ts, 0, (ts.getD 0 (0, 0)).2, fun _ => none, fun _ => []⟩ ∧ (∀ b, own b ≠ none → w.heap.size ≤ b) ∧ Upd (fun _ => False) w w'

theorem NewM_of {ts : List (Int × Int)} {w w1 : World} {tv : Value} {m x : Nat} {cs : Array Value} (hcs : cs = schedCells tv 0 (ts.getD 0 (0, 0)).2 m fun _ => .slice none 0 0) (hu : Upd (fun _ => False) w w1) (hrow : w1.ownsRow 0 36 2 tv ts.length (turnCells ts))
    (hb : ∀ b, tv.ownBlock = some b → w.heap.size ≤ b) (hm : w1.heap[m]? = some (.map #[] 0)) (hmw : w.heap.size ≤ m) (hx : x = w1.heap.size) :
    NewM ts w (.pointer (some ⟨x, 0, none⟩)) (.int .i64 0) (w1.alloc (.cells cs 99)) := by
  subst hcs hx
  have hml := blk_lt hm
  have hsz := hu.size
  have hne : ∀ b, tv.ownBlock = some b → b ≠ m := fun b hbb e => by
    subst e
    rcases row_open hrow with ⟨rfl, _⟩ | ⟨g, cap, rest, rfl, hg, _⟩
    · simp [Value.ownBlock] at hbb
    · obtain rfl : g = b := by simpa [Value.ownBlock] using hbb
      rw [hm] at hg; cases hg
  refine ⟨_, fun b => if b = w1.heap.size then some .head else if b = m then some .map else if tv.ownBlock = some b then some .turns else none, rfl, rfl,
    ⟨tv, m, fun _ => .slice none 0 0, [], 0, fun _ => 0, ?_⟩, fun b hbb => ?_, hu.alloc _⟩
  · refine ⟨alloc_new _ _, row_keep hrow fun g hg => alloc_old (row_lt hrow hg) _, by rw [alloc_old hml]; exact hm, by simp [mkeys], fun t => rfl, fun t e h => (by cases h), fun i hi => World.ownsRow_nil _ 0 3 1, fun t e h => (by cases h), if_pos rfl,
      ?_, fun b hbb => ?_, fun i hi b hbb => (by simp [Value.ownBlock] at hbb), fun t e h => (by cases h), fun b hbb => ?_⟩
    · show (if m = w1.heap.size then some Tag.head else if m = m then some Tag.map else _) = _
      rw [if_neg (by omega), if_pos rfl]
    · have := row_lt hrow hbb
      show (if b = w1.heap.size then some Tag.head else if b = m then some Tag.map else _) = _
      rw [if_neg (by omega), if_neg (hne b hbb), if_pos hbb]
    · simp only [World.size_alloc]
      by_cases e : b = w1.heap.size
      · omega
      · by_cases e2 : b = m
        · omega
        · simp only [if_neg e, if_neg e2] at hbb
          by_cases e3 : tv.ownBlock = some b
          · have := row_lt hrow e3; omega
          · simp [e3] at hbb
  · by_cases e : b = w1.heap.size
    · omega
    · by_cases e2 : b = m
      · omega
      · simp only [if_neg e, if_neg e2] at hbb
        by_cases e3 : tv.ownBlock = some b
        · exact hb b e3
        · simp [e3] at hbb

set_option maxRecDepth 100000 in
theorem New_calls {w : World} {v : Value} {ts : List (Int × Int)} (hv : w.ownsRow 0 36 2 v ts.length (turnCells ts)) :
    Calls Try.prog 10 #[v] w (NewPost ts w) := by
  apply vk10
  unfold vc10
  obtain ⟨a0, c0, hv0⟩ := row_slice hv
  have hbadlen : ts.length < 1 ∨ 16 < ts.length → ¬ OkTs ts := fun h2 h => by have := h.1; have := h.2.1; omega
  by_cases hlen1 : ts.length < 1
  · have hl1 : (ts.length : Int) < 1 := by omega
    subst hv0
    simp [hl1]
    exact ⟨Upd.refl _ _, .inl ⟨hbadlen (.inl hlen1), rfl⟩⟩
  have hl1 : ¬ (ts.length : Int) < 1 := by omega
  by_cases hlen2 : 16 < ts.length
  · have hl2 : 16 < (ts.length : Int) := by omega
    subst hv0
    simp [hl1, hl2]
    exact ⟨Upd.refl _ _, .inl ⟨hbadlen (.inr hlen2), rfl⟩⟩
  have hl2 : ¬ 16 < (ts.length : Int) := by omega
  rcases row_open hv with ⟨_, h0, _⟩ | ⟨g, cap, rest, rfl, hg, hn, hm, hs, hl⟩
  · omega
  simp [hl1, hl2]
  refine loopK1 (fun m v' w' => ∃ k : Nat, k ≤ ts.length ∧ v' = .int .i64 k ∧ m = ts.length - k ∧ Upd (fun _ => False) w w' ∧ ∀ j : Nat, ∀ hj : j < ts.length, j < k → ¬ BadT ts[j]) ts.length ⟨0, by omega, rfl, by omega, Upd.refl _ _, fun j _ h => by omega⟩ ?_
  rintro m v' w' ⟨k, hk, rfl, rfl, hu, hgood⟩
  have hgl := blk_lt hg
  have hg' : w'.heap[g]? = some (.cells (turnCells ts ++ rest).toArray 36 (0, 0)) := (hu.old g hgl (fun f => f)).trans hg
  by_cases hlt : k < ts.length
  · have hw : IntKind.i64.wrap ((k : Int) + 1) = ((k + 1 : Nat) : Int) := by rw [wrap_i64 (by omega) (by omega)]; rfl
    have hur := fun (o o' : Obj) => ((hu.alloc o).putB (b := w'.heap.size) (.inl hu.size) o')
    by_cases c1 : ts[k].1 < 0
    · simp [hlt, hg', turn_read ts rest hlt, zero36_eq, writeN, c1]
      exact ⟨hur _ _, .inl ⟨fun h => h.2.2 _ (List.getElem_mem hlt) (.inl (.inl (.inl c1))), rfl⟩⟩
    by_cases c2 : 8 ≤ ts[k].1
    · simp [hlt, hg', turn_read ts rest hlt, zero36_eq, writeN, c1, c2]
      exact ⟨hur _ _, .inl ⟨fun h => h.2.2 _ (List.getElem_mem hlt) (.inl (.inl (.inr (by omega)))), rfl⟩⟩
    by_cases c3 : ts[k].2 < 1
    · simp [hlt, hg', turn_read ts rest hlt, zero36_eq, writeN, c1, c2, c3]
      exact ⟨hur _ _, .inl ⟨fun h => h.2.2 _ (List.getElem_mem hlt) (.inl (.inr c3)), rfl⟩⟩
    by_cases c4 : 1000 < ts[k].2
    · simp [hlt, hg', turn_read ts rest hlt, zero36_eq, writeN, c1, c2, c3, c4]
      exact ⟨hur _ _, .inl ⟨fun h => h.2.2 _ (List.getElem_mem hlt) (.inr c4), rfl⟩⟩
    simp [hlt, hg', turn_read ts rest hlt, zero36_eq, writeN, c1, c2, c3, c4, hw, -Int.natCast_add]
    refine ⟨_, ?_, k + 1, by omega, rfl, rfl, hur _ _, fun j hj hjk => ?_⟩
    · omega
    · by_cases e : j = k
      · subst e
        rintro (((h | h) | h) | h)
        · exact c1 h
        · exact c2 (by omega)
        · exact c3 h
        · exact c4 h
      · exact hgood j hj (by omega)
  · have hkn : k = ts.length := by omega
    have hok : OkTs ts := ⟨by omega, by omega, fun t ht => by obtain ⟨j, hj, rfl⟩ := List.getElem_of_mem ht; exact hgood j hj (by omega)⟩
    have hpos : (0 : Int) < ts.length := by omega
    have hpos' : 0 < ts.length := by omega
    have htc := (turn_cell hpos' rest).2
    simp only [Nat.zero_mul, Nat.zero_add] at htc
    have hgd : ts.getD 0 (0, 0) = ts[0] := by rw [List.getD_eq_getElem?_getD, List.getElem?_eq_getElem hpos']; rfl
    rw [hkn]
    simp only [opK_int_lss, Int.lt_irrefl, decide_false, boolK_bool, Bool.false_eq_true, if_false]
    refine joinK2 (NewM ts w) ?_ ?_
    · have hx0 : Int.toNat 0 = 0 := rfl
      have ix : ∀ (w0 : World) (K : Value → Prop), stK Try.prog (.indexAddr 24 (.const (.slice (some ⟨g, 0, none⟩) ts.length cap)) (.const (.int .i64 0))) 0 w0 K = K (.pointer (some ⟨g, 0, none⟩)) := fun w0 K => by
        rw [stK_ix_24 _ _ _ _ _ _ (Int.le_refl 0) hpos]
        rfl
      rw [ix]
      simp only [stK_fa_36_1]
      have hgd2 : w'.drew.heap[g]? = some (.cells (turnCells ts ++ rest).toArray 36 (0, 0)) := hg'
      have hgl' := blk_lt hg'
      have hdsz : w'.drew.heap.size = w'.heap.size := rfl
      have hsz := hu.size
      rw [ld1_ptr, hgd2, blkK_cells]
      simp only [Nat.zero_add, htc, valK_some]
      have hud : Upd (fun _ => False) w w'.drew := hu.drew
      refine ⟨?_, ?_⟩
      · refine callK_of (Clone_calls hgd2 (by omega)) ?_
        rintro r w2 ⟨tv, rfl, hrow, hu2, hb2⟩
        refine ⟨_, rfl, ?_⟩
        have hg2 : w2.heap[g]? = some (.cells (turnCells ts ++ rest).toArray 36 (0, 0)) := (hu2.old g (blk_lt hgd2) (fun f => f)).trans hgd2
        have hg3 : (w2.alloc (.map #[] 0)).heap[g]? = some (.cells (turnCells ts ++ rest).toArray 36 (0, 0)) := (alloc_old (blk_lt hg2) _).trans hg2
        obtain ⟨a1, c1, rfl⟩ := row_slice hrow
        have hu3 : Upd (fun _ => False) w (w2.alloc (.map #[] 0)) := (hud.trans hu2 fun _ _ h => h).alloc _
        have hM := NewM_of (ts := ts) (w := w) (w1 := w2.alloc (.map #[] 0)) rfl hu3 (row_keep hrow fun b hbb => alloc_old (row_lt hrow hbb) _)
          (fun b hbb => by have := hb2 b hbb; omega) (alloc_new w2 _) (by have := hu2.size; omega) rfl
        rw [hgd] at hM
        simp only [ix, ld1_ptr, hg2, hg3, blkK_cells, htc, valK_some, bld99, agg_cells, World.size_alloc, true_and] at hM ⊢
        exact hM
      · have hgA : (w'.drew.alloc (.map #[] 0)).heap[g]? = some (.cells (turnCells ts ++ rest).toArray 36 (0, 0)) := (alloc_old (blk_lt hgd2) _).trans hgd2
        simp only [ix, ld1_ptr, hgA, blkK_cells, htc, valK_some, true_and]
        refine callK_of (Clone_calls hgA (by omega)) ?_
        rintro r w2 ⟨tv, rfl, hrow, hu2, hb2⟩
        refine ⟨_, rfl, ?_⟩
        have hg2 : w2.heap[g]? = some (.cells (turnCells ts ++ rest).toArray 36 (0, 0)) := (hu2.old g (blk_lt hgA) (fun f => f)).trans hgA
        obtain ⟨a1, c1, rfl⟩ := row_slice hrow
        have hu3 : Upd (fun _ => False) w w2 := (hud.alloc _).trans hu2 fun _ _ h => h
        have hmm : w2.heap[w'.heap.size]? = some (.map #[] 0) := (hu2.old w'.heap.size (by simp []) (fun f => f)).trans (alloc_new w'.drew _)
        have hM := NewM_of (ts := ts) (w := w) (w1 := w2) rfl hu3 hrow
          (fun b hbb => by have := hb2 b hbb; simp at this; omega) hmm hsz rfl
        rw [hgd] at hM
        simp only [hg2, blkK_cells, htc, valK_some, bld99, agg_cells, true_and]
        exact hM
    · rintro v2 v3 w2 ⟨x, own, rfl, rfl, h1, h2, h3⟩
      exact ⟨h3, .inr ⟨hok, x, own, rfl, h1, h2⟩⟩
end Go.Proofs.Ytaniphdbebdhhaa
