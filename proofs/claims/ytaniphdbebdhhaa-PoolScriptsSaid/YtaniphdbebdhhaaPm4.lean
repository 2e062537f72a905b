/-
  Pages and untypeds: contracts of the program's New, At, Remove. No condition beyond what each theorem names.
-/
import Derived.Test.YtaniphdbebdhhaaPm3
namespace Go.Proofs.Ytaniphdbebdhhaa.Pool
open Go.Vk Vk.Pool

/-- What a call leaves of a part. -/
def PNext (G : Nat → Prop) (w w' : World) (A : HP) : Prop := ∃ G', A G' w' ∧ Mv G G' w w'

theorem ob_info : ∃ i, Try.prog.info? 84 = some i ∧ i.zero = some (.agg #[.int .i64 0, .int .i64 0]) ∧ i.size = 2 ∧ i.bytes = 16 := by
  have h : (Try.prog.info? 84).map (fun i => (i.zero, i.size, i.bytes)) = some (some (.agg #[.int .i64 0, .int .i64 0]), 2, 16) := by kernel_rfl
  cases hi : Try.prog.info? 84 with
  | none => rw [hi] at h; cases h
  | some i => rw [hi] at h; simp at h; exact ⟨i, rfl, h.1, h.2.1, h.2.2⟩
theorem lies84 : lies Try.prog 84 = some (some 2) := by kernel_rfl

theorem mk146 (n : Nat) (hn : n ≤ 256) (ty : TypeId) (w : World) (K : Value → World → Prop) :
    opK Try.prog (.makeSlice 146 (.const (.int .i64 n)) (.const (.int .i64 n))) ty w K = K (.slice (some ⟨w.heap.size, 0, none⟩) n n) (w.alloc (.cells (madeCells #[.int .i64 0, .int .i64 0] (n * 2)) 84)) := by
  obtain ⟨i, h1, h2, h3, h4⟩ := ob_info
  have hr := run_make w 146 84 i _ Try.underlying146 h1 h2 .i64 .i64 n n (by omega) (by omega) (by rw [h4]; omega) (by omega)
  rw [h3] at hr
  refine opK_of ?_ rfl
  simp only [Int.toNat_natCast] at hr
  simp only [execOp, bare, Act.eval, Sem.run_bind, hr, Result.andThen_ok]
  rfl
theorem made_pages (n : Nat) : madeCells #[.int .i64 0, .int .i64 0] (n * 2) = (pgCells ⟨n, [], []⟩).toArray := by
  have h1 : ∀ i : Int, (⟨(n : Int), [], []⟩ : RP).at i = ⟨0, 0⟩ := fun i => rfl
  have hz : (madeCells #[.int .i64 0, .int .i64 0] (n * 2)).toList = List.replicate (n * 2) (.int .i64 0) := by
    apply List.ext_getElem
    · simp [size_madeCells]
    · intro j h1 h2
      simp only [madeCells, Array.toList_map, List.getElem_map, List.getElem_replicate]
      simp
      rcases Nat.mod_two_eq_zero_or_one j with h | h <;> simp [h]
  have h2 : ∀ n : Nat, ((List.range n).map fun _ => (⟨0, 0⟩ : Ob)).flatMap obCells = List.replicate (n * 2) (.int .i64 0) := fun n => by
    induction n with
    | zero => rfl
    | succ n ih =>
      rw [List.range_succ, List.map_append, List.flatMap_append, ih, Nat.add_mul]
      show _ ++ List.replicate 2 _ = _
      rw [List.replicate_append_replicate]
  apply Array.toList_inj.1
  rw [hz]
  unfold pgCells
  simp only [h1, Int.toNat_natCast, h2]

set_option maxRecDepth 100000 in
theorem New_calls (n : Int) (w : World) :
    Calls Try.prog 25 #[.int .i64 n] w fun en w' => match RP.new n with
      | none => en = .returned (.tuple #[.pointer none, .int .i64 1]) ∧ Upd (fun _ => False) w w'
      | some R => ∃ x G', en = .returned (.tuple #[.pointer (some ⟨x, 0, none⟩), .int .i64 0]) ∧ PoolH x R G' w' ∧ Mv (fun _ => False) G' w w' := by
  apply vk25
  unfold vc25 RP.new
  by_cases h1 : n < 1
  · simp [h1]; exact Upd.refl _ _
  · by_cases h2 : 256 < n
    · simp [h1, h2]; exact Upd.refl _ _
    · obtain ⟨k, rfl⟩ : ∃ k : Nat, n = k := ⟨n.toNat, by omega⟩
      simp [h1, h2]
      rw [mk146 k (by omega)]
      rw [opK_of (v := .agg #[.map (some w.heap.size), .slice (some ⟨w.heap.size + 1, 0, none⟩) k k]) (w' := (w.alloc (.map #[] 0)).alloc (.cells (madeCells #[.int .i64 0, .int .i64 0] (k * 2)) 84)) (by simp; kernel_rfl) rfl]
      simp
      have e1 : (w.alloc (.map #[] 0)).heap[w.heap.size]? = some (.map #[] 0) := alloc_new _ _
      obtain ⟨W1, hW1, hu1, f1, s1⟩ := one w (.map #[] 0)
      rw [hW1]
      obtain ⟨W2, hW2, hu2, f2, s2⟩ := one W1 (.cells (madeCells #[.int .i64 0, .int .i64 0] (k * 2)) 84)
      rw [hW2]
      obtain ⟨W3, hW3, hu3, f3, s3⟩ := one W2 (.cells (Value.agg #[.map (some w.heap.size), .slice (some ⟨w.heap.size + 1, 0, none⟩) k k]).cells 148)
      rw [hW3]
      rw [s1] at f2 s2
      rw [s2] at f3 s3
      refine ⟨fun b => w.heap.size ≤ b ∧ b < W3.heap.size, ⟨w.heap.size, w.heap.size + 1, [], 0, fun _ => 0, ?_⟩, fun b hb => .inr hb.1, (hu1.trans hu2 fun _ _ f => f.elim).trans hu3 fun _ _ f => f.elim⟩
      have hinv : Inv ⟨(k : Int), [], []⟩ := ⟨by simp; omega, by simp; omega, by simp, by simp, by simp, by simp, by simp, by simp⟩
      have o1 : W3.heap[w.heap.size]? = some (.map #[] 0) := (hu3.old _ (by omega) fun f => f).trans ((hu2.old _ (by omega) fun f => f).trans f1)
      have o2 : W3.heap[w.heap.size + 1]? = _ := (hu3.old _ (by omega) fun f => f).trans f2
      refine ⟨?_, ?_, o1, by simp [mkeys], Tidy.nil _, fun t => rfl, fun t g hg => (by cases hg), fun t u ht => (by cases ht), hinv, by omega, by omega, by omega, fun t ht => (by cases ht), fun b hb => hb.2⟩
      · simpa [Value.cells] using f3
      · rw [o2, made_pages]

/-- A variable written full, handed back beside another result. -/
theorem exit84 {b : Nat} {o : Ob} {w : World} {cs : Array Value} (hb : w.heap[b]? = some (.cells cs 84 (0, 0))) (hs : cs.size = 2) {v : Value} {R : Value → World → Prop}
    (h : R (.tuple #[obV o, v]) (putB w b (.cells (obCells o).toArray 84 (0, 0)))) :
    stn 2 (.pointer (some ⟨b, 0, none⟩)) (.agg (obCells o).toArray) w fun _ w => resK Try.prog [(.pointer (some ⟨b, 0, none⟩), some 84), (v, none)] w R := by
  simp only [stn_ptr, hb, blkK_cells]
  refine ⟨trivial, rfl, by omega, rfl, ?_⟩
  rw [writeN_2 _ hs]
  refine ⟨[.agg (obCells o).toArray, v], ?_, h⟩
  have := loadCells_run (P := Try.prog) (o := 0) (putB_same (blk_lt hb) (.cells (obCells o).toArray 84 (0, 0))) 2 0 #[] (obCells o) (by simp)
  simp only [resSem, asAddr, loadVar, Sem.run_bind, (lies_agg lies84 _).1, (lies_agg lies84 _).2, Result.andThen_ok, if_true, loadCells, this, Sem.run_pure, pure_bind]
  simp

/-- The same, as simp leaves it. -/
theorem exit84s {b : Nat} {o : Ob} {w : World} {cs : Array Value} (hb : w.heap[b]? = some (.cells cs 84 (0, 0))) (hs : cs.size = 2) {v : Value} {R : Value → World → Prop}
    (h : R (.tuple #[obV o, v]) (putB w b (.cells (obCells o).toArray 84 (0, 0)))) :
    blkK w.heap[b]? fun cs T fr => fr = (0, 0) ∧ (obCells o).length = 2 ∧ 2 ≤ cs.size ∧ (∀ x, x ∈ obCells o → x.oneCell' = true) ∧
      resK Try.prog [(.pointer (some ⟨b, 0, none⟩), some 84), (v, none)] (putB w b (.cells (writeN cs 0 (obCells o)) T)) R := by
  have := exit84 hb hs h
  simpa using this

section
variable {G : Nat → Prop} {w : World} {x : Nat} {R : RP} {m pg : Nat} {l : List Ent3} {c : Nat} {rb : Int → Nat}

set_option maxRecDepth 100000 in
theorem At_calls (h : PoolAt G w x R m pg l c rb) (i : Int) :
    Calls Try.prog 86 #[.pointer (some ⟨x, 0, none⟩), .int .i64 i] w fun en w' => en = .returned (.tuple #[obV (R.atp i).1, .int .i64 (R.atp i).2]) ∧ Upd (fun _ => False) w w' := by
  apply vk86
  unfold vc86 RP.atp
  obtain ⟨W, hW, hu, f0, hs⟩ := one w (.cells zero84 84)
  rw [opK_alloc_84, hW]
  have hA := h.same hu
  obtain ⟨hn, hn1, hn2⟩ := h.n
  obtain ⟨N, hN⟩ : ∃ N, R.n.toNat = N := ⟨_, rfl⟩
  have hhead := hA.head
  rw [hN] at hn hn1 hn2 hhead
  by_cases h1 : i < 0
  · simp [h1, b84z]
    exact exit84 f0 z84 ⟨rfl, hu.putB (.inl (Nat.le_refl _)) _⟩
  · by_cases h2 : R.n ≤ i
    · have h2' : (N : Int) ≤ i := by omega
      simp [h1, h2, h2', hhead, b84z]
      exact exit84 f0 z84 ⟨rfl, hu.putB (.inl (Nat.le_refl _)) _⟩
    · have h2' : ¬ (N : Int) ≤ i := by omega
      have h0 : 0 ≤ i := by omega
      have hlt : i < (N : Int) := by omega
      have hrd := hA.cell (i := i.toNat) (by omega)
      rw [show ((i.toNat : Nat) : Int) = i by omega] at hrd
      simp [h1, h2, h2', hhead, h0, hlt, hA.page, hrd]
      refine exit84s f0 z84 ?_
      exact ⟨rfl, hu.putB (.inl (Nat.le_refl _)) _⟩
end
end Go.Proofs.Ytaniphdbebdhhaa.Pool
