/-
  The law's books, row by row: lists of ints, of objects: what is written down. No condition beyond what each theorem names.
-/
import Derived.Test.YtaniphdbebdhhaaPr5
namespace Go.Proofs.Ytaniphdbebdhhaa.Pool
open Go.Vk Vk.Pool

def mark (k : Nat) : Int := -77 - ((k / 2 : Nat) : Int)
theorem mark_val {n : Nat} (hn : n < 1000000000) : IntKind.i64.wrap (-77 - IntKind.i64.wrap ((n : Int) / 2)) = mark n := by
  have h1 : (n : Int) / 2 = ((n / 2 : Nat) : Int) := by omega
  rw [h1, wrap_i64 (x := ((n / 2 : Nat) : Int)) (by omega) (by omega), wrap_i64 (by omega) (by omega)]
  rfl
def intCells (x : Int) : List Value := [.int .i64 x]
theorem int_len (x : Int) : (intCells x).length = 1 := rfl
theorem int_one (x : Int) : (intCells x).all Value.oneCell' = true := rfl
theorem nums_flat (l : List Int) : nums l = l.flatMap intCells := by
  induction l with
  | nil => rfl
  | cons a l ih => simp [nums, intCells] at *; exact ih

/-- A row of lists, each full of its mark. -/
structure BRow {α : Type} (T e z : Nat) (f : α → List Value) (a : Int → α) (w : World) (v : Value) (es : List Value) : Prop where
  row : w.ownsRow 0 T 1 v es.length es
  lists : ∀ k u, es[k]? = some u → ∃ n, n < 1100000000 ∧ w.ownsRow 0 e z u n ((List.replicate n (a (mark k))).flatMap f)
  even : 2 ∣ es.length
/-- A block of the row's. -/
def Bl (v : Value) (es : List Value) (b : Nat) : Prop := v.ownBlock = some b ∨ ∃ u ∈ es, u.ownBlock = some b
section
variable {α : Type} {T e z : Nat} {f : α → List Value} {a : Int → α} {w w' : World} {v : Value} {es : List Value}
theorem BRow.frame (h : BRow T e z f a w v es) (hf : ∀ b, Bl v es b → w'.heap[b]? = w.heap[b]?) : BRow T e z f a w' v es :=
  ⟨row_keep h.row fun g hg => hf g (.inl hg), fun k u hk => by
    obtain ⟨n, hn, hrow⟩ := h.lists k u hk
    exact ⟨n, hn, row_keep hrow fun g hg => hf g (.inr ⟨u, List.mem_of_getElem? hk, hg⟩)⟩, h.even⟩
theorem BRow.nil (w : World) : BRow T e z f a w (.slice none 0 0) [] := ⟨World.ownsRow_nil w 0 T 1, fun k u hk => by simp at hk, ⟨0, rfl⟩⟩
/-- Blocks of other types are none of this row's. -/
theorem BRow.other (h : BRow T e z f a w v es) {b : Nat} {cs : Array Value} {t : Nat} {fr : Nat × Nat} (hb : w.heap[b]? = some (.cells cs t fr)) (h1 : T ≠ t) (h2 : e ≠ t) : ¬ Bl v es b := by
  rintro (h3 | ⟨u, hu, h3⟩)
  · exact row_not h.row hb h1 h3
  · obtain ⟨k, hk, rfl⟩ := List.getElem_of_mem hu
    obtain ⟨n, _, hr⟩ := h.lists k es[k] (by simp [hk])
    exact row_not hr hb h2 h3
theorem BRow.lt (h : BRow T e z f a w v es) {b : Nat} (hb : Bl v es b) : b < w.heap.size := by
  rcases hb with h3 | ⟨u, hu, h3⟩
  · exact row_lt h.row h3
  · obtain ⟨k, hk, rfl⟩ := List.getElem_of_mem hu
    obtain ⟨n, _, hr⟩ := h.lists k es[k] (by simp [hk])
    exact row_lt hr h3
/-- What a row's block holds. -/
theorem row_block {w : World} {e z n : Nat} {v : Value} {xs : List Value} (h : w.ownsRow 0 e z v n xs) {b : Nat} (hb : v.ownBlock = some b) : ∃ cs, w.heap[b]? = some (.cells cs e (0, 0)) := by
  rcases row_open h with ⟨rfl, _⟩ | ⟨g, cap, rest, rfl, hg, _⟩
  · simp [Value.ownBlock] at hb
  · obtain rfl : g = b := by simpa [Value.ownBlock] using hb
    exact ⟨_, hg⟩
theorem BRow.block (h : BRow T e z f a w v es) {b : Nat} (hb : Bl v es b) : ∃ cs t, (t = T ∨ t = e) ∧ w.heap[b]? = some (.cells cs t (0, 0)) := by
  rcases hb with h3 | ⟨u, hu, h3⟩
  · obtain ⟨cs, hcs⟩ := row_block h.row h3
    exact ⟨cs, T, .inl rfl, hcs⟩
  · obtain ⟨k, hk, rfl⟩ := List.getElem_of_mem hu
    obtain ⟨n, _, hr⟩ := h.lists k es[k] (by simp [hk])
    obtain ⟨cs, hcs⟩ := row_block hr h3
    exact ⟨cs, e, .inr rfl, hcs⟩
/-- Two lists are written down behind the others. -/
theorem BRow.push (h : BRow T e z f a w v es) {v' l x : Value} {n m : Nat} (hr : w'.ownsRow 0 T 1 v' (es.length + 2) (es ++ [l, x])) (hl : w'.ownsRow 0 e z l n ((List.replicate n (a (mark es.length))).flatMap f)) (hx : w'.ownsRow 0 e z x m ((List.replicate m (a (mark es.length))).flatMap f))
    (hn : n < 1100000000) (hm : m < 1100000000) (hf : ∀ u ∈ es, ∀ b, u.ownBlock = some b → w'.heap[b]? = w.heap[b]?) : BRow T e z f a w' v' (es ++ [l, x]) := by
  obtain ⟨q, hq⟩ := h.even
  refine ⟨by simpa using hr, fun j u hj => ?_, ⟨q + 1, by simp; omega⟩⟩
  rcases Nat.lt_or_ge j es.length with hje | hje
  · rw [List.getElem?_append_left hje] at hj
    obtain ⟨nj, hnj, hrj⟩ := h.lists j u hj
    exact ⟨nj, hnj, row_keep hrj fun g hg => hf u (List.mem_of_getElem? hj) g hg⟩
  · rw [List.getElem?_append_right hje] at hj
    rcases hjj : j - es.length with _ | _ | j'
    · rw [hjj] at hj
      simp at hj
      subst hj
      obtain rfl : j = es.length := by omega
      exact ⟨n, hn, hl⟩
    · rw [hjj] at hj
      simp at hj
      subst hj
      have e : mark j = mark es.length := by unfold mark; rw [show j / 2 = es.length / 2 by omega]
      rw [e]
      exact ⟨m, hm, hx⟩
    · rw [hjj] at hj
      simp at hj
end
theorem rep_set {α : Type} (x : α) (L : List α) {k : Nat} (hk : k < L.length) : (List.replicate k x ++ L.drop k).set k x = List.replicate (k + 1) x ++ L.drop (k + 1) := by
  rw [List.set_append_right _ _ (by simp), List.length_replicate, Nat.sub_self, List.drop_eq_getElem_cons hk, List.set_cons_zero, List.replicate_succ', List.append_assoc]
  rfl
theorem rep_len {α : Type} (x : α) (L : List α) {k : Nat} (hk : k ≤ L.length) : (List.replicate k x ++ L.drop k).length = L.length := by simp; omega
theorem row_write' {α : Type} {f : α → List Value} {w : World} {e z n : Nat} {v : Value} {L : List α} (hz : ∀ a, (f a).length = z) (h : w.ownsRow 0 e z v n (L.flatMap f)) (hn : L.length = n) {i : Nat} (hi : i < n) (a : α) :
    ∃ g cap cs, v = .slice (some ⟨g, 0, none⟩) n cap ∧ w.heap[g]? = some (.cells cs e (0, 0)) ∧ i * z + z ≤ cs.size ∧ (putB w g (.cells (writeN cs (i * z) (f a)) e (0, 0))).ownsRow 0 e z v n ((L.set i a).flatMap f) := by
  subst hn
  obtain ⟨g, cap, cs, h1, h2, h3, h4⟩ := row_write hz h hi a
  rw [List.length_set] at h4
  exact ⟨g, cap, cs, h1, h2, h3, h4⟩

theorem slice_infoI : ∃ i zv, Try.prog.info? 69 = some i ∧ i.zero = some zv ∧ i.size = 1 ∧ i.bytes = 24 ∧ zv.cells.size = 1 := by
  have h : (Try.prog.info? 69).map (fun i => (i.zero.map (·.cells.size), i.size, i.bytes)) = some (some 1, 1, 24) := by kernel_rfl
  cases hi : Try.prog.info? 69 with
  | none => rw [hi] at h; cases h
  | some i =>
    rw [hi] at h
    simp at h
    obtain ⟨⟨zv, h1, h2⟩, h3, h4⟩ := h
    exact ⟨i, zv, rfl, h1, h3, h4, h2⟩
theorem slice_infoO : ∃ i zv, Try.prog.info? 146 = some i ∧ i.zero = some zv ∧ i.size = 1 ∧ i.bytes = 24 ∧ zv.cells.size = 1 := by
  have h : (Try.prog.info? 146).map (fun i => (i.zero.map (·.cells.size), i.size, i.bytes)) = some (some 1, 1, 24) := by kernel_rfl
  cases hi : Try.prog.info? 146 with
  | none => rw [hi] at h; cases h
  | some i =>
    rw [hi] at h
    simp at h
    obtain ⟨⟨zv, h1, h2⟩, h3, h4⟩ := h
    exact ⟨i, zv, rfl, h1, h3, h4, h2⟩
theorem bs40 (x y : Value) (hx : x.oneCell' = true) (hy : y.oneCell' = true) (ty : TypeId) (w : World) (K : Value → World → Prop) :
    opK Try.prog (.buildSlice 40 2 #[(0, .const x), (1, .const y)]) ty w K = K (.slice (some ⟨w.heap.size, 0, none⟩) 2 2) (w.alloc (.cells #[x, y] 69)) := by
  cases x <;> simp [Value.oneCell'] at hx <;> cases y <;> simp [Value.oneCell'] at hy <;> exact opK_of (by kernel_rfl) rfl
theorem bs43 (x y : Value) (hx : x.oneCell' = true) (hy : y.oneCell' = true) (ty : TypeId) (w : World) (K : Value → World → Prop) :
    opK Try.prog (.buildSlice 43 2 #[(0, .const x), (1, .const y)]) ty w K = K (.slice (some ⟨w.heap.size, 0, none⟩) 2 2) (w.alloc (.cells #[x, y] 146)) := by
  cases x <;> simp [Value.oneCell'] at hx <;> cases y <;> simp [Value.oneCell'] at hy <;> exact opK_of (by kernel_rfl) rfl

/-- What ownX leaves. -/
def Owned {α : Type} (T e z : Nat) (f : α → List Value) (a : Int → α) (i : Nat) (w : World) (B : Nat) (cs : Array Value) (v : Value) (es : List Value) (l : Value) (w' : World) : Prop :=
  ∃ v' x, w'.heap[B]? = some (.cells (cs.setIfInBounds i v') 47 (0, 0)) ∧ BRow T e z f a w' v' (es ++ [l, x]) ∧ Upd (fun b => b = B ∨ v.ownBlock = some b ∨ l.ownBlock = some b) w w' ∧
    (∀ b, v'.ownBlock = some b → v.ownBlock = some b ∨ w.heap.size ≤ b) ∧ (∀ b, x.ownBlock = some b → l.ownBlock = some b ∨ w.heap.size ≤ b)

/-- A round over the list: its first k are marks. -/
def OwnI {α : Type} (e z : Nat) (f : α → List Value) (w : World) (l : Value) (L : List α) (x : α) (k : Nat) (u : Value) (w' : World) : Prop :=
  ∃ j : Nat, j ≤ L.length ∧ k = L.length - j ∧ u = .int .i64 j ∧ w'.ownsRow 0 e z l L.length ((List.replicate j x ++ L.drop j).flatMap f) ∧ Upd (fun b => l.ownBlock = some b) w w'
/-- A round of marks put behind it. -/
def OwnJ {α : Type} (e z : Nat) (f : α → List Value) (w : World) (l : Value) (n : Nat) (x : α) (k : Nat) (v u : Value) (w' : World) : Prop :=
  ∃ j : Nat, j ≤ 33 ∧ k = 33 - j ∧ u = .int .i64 j ∧ w'.ownsRow 0 e z v (n + j) ((List.replicate (n + j) x).flatMap f) ∧ w'.ownsRow 0 e z l n ((List.replicate n x).flatMap f) ∧ Upd (fun b => l.ownBlock = some b) w w' ∧ ∀ b, v.ownBlock = some b → l.ownBlock = some b ∨ w.heap.size ≤ b

set_option maxHeartbeats 1000000 in
set_option maxRecDepth 100000 in
theorem ownObjects_calls {w : World} {B : Nat} {cs : Array Value} {v : Value} {es : List Value} (hhead : w.heap[B]? = some (.cells cs 47 (0, 0))) (hcs : cs[3]? = some v) (h : BRow 146 84 2 obCells (fun m => ⟨0, m⟩) w v es) (hbig : es.length < 1000000000)
    {l : Value} {L : List Ob} (hl : w.ownsRow 0 84 2 l L.length (L.flatMap obCells)) (hn : L.length < 1000000000) (hlo : ∀ u ∈ es, ∀ b, l.ownBlock = some b → u.ownBlock ≠ some b) :
    Calls Try.prog 92 #[.pointer (some ⟨B, 0, none⟩), l] w fun en w' => en = .returned (.tuple #[]) ∧ Owned 146 84 2 obCells (fun m => ⟨0, m⟩) 3 w B cs v es l w' := by
  apply vk92
  unfold vc92
  obtain ⟨ab, cb, hbv⟩ := row_slice h.row
  obtain ⟨al, cl, hlv⟩ := row_slice hl
  have hm := mark_val hbig
  obtain ⟨mk, hmk⟩ : ∃ mk, mark es.length = mk := ⟨_, rfl⟩
  rw [hmk] at hm
  have hlenl : ∀ {ty : TypeId} {w : World} {K : Value → World → Prop}, opK Try.prog (.call ⟨.builtin .len, #[.const l], #[146]⟩) ty w K = K (.int .i64 L.length) w := by
    intro ty w K; rw [hlv]; exact opK_len_146 _ _ _ _ _ _
  have hc3 : 3 < cs.size := (Array.getElem?_eq_some_iff.1 hcs).1
  simp [hhead, hcs]
  rw [show opK Try.prog (.call ⟨.builtin .len, #[.const v], #[43]⟩) 3 w = fun K => K (.int .i64 es.length) w by funext K; rw [hbv]; exact opK_len_43 _ _ _ _ _ _]
  simp [hm, b84n]
  refine var84 ⟨0, mk⟩ ?_
  intro W hu0 f0 s0
  have hlW : W.ownsRow 0 84 2 l L.length (L.flatMap obCells) := row_keep hl fun g hg => hu0.old g (row_lt hl hg) fun f => f
  have hone : ∀ (o : Ob), ∀ u ∈ obCells o, u.oneCell' = true := fun o u hu => List.all_eq_true.1 (ob_one o) u hu
  have tml : l.ownBlock ≠ some w.heap.size := fun e => by have := row_lt hl e; omega
  refine loopK1 (OwnI 84 2 obCells W l L ⟨0, mk⟩) L.length ⟨0, by omega, rfl, rfl, by simpa using hlW, Upd.refl _ _⟩ ?_
  rintro m u w1 ⟨k, hk, rfl, rfl, hrow, hu⟩
  have f1 := (hu.old _ (blk_lt f0) tml).trans f0
  have hll := rep_len (⟨0, mk⟩ : Ob) L hk
  rw [hlenl]
  by_cases hlt : k < L.length
  · have hw : IntKind.i64.wrap ((k : Int) + 1) = ((k + 1 : Nat) : Int) := by rw [wr (by omega) (by omega)]; rfl
    obtain ⟨g, cap, cs1, hv2, hg, hsz, hr2⟩ := row_write' ob_len hrow hll hlt (⟨0, mk⟩ : Ob)
    rw [rep_set _ _ hlt] at hr2
    have hu2 : Upd (fun b => l.ownBlock = some b) W (putB w1 g (.cells (writeN cs1 (k * 2) (obCells ⟨0, mk⟩)) 84 (0, 0))) := hu.putB (.inr (by rw [hv2]; rfl)) _
    simp only [opK_int_lss, Int.ofNat_lt, hlt, decide_true, boolK_bool, if_true]
    simp only [ldn_ptr, f1, blkK_cells, obr, valsK_some]
    rw [show opK Try.prog (.indexAddr 146 (.const l) (.const (.int .i64 (k : Int)))) 0 w1 = fun K => K (.pointer (some ⟨g, k * 2, none⟩)) w1 by
      funext K
      rw [hv2, opK_ix_146 _ _ _ _ _ _ (by omega) (by omega)]
      simp]
    simp only [stn_ptr, hg, blkK_cells]
    refine ⟨trivial, rfl, hsz, rfl, ?_⟩
    simp [hw, -Int.natCast_add]
    exact ⟨L.length - (k + 1), by omega, k + 1, by omega, rfl, rfl, hr2, hu2⟩
  · have hkn : k = L.length := by omega
    have hrow' : w1.ownsRow 0 84 2 l L.length ((List.replicate L.length (⟨0, mk⟩ : Ob)).flatMap obCells) := by
      rw [hkn, List.drop_eq_nil_of_le (Nat.le_refl _), List.append_nil] at hrow
      exact hrow
    have hlt' : ¬ (k : Int) < (L.length : Int) := by omega
    simp only [opK_int_lss, hlt', decide_false, boolK_bool, Bool.false_eq_true, if_false]
    refine loopK2 (OwnJ 84 2 obCells W l L.length ⟨0, mk⟩) 33 ⟨0, by omega, rfl, rfl, hrow', hrow', hu, fun b hb => .inl hb⟩ ?_
    rintro m v6 v7 w2 ⟨i, hi, rfl, rfl, hr6, hrl, hu2, ho6⟩
    have f2 := (hu2.old _ (blk_lt f0) tml).trans f0
    by_cases hi33 : i < 33
    · have hw : IntKind.i64.wrap ((i : Int) + 1) = ((i + 1 : Nat) : Int) := by rw [wr (by omega) (by omega)]; rfl
      have hi33' : (i : Int) < 33 := by omega
      simp [hi33', f2]
      rw [show Value.agg (obCells ⟨0, mk⟩).toArray = obV ⟨0, mk⟩ from rfl, bs146]
      have hr6' : (w2.alloc (.cells (obCells ⟨0, mk⟩).toArray 84)).ownsRow 0 84 2 v6 (L.length + i) ((List.replicate (L.length + i) (⟨0, mk⟩ : Ob)).flatMap obCells) := row_keep hr6 fun g hg => alloc_old (row_lt hr6 hg) _
      have hrl' : (w2.alloc (.cells (obCells ⟨0, mk⟩).toArray 84)).ownsRow 0 84 2 l L.length ((List.replicate L.length (⟨0, mk⟩ : Ob)).flatMap obCells) := row_keep hrl fun g hg => alloc_old (row_lt hrl hg) _
      obtain ⟨inf, hi1, hi2, hi3, hi4⟩ := ob_info
      refine opK_append1s Try.underlying146 hi1 hi2 hi3 hi4 rfl (by omega) hr6' (alloc_new _ _) (m := 1) rfl (fun u hu => hone ⟨0, mk⟩ u (by simpa using hu)) (by simp [maxLen]; omega) (by omega) ?_
      intro v' w3 h1 h2 h3 h4
      have hsz := hu2.size
      simp [hw, -Int.natCast_add]
      refine ⟨33 - (i + 1), by omega, i + 1, by omega, rfl, rfl, ?_, h4 _ _ _ hrl' (by omega), ?_, fun b hb => ?_⟩
      · rw [show L.length + (i + 1) = L.length + i + 1 by omega, List.replicate_succ', List.flatMap_append]
        simpa using h1
      · refine (hu2.alloc _).trans (Upd.grown (F := fun c => v6.ownBlock = some c) h2 fun c hc => hc) fun c hc hc6 => ?_
        rcases ho6 c hc6 with h | h
        · exact h
        · omega
      · rcases h3 b hb with h | h
        · exact ho6 b h
        · simp at h; exact .inr (by omega)
    · have hi33' : ¬ (i : Int) < 33 := by omega
      obtain rfl : i = 33 := by omega
      have huw : Upd (fun b => l.ownBlock = some b) w w2 := (hu0.mono fun _ f => f.elim).trans hu2 fun _ _ h => h
      have hlB : l.ownBlock ≠ some B := row_not hl hhead (by decide)
      have hvl : ∀ b, v.ownBlock = some b → l.ownBlock ≠ some b := fun b hb => row_ne h.row hl (by decide) hb
      have hh2 : w2.heap[B]? = some (.cells cs 47 (0, 0)) := (huw.old B (blk_lt hhead) hlB).trans hhead
      have hrb2 : w2.ownsRow 0 146 1 v es.length es := row_keep h.row fun g hg => huw.old g (row_lt h.row hg) (hvl g hg)
      have hvB : v.ownBlock ≠ some B := row_not hrb2 hh2 (by decide)
      have hl1 := row_one hl
      simp [hh2, hcs]
      rw [bs43 _ _ hl1 (row_one hr6)]
      have hrb3 : (w2.alloc (.cells #[l, v6] 146)).ownsRow 0 146 1 v es.length es := row_keep hrb2 fun g hg => alloc_old (row_lt hrb2 hg) _
      have hh3 : (w2.alloc (.cells #[l, v6] 146)).heap[B]? = some (.cells cs 47 (0, 0)) := (alloc_old (blk_lt hh2) _).trans hh2
      obtain ⟨inf2, zv, hj1, hj2, hj3, hj4, hj5⟩ := slice_infoO
      refine opK_append1 Try.underlying43 hj1 hj2 hj3 hj4 hj5 (by omega) hrb3 (alloc_new _ _) (m := 2) rfl (by intro u hu; simp at hu; rcases hu with rfl | rfl; exact hl1; exact row_one hr6) (by simp [maxLen]; omega) (by omega) ?_
      intro v' w4 h1 h2 h3
      have hsz4 : w2.heap.size + 1 ≤ w4.heap.size := by simpa using h2.size
      have hh4 : w4.heap[B]? = some (.cells cs 47 (0, 0)) := (h2.block B (blk_lt hh3) (fun e => hvB e.symm)).trans hh3
      have hB' : v'.ownBlock ≠ some B := row_not h1 hh4 (by decide)
      have hszu := huw.size
      have k4 : ∀ g, g < w2.heap.size → v.ownBlock ≠ some g → g ≠ B → ∀ o, (putB w4 B o).heap[g]? = w2.heap[g]? := fun g hg hne hgB o => by
        rw [putB_other hgB, h2.block g (by simp; omega) (fun e => hne e.symm), alloc_old hg]
      simp [hh4, hc3, row_one h1]
      refine ⟨v', v6, putB_same (blk_lt hh4) _, ?_, ?_, fun b hb => ?_, fun b hb => ?_⟩
      · refine h.push (n := L.length) (m := L.length + 33) (row_keep (by simpa using h1) fun g hg => putB_other (fun e => hB' (by rw [← e]; exact hg)) _) ?_ ?_ (by omega) (by omega) fun u hu b hb => ?_
        · rw [hmk]
          exact row_keep hrl fun g hg => k4 g (row_lt hrl hg) (row_ne hrl hrb2 (by decide) hg) (fun e => row_not hrl hh2 (by decide) (by rw [← e]; exact hg)) _
        · rw [hmk]
          exact row_keep hr6 fun g hg => k4 g (row_lt hr6 hg) (row_ne hr6 hrb2 (by decide) hg) (fun e => row_not hr6 hh2 (by decide) (by rw [← e]; exact hg)) _
        · have hbl : Bl v es b := .inr ⟨u, hu, hb⟩
          have hblt := h.lt hbl
          obtain ⟨kk, hkk, rfl⟩ := List.getElem_of_mem hu
          obtain ⟨nn, _, hrr⟩ := h.lists kk es[kk] (by simp [hkk])
          rw [k4 b (by omega) (row_ne hrr h.row (by decide) hb) (fun e => row_not hrr hhead (by decide) (by rw [← e]; exact hb))]
          exact huw.old b hblt fun hl2 => hlo _ hu b hl2 hb
      · refine Upd.putB ?_ (.inr (.inl rfl)) _
        refine ((huw.alloc _).mono fun b hb => .inr (.inr hb)).trans (Upd.grown (F := fun c => v.ownBlock = some c) h2 fun c hc => hc) fun c hc hcv => .inr (.inl hcv)
      · rcases h3 b hb with e | e
        · exact .inl e
        · simp at e; exact .inr (by omega)
      · rcases ho6 b hb with e | e
        · exact .inl e
        · exact .inr (by omega)
end Go.Proofs.Ytaniphdbebdhhaa.Pool
