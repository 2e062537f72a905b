/-
  The bus's Where, Close; the document's Line, Close. No condition.
-/
import Derived.Test.YtaniphdbebdhhaaIpB
namespace Go.Proofs.Ytaniphdbebdhhaa.Ipc
open Go.Vk Go.RowKit Go.Shelf Vk.Ipc
attribute [local go_sem] Oper.semAt_some

def whN1 (x m2 s : Nat) (t : Int) : Act :=
  { tmps := #[.pointer (some ⟨x, 0, none⟩), .int .i64 t, undef, .pointer (some ⟨s, 0, none⟩), .pointer (some ⟨s + 1, 0, none⟩), .pointer (some ⟨s + 1 + 1, 0, none⟩), .pointer (some ⟨s + 3, 0, none⟩), .bool false, undef,
      .tuple #[.int .i64 0, .bool false], .pointer (some ⟨x, 0, none⟩), .pointer (some ⟨x, 0, none⟩), .pointer (some ⟨x, 1, none⟩), .map (some m2), .int .i64 t, .tuple #[.int .i64 0, .bool false], .int .i64 0, .bool false,
      undef, undef, undef, undef, undef, undef, undef, undef, undef, undef, undef, undef, undef, undef, undef, undef, undef, undef, undef], defers := [] }

set_option maxRecDepth 100000 in
set_option maxHeartbeats 4000000 in
theorem where72_none (F : Fence) (n : Nat) (h72 : F.fn 72) (hro : F.round = none) {w : World} {x m1 m2 : Nat} {l2 : List Ent3} {c2 : Nat} {t : Int}
    (hx : w.heap[x]? = some (.cells #[.map (some m1), .map (some m2)] 126 (0, 0))) (hm2 : w.heap[m2]? = some (.map (ents l2) c2)) (hg2 : mget l2 t = none) :
    CallsIn F n Try.prog 72 #[.pointer (some ⟨x, 0, none⟩), .int .i64 t] w fun e W' => e = .returned (.tuple #[.int .i64 (-1), .int .i64 0]) ∧ Below w.heap.size w W' := by
  refine callsIn_of_wp Try.func72 rfl h72 ?_ hro
  simp only [Try.ntmps72, List.size_toArray, List.length_cons, List.length_nil, Nat.reduceAdd, Nat.reduceSub, Array.replicate_succ, Array.replicate_zero, List.push_toArray, List.append_toArray, List.nil_append, List.cons_append]
  have hx2 : w.cell? ⟨x, 1, none⟩ = some (.map (some m2)) := by rw [cell_of_blk hx]; rfl
  have hxl := blk_lt hx
  have hml2 := blk_lt hm2
  obtain ⟨W3, hW3⟩ : ∃ W3, ((w.alloc (.cells #[.int .i64 t] 3)).alloc (.cells #[.int .i64 0] 3)).alloc (.cells #[.int .i64 0] 3) = W3 := ⟨_, rfl⟩
  have hU3 : Upd (fun _ => False) w W3 := by rw [← hW3]; exact (((Upd.refl _ w).alloc _).alloc _).alloc _
  have hs3 : W3.heap.size = w.heap.size + 3 := by rw [← hW3]; simp
  have f3 : W3.cell? ⟨w.heap.size, 0, none⟩ = some (.int .i64 t) := by
    rw [← hW3]; rw [cell_of_blk (by rw [alloc_old (by simp; omega), alloc_old (by simp)]; exact alloc_new _ _)]; rfl
  have g1 : W3.cell? ⟨x, 1, none⟩ = some (.map (some m2)) := by rw [cell_of_blk ((hU3.old x hxl fun f => f).trans hx)]; rfl
  have gm2 := (hU3.old m2 hml2 fun f => f).trans hm2
  have g1d : W3.drew.cell? ⟨x, 1, none⟩ = some (.map (some m2)) := g1
  have f3d : W3.drew.cell? ⟨w.heap.size, 0, none⟩ = some (.int .i64 t) := f3
  have g1a : (W3.alloc (.cells #[.int .i64 0] 3)).drew.cell? ⟨x, 1, none⟩ = some (.map (some m2)) := by
    show (W3.alloc _).cell? _ = _
    rw [cell_of_blk ((alloc_old (by omega) _).trans ((hU3.old x hxl fun f => f).trans hx))]; rfl
  have f3a : (W3.alloc (.cells #[.int .i64 0] 3)).drew.cell? ⟨w.heap.size, 0, none⟩ = some (.int .i64 t) := by
    show (W3.alloc _).cell? _ = _
    rw [← f3]; unfold World.cell?; rw [alloc_old (by show w.heap.size < W3.heap.size; omega)]
  have hlk1 := ilook_ok_none (w := W3.drew) under124 under3 zero3' gm2 hg2
  have hlk2 := ilook_ok_none (w := (W3.alloc (.cells #[.int .i64 0] 3)).drew) under124 under3 zero3' (by show (W3.alloc _).heap[m2]? = _; rw [alloc_old (by omega)]; exact gm2) hg2
  gi_wp2
  refine Go.wpIn_mono (Q := fun e a' w' => e = .normal ∧ a' = whN1 x m2 w.heap.size t ∧ w' = (W3.alloc (.cells #[.int .i64 0] 3)).drew) ?_ ?_
  · gi_region_with (fail)
    all_goals exact ⟨rfl, rfl, rfl⟩
  rintro e a' w' ⟨rfl, rfl, rfl⟩
  have hBV : Below w.heap.size w (W3.alloc (.cells #[.int .i64 0] 3)).drew := by
    rw [← hW3]
    exact (((((Below.refl _ w).alloc (Nat.le_refl _) _).alloc (by simp) _).alloc (by simp; omega) _).alloc (by simp; omega) _).drew
  have bx1 : Boxed (W3.alloc (.cells #[.int .i64 0] 3)).drew (w.heap.size + 1) 3 (.int .i64 0) := by
    show (W3.alloc _).heap[w.heap.size + 1]? = _
    rw [← hW3, alloc_old (by simp), alloc_old (by simp)]
    have := alloc_new (w.alloc (.cells #[.int .i64 t] 3)) (.cells #[.int .i64 0] 3)
    simpa only [size_alloc'] using this
  have bx2 : Boxed (W3.alloc (.cells #[.int .i64 0] 3)).drew (w.heap.size + 2) 3 (.int .i64 0) := by
    show (W3.alloc _).heap[w.heap.size + 2]? = _
    rw [← hW3, alloc_old (by simp)]
    have := alloc_new ((w.alloc (.cells #[.int .i64 t] 3)).alloc (.cells #[.int .i64 0] 3)) (.cells #[.int .i64 0] 3)
    simpa only [size_alloc'] using this
  clear hlk1 hlk2 g1d f3d g1a f3a g1 f3 gm2
  generalize (W3.alloc (.cells #[.int .i64 0] 3)).drew = V at *
  have hc1 := bx1.cell
  have hc2 := bx2.cell
  have hf1 := bx1.frozen
  have hf2 := bx2.frozen
  unfold whN1
  gi_wp2
  have k1 := ((boxed_set bx1 (.int .i64 (-1))).other (B' := w.heap.size + 1 + 1) (by omega) (.int .i64 0)).cell
  have k2 := (boxed_set (bx2.other (B' := w.heap.size + 1) (by omega) (.int .i64 (-1))) (.int .i64 0)).cell
  refine bodyPost_ret (v := .tuple #[.int .i64 (-1), .int .i64 0]) ?_ rfl ⟨rfl, (hBV.setCell (p := ⟨w.heap.size + 1, 0, none⟩) (by simp) _).setCell (p := ⟨w.heap.size + 1 + 1, 0, none⟩) (by simp; omega) _⟩
  simp [results, Try.f72, go_sem, k1, k2]

section
variable {own : Nat → Option BTag} {w : World} {x : Nat} {S : PB} {m1 m2 : Nat} {l1 : List Ent3} {c1 : Nat} {l2 : List Ent3} {c2 : Nat} {pb : Int → Nat} {lv : Int → Value}

/-- Where a thread waits, and how. -/
theorem Where_calls (h : BusAt own w x S m1 m2 l1 c1 l2 c2 pb lv) (hq : ∀ i p, S.places i = some p → p.line.length < 1000000000) (hwp : ∀ t i, S.wher t = some i → ∃ p, S.places i = some p) (t : Int) :
    Calls Try.prog 72 #[.pointer (some ⟨x, 0, none⟩), .int .i64 t] w fun en w' => en = .returned (.tuple #[.int .i64 (S.where_ t).1, .int .i64 (S.where_ t).2]) ∧ Upd (fun _ => False) w w' := by
  unfold PB.where_
  cases hw : S.wher t with
  | none =>
    refine ((where72_none { fn := fun _ => True } 3 trivial rfl h.head h.map2 (h.none2 hw)).calls fun k d hd => by cases hd).mono ?_
    rintro e w' ⟨rfl, hb⟩
    exact ⟨rfl, below_upd hb⟩
  | some i =>
    obtain ⟨p, hp⟩ := hwp t i hw
    simp only [hp]
    have hL := lineWts_of (o := 1) (h.cells hp) rfl (h.line i p hp)
    refine ((where72_in { fn := fun _ => True } 3 trivial trivial trivial rfl (Nat.le_refl _) h.head h.map1 (by rw [h.k1, hp]; rfl) h.map2 (h.some2 hw) hL (hq i p hp)).calls fun k d hd => by cases hd).mono ?_
    rintro e w' ⟨⟨wx, ⟨hf, rfl⟩ | ⟨hf, rfl⟩⟩, hb⟩
    · rw [hf]; exact ⟨rfl, below_upd hb⟩
    · rw [hf]; exact ⟨rfl, below_upd hb⟩
end
end Go.Proofs.Ytaniphdbebdhhaa.Ipc
