/-
  The bus's Where. No condition.
-/
import Derived.Test.YtaniphdbebdhhaaIpA
import Derived.Stop.RegionWithIn
namespace Go.Proofs.Ytaniphdbebdhhaa.Ipc
open Go.Vk Go.RowKit Go.Shelf Vk.Ipc
attribute [local go_sem] Oper.semAt_some

theorem boxed_set {W : World} {B : Nat} {t : TypeId} {u : Value} (h : Boxed W B t u) (v : Value) : Boxed (W.setCell ⟨B, 0, none⟩ v) B t v := by
  unfold Boxed at *
  rw [setCell_of_blk h]
  exact putB_same (blk_lt h) _
theorem boxed_put {W : World} {B D : Nat} {t : TypeId} {u : Value} (h : Boxed W B t u) (hD : D ≠ B) (o : Obj) : Boxed (W.putObj D o) B t u := by
  unfold Boxed at *
  rw [World.putObj_heap_other (fun e => hD e.symm)]
  exact h

def whA1 (x m2 s : Nat) (t i : Int) : Act :=
  { tmps := #[.pointer (some ⟨x, 0, none⟩), .int .i64 t, undef, .pointer (some ⟨s, 0, none⟩), .pointer (some ⟨s + 1, 0, none⟩), .pointer (some ⟨s + 1 + 1, 0, none⟩), .pointer (some ⟨s + 3, 0, none⟩), .bool true, undef,
      .tuple #[.int .i64 i, .bool true], .pointer (some ⟨x, 0, none⟩), .pointer (some ⟨x, 0, none⟩), .pointer (some ⟨x, 1, none⟩), .map (some m2), .int .i64 t, .tuple #[.int .i64 i, .bool true], .int .i64 i, .bool true,
      undef, undef, undef, undef, undef, undef, undef, undef, undef, undef, undef, undef, undef, undef, undef, undef, undef, undef, undef], defers := [] }
def whA2 (x m1 m2 q s : Nat) (t i : Int) : Act :=
  { tmps := #[.pointer (some ⟨x, 0, none⟩), .int .i64 t, undef, .pointer (some ⟨s, 0, none⟩), .pointer (some ⟨s + 1, 0, none⟩), .pointer (some ⟨s + 1 + 1, 0, none⟩), .pointer (some ⟨s + 3, 0, none⟩), .bool true, undef,
      .tuple #[.int .i64 i, .bool true], .pointer (some ⟨x, 0, none⟩), .pointer (some ⟨x, 0, none⟩), .pointer (some ⟨x, 1, none⟩), .map (some m2), .int .i64 t, .tuple #[.int .i64 i, .bool true], .int .i64 i, .bool true,
      .bool true, .bool false, .pointer (some ⟨x, 0, none⟩), .pointer (some ⟨x, 0, none⟩), .pointer (some ⟨x, 0, none⟩), .map (some m1), .int .i64 i, .pointer (some ⟨q, 0, none⟩), .pointer (some ⟨q, 0, none⟩), .pointer (some ⟨q, 1, none⟩),
      .func (.func 118) #[] #[.pointer (some ⟨s + 4, 0, none⟩)], undef, undef, undef, undef, undef, undef, undef, undef], defers := [] }

def whA3 (x m1 m2 q s : Nat) (t i : Int) (b : Nat) (wx : Wt) : Act :=
  { tmps := #[.pointer (some ⟨x, 0, none⟩), .int .i64 t, undef, .pointer (some ⟨s, 0, none⟩), .pointer (some ⟨s + 1, 0, none⟩), .pointer (some ⟨s + 1 + 1, 0, none⟩), .pointer (some ⟨s + 3, 0, none⟩), .bool true, .pointer (some ⟨b, 0, none⟩),
      .tuple #[.int .i64 i, .bool true], .pointer (some ⟨x, 0, none⟩), .pointer (some ⟨x, 0, none⟩), .pointer (some ⟨x, 1, none⟩), .map (some m2), .int .i64 t, .tuple #[.int .i64 i, .bool true], .int .i64 i, .bool true,
      .bool true, .bool false, .pointer (some ⟨x, 0, none⟩), .pointer (some ⟨x, 0, none⟩), .pointer (some ⟨x, 0, none⟩), .map (some m1), .int .i64 i, .pointer (some ⟨q, 0, none⟩), .pointer (some ⟨q, 0, none⟩), .pointer (some ⟨q, 1, none⟩),
      .func (.func 118) #[] #[.pointer (some ⟨s + 4, 0, none⟩)], wtV wx, undef, undef, undef, undef, undef, undef, undef], defers := [] }

set_option maxRecDepth 100000 in
set_option maxHeartbeats 4000000 in
theorem where72_in (F : Fence) (n : Nat) (h72 : F.fn 72) (h75 : F.fn 75) (h118 : F.fn 118) (hro : F.round = none) (hn : 3 ≤ n) {w : World} {x m1 m2 q : Nat} {l1 l2 : List Ent3} {c1 c2 : Nat} {t i : Int} {zs : List Wt}
    (hx : w.heap[x]? = some (.cells #[.map (some m1), .map (some m2)] 126 (0, 0))) (hm : w.heap[m1]? = some (.map (ents l1) c1)) (hg : mget l1 i = some (.pointer (some ⟨q, 0, none⟩))) (hm2 : w.heap[m2]? = some (.map (ents l2) c2)) (hg2 : mget l2 t = some (.int .i64 i))
    (hL : LineWts w.heap.size w q 1 zs) (hlen : zs.length < 1000000000) :
    CallsIn F n Try.prog 72 #[.pointer (some ⟨x, 0, none⟩), .int .i64 t] w fun e W' => (∃ wx, zs.find? (fun w => w.th == t) = some wx ∧ e = .returned (.tuple #[.int .i64 i, .int .i64 wx.how]) ∨ zs.find? (fun w => w.th == t) = none ∧ e = .returned (.tuple #[.int .i64 (-1), .int .i64 0])) ∧ Below w.heap.size w W' := by
  have h1 : 1 ≤ n := by omega
  refine callsIn_of_wp_marks Try.func72 rfl h72 ?_ hro
  simp only [Try.ntmps72, List.size_toArray, List.length_cons, List.length_nil, Nat.reduceAdd, Nat.reduceSub, Array.replicate_succ, Array.replicate_zero, List.push_toArray, List.append_toArray, List.nil_append, List.cons_append]
  have hx2 : w.cell? ⟨x, 1, none⟩ = some (.map (some m2)) := by rw [cell_of_blk hx]; rfl
  have hx1 : w.cell? ⟨x, 0, none⟩ = some (.map (some m1)) := by rw [cell_of_blk hx]; rfl
  have hxl := blk_lt hx
  have hml := blk_lt hm
  have hml2 := blk_lt hm2
  obtain ⟨W3, hW3⟩ : ∃ W3, ((w.alloc (.cells #[.int .i64 t] 3)).alloc (.cells #[.int .i64 0] 3)).alloc (.cells #[.int .i64 0] 3) = W3 := ⟨_, rfl⟩
  have hU3 : Upd (fun _ => False) w W3 := by rw [← hW3]; exact (((Upd.refl _ w).alloc _).alloc _).alloc _
  have hs3 : W3.heap.size = w.heap.size + 3 := by rw [← hW3]; simp
  have f3 : W3.cell? ⟨w.heap.size, 0, none⟩ = some (.int .i64 t) := by
    rw [← hW3]; rw [cell_of_blk (by rw [alloc_old (by simp; omega), alloc_old (by simp)]; exact alloc_new _ _)]; rfl
  have g1 : W3.cell? ⟨x, 1, none⟩ = some (.map (some m2)) := by rw [cell_of_blk ((hU3.old x hxl fun f => f).trans hx)]; rfl
  have g0 : W3.cell? ⟨x, 0, none⟩ = some (.map (some m1)) := by rw [cell_of_blk ((hU3.old x hxl fun f => f).trans hx)]; rfl
  have gm2 := (hU3.old m2 hml2 fun f => f).trans hm2
  have g1d : W3.drew.cell? ⟨x, 1, none⟩ = some (.map (some m2)) := g1
  have f3d : W3.drew.cell? ⟨w.heap.size, 0, none⟩ = some (.int .i64 t) := f3
  have g1a : (W3.alloc (.cells #[.int .i64 0] 3)).drew.cell? ⟨x, 1, none⟩ = some (.map (some m2)) := by
    show (W3.alloc _).cell? _ = _
    rw [cell_of_blk ((alloc_old (by omega) _).trans ((hU3.old x hxl fun f => f).trans hx))]; rfl
  have f3a : (W3.alloc (.cells #[.int .i64 0] 3)).drew.cell? ⟨w.heap.size, 0, none⟩ = some (.int .i64 t) := by
    show (W3.alloc _).cell? _ = _
    rw [← f3]; unfold World.cell?; rw [alloc_old (by show w.heap.size < W3.heap.size; omega)]
  have hlk1 := ilook_ok (w := W3.drew) under124 under3 gm2 hg2
  have hlk2 := ilook_ok (w := (W3.alloc (.cells #[.int .i64 0] 3)).drew) under124 under3 (by show (W3.alloc _).heap[m2]? = _; rw [alloc_old (by omega)]; exact gm2) hg2
  gi_wp2
  refine Go.wpIn_mono (Q := fun e a' w' => e = .normal ∧ a' = whA1 x m2 w.heap.size t i ∧ w' = (W3.alloc (.cells #[.int .i64 i] 3)).drew) ?_ ?_
  · gi_region_with (fail)
    all_goals exact ⟨rfl, rfl, rfl⟩
  rintro e a' w' ⟨rfl, rfl, rfl⟩
  have hBV : Below w.heap.size w (W3.alloc (.cells #[.int .i64 i] 3)).drew := by
    rw [← hW3]
    exact (((((Below.refl _ w).alloc (Nat.le_refl _) _).alloc (by simp) _).alloc (by simp; omega) _).alloc (by simp; omega) _).drew
  have bx0 : Boxed (W3.alloc (.cells #[.int .i64 i] 3)).drew w.heap.size 3 (.int .i64 t) := by
    show (W3.alloc _).heap[w.heap.size]? = _
    rw [← hW3, alloc_old (by simp; omega), alloc_old (by simp; omega), alloc_old (by simp)]; exact alloc_new _ _
  have bx1 : Boxed (W3.alloc (.cells #[.int .i64 i] 3)).drew (w.heap.size + 1) 3 (.int .i64 0) := by
    show (W3.alloc _).heap[w.heap.size + 1]? = _
    rw [← hW3, alloc_old (by simp), alloc_old (by simp)]
    have := alloc_new (w.alloc (.cells #[.int .i64 t] 3)) (.cells #[.int .i64 0] 3)
    simpa only [size_alloc'] using this
  have bx2 : Boxed (W3.alloc (.cells #[.int .i64 i] 3)).drew (w.heap.size + 2) 3 (.int .i64 0) := by
    show (W3.alloc _).heap[w.heap.size + 2]? = _
    rw [← hW3, alloc_old (by simp)]
    have := alloc_new ((w.alloc (.cells #[.int .i64 t] 3)).alloc (.cells #[.int .i64 0] 3)) (.cells #[.int .i64 0] 3)
    simpa only [size_alloc'] using this
  have bx3 : Boxed (W3.alloc (.cells #[.int .i64 i] 3)).drew (w.heap.size + 3) 3 (.int .i64 i) := by
    show (W3.alloc _).heap[w.heap.size + 3]? = _
    have := alloc_new W3 (.cells #[.int .i64 i] 3)
    rwa [hs3] at this
  have g0V := hBV.cell (p := ⟨x, 0, none⟩) hxl |>.trans hx1
  have gm1 := (hBV.block m1 hml).trans hm
  have hsV : w.heap.size + 4 = (W3.alloc (.cells #[.int .i64 i] 3)).drew.heap.size := by show _ = (W3.alloc _).heap.size; simp [hs3]
  clear hlk1 hlk2 g1d f3d g1a f3a g1 g0 f3 gm2
  generalize (W3.alloc (.cells #[.int .i64 i] 3)).drew = V at *
  have c3 := bx3.cell
  have hlk := ilook (w := V.drew) under123 under3 gm1 hg
  have g0V' : V.drew.cell? ⟨x, 0, none⟩ = some (.map (some m1)) := g0V
  have c3' : V.drew.cell? ⟨w.heap.size + 3, 0, none⟩ = some (.int .i64 i) := c3
  unfold whA1
  gi_wp2
  refine Go.wpIn_mono (Q := fun e a' w' => e = .normal ∧ a' = whA2 x m1 m2 q w.heap.size t i ∧ w' = (V.alloc (.cells #[.pointer (some ⟨q, 1, none⟩)] 186)).drew) ?_ ?_
  · gi_region_with (gi_at_call 75; refine (all75_in F (n - 1) h75 hro _ q 1).mono ?_; rintro e w' ⟨rfl, rfl⟩)
    all_goals first
      | exact ⟨rfl, by unfold whA2; rw [hsV], rfl⟩
      | trace_state
  rintro e a' w' ⟨rfl, rfl, rfl⟩
  have hB0 : Below w.heap.size w (V.alloc (.cells #[.pointer (some ⟨q, 1, none⟩)] 186)).drew := (hBV.alloc (by omega) _).drew
  have hcB : (V.alloc (.cells #[.pointer (some ⟨q, 1, none⟩)] 186)).drew.cell? ⟨w.heap.size + 4, 0, none⟩ = some (.pointer (some ⟨q, 1, none⟩)) := by
    show (V.alloc _).cell? _ = _
    rw [hsV, cell_of_blk (alloc_new V _)]
    rfl
  have hsZ : (V.alloc (.cells #[.pointer (some ⟨q, 1, none⟩)] 186)).drew.heap.size = w.heap.size + 5 := by show (V.alloc _).heap.size = _; simp; omega
  have hk : ∀ {B : Nat} {T : TypeId} {u : Value}, Boxed V B T u → Boxed (V.alloc (.cells #[.pointer (some ⟨q, 1, none⟩)] 186)).drew B T u := fun hb => by
    show (V.alloc _).heap[_]? = _
    rw [alloc_old (blk_lt hb)]; exact hb
  have b0 := hk bx0
  have b1 := hk bx1
  have b2 := hk bx2
  have b3 := hk bx3
  clear bx0 bx1 bx2 bx3 hk hBV c3 hlk g0V g0V' c3' gm1 hsV hs3 hU3
  generalize (V.alloc (.cells #[.pointer (some ⟨q, 1, none⟩)] 186)).drew = Z at *
  unfold whA2
  gi_wp2
  refine wpIn_rangeFunc_ownH hro h1 (gf := 118) (lb := #[.pointer (some ⟨w.heap.size + 4, 0, none⟩)]) rfl h118 (enters_of Try.func118 (by kernel_rfl) rfl)
    (all118_stops F (n - 1) h118 hro (by omega) (w.heap.size + 4) w.heap.size q 1 zs (by omega) _ (by omega) (by omega) hcB (hL.below hB0))
    belowK_t (belowK_b (by omega)) (Below.refl _ _) (fun _ => rfl)
    (fun pre W => (∀ p ∈ pre, p.th ≠ t) ∧ Boxed W w.heap.size 3 (.int .i64 t) ∧ Boxed W (w.heap.size + 1) 3 (.int .i64 0) ∧ Boxed W (w.heap.size + 2) 3 (.int .i64 0) ∧ Boxed W (w.heap.size + 3) 3 (.int .i64 i) ∧ Below w.heap.size w W)
    (fun c pre W => (c = .ret ∧ ∃ ini last, pre = ini ++ [last] ∧ (∀ p ∈ ini, p.th ≠ t) ∧ last.th = t) ∧ Boxed W (w.heap.size + 1) 3 (.int .i64 i) ∧ Boxed W (w.heap.size + 2) 3 (.int .i64 (pre.getLast?.getD wt0).how) ∧ Below w.heap.size w W)
    ((ownFrom_pure _ _).and (((boxed_own _ _ _).from _).and (((boxed_own _ _ _).from _).and (((boxed_own _ _ _).from _).and (((boxed_own _ _ _).from _).and (ownFrom_below (Nat.le_refl _) (by omega)))))))
    (fun c => (ownFrom_pure _ _).and (((boxed_own _ _ _).from _).and (((boxed_own _ _ (fun pre : List Wt => .int .i64 (pre.getLast?.getD wt0).how)).from _).and (ownFrom_below (Nat.le_refl _) (by omega)))))
    ⟨by simp, b0, b1, b2, b3, hB0⟩
    (fun wx a' W => ∃ b, True ∧ a' = whA3 x m1 m2 q w.heap.size t i b wx ∧ W.heap[b]? = some (.cells (wtCells wx).toArray 135 (0, 0)))
    (fun wx a' _ X Y row hs hg hr => by
      obtain ⟨b, h1, h2, h3⟩ := hs
      refine ⟨b, h1, h2, (hg.block b (blk_lt h3) fun e => ?_).trans h3⟩
      obtain ⟨_, o, ho, hc⟩ := hr b e.symm
      rw [h3] at ho
      cases ho
      cases hc) ?assign ?body ?done ?stop
  case assign =>
    rintro l pre wx W K ⟨hp, d0, d1, d2, d3, hB⟩ hK
    have hsz := hB.size
    simp only [wtV, wtCells]
    gi_wp2
    have hk : ∀ {B : Nat} {T : TypeId} {u : Value}, Boxed W B T u → Boxed (W.alloc (.cells (wtCells wx).toArray 135)) B T u := fun hb => (alloc_old (blk_lt hb) _).trans hb
    exact hK (whA3 x m1 m2 q w.heap.size t i W.heap.size wx) (W.alloc (.cells (wtCells wx).toArray 135)) ((KeepsOthers.alloc W _).from _) ((Below.refl _ W).alloc hsz _) ⟨hp, hk d0, hk d1, hk d2, hk d3, hB.alloc hsz _⟩ ⟨W.heap.size, trivial, rfl, alloc_new _ _⟩
  case body =>
    rintro l pre wx a' W _ _ ⟨hp, d0, d1, d2, d3, hB⟩ ⟨b, hb, rfl, hbx⟩ hlt
    have hc0 := d0.cell
    have hc1 := d1.cell
    have hc2 := d2.cell
    have hc3 := d3.cell
    have hf1 := d1.frozen
    have hf2 := d2.frozen
    have hcb : W.cell? ⟨b, 0, none⟩ = some (.int .i64 wx.th) := by rw [cell_of_blk hbx]; rfl
    have hcb1 : W.cell? ⟨b, 1, none⟩ = some (.int .i64 wx.how) := by rw [cell_of_blk hbx]; rfl
    unfold whA3
    by_cases ht : wx.th = t
    · gi_wp2
      refine Go.wpIn_mono (Q := fun e a' w' => e = .normal ∧ w' = ((W.setCell ⟨w.heap.size + 1, 0, none⟩ (.int .i64 i)).setCell ⟨w.heap.size + 1 + 1, 0, none⟩ (.int .i64 wx.how)).drew) ?_ ?_
      · gi_region_with (fail)
        all_goals exact ⟨rfl, rfl⟩
      rintro e a' w' ⟨rfl, rfl⟩
      gi_wp2
      refine ⟨(((KeepsOthers.setCell W _ _).trans (KeepsOthers.setCell _ _ _)).trans (KeepsOthers.drew _)).from _, ⟨rfl, pre, wx, rfl, hp, ht⟩, ?_, ?_, ((hB.setCell (p := ⟨w.heap.size + 1, 0, none⟩) (by simp) _).setCell (p := ⟨w.heap.size + 1 + 1, 0, none⟩) (by simp; omega) _).drew⟩
      · exact (boxed_set d1 _).other (by omega) _
      · simp only [List.getLast?_append, List.getLast?_singleton, Option.some_or, Option.getD_some]
        exact boxed_set (d2.other (by omega) _) _
    · gi_wp2
      exact ⟨KeepsFrom.refl _ _, Below.refl _ _, ⟨fun p hp' => (List.mem_append.1 hp').elim (hp p) (fun e => by simp at e; subst e; exact ht), d0, d1, d2, d3, hB⟩⟩
  case done =>
    rintro D ys W hD rfl ⟨hp, d0, d1, d2, d3, hB⟩ hK
    have hc1 := d1.cell
    have hc2 := d2.cell
    have hf1 := d1.frozen
    have hf2 := d2.frozen
    gi_wp2
    have hK' := ((KeepsOthers.setCell W ⟨w.heap.size + 1, 0, none⟩ (.int .i64 (-1))).trans (KeepsOthers.setCell _ ⟨w.heap.size + 1 + 1, 0, none⟩ (.int .i64 0))).same D _ hK rfl
    have k1 := (boxed_put ((boxed_set d1 (.int .i64 (-1))).other (B' := w.heap.size + 1 + 1) (by omega) (.int .i64 0)) (D := D) (by omega) (.deferred none)).cell
    have k2 := (boxed_put (boxed_set (d2.other (B' := w.heap.size + 1) (by omega) (.int .i64 (-1))) (.int .i64 0)) (D := D) (by omega) (.deferred none)).cell
    refine ⟨by simp, .inl ⟨_, _, rfl, run_takeDeferred hK', ?_⟩⟩
    refine ⟨.tuple #[.int .i64 (-1), .int .i64 0], ?_, ⟨wt0, .inr ⟨?_, rfl⟩⟩, (((hB.setCell (p := ⟨w.heap.size + 1, 0, none⟩) (by simp) _).setCell (p := ⟨w.heap.size + 1 + 1, 0, none⟩) (by simp; omega) _)).trans (belowK_b (w := w) (Nat.le_refl _) _ D _ _ (by omega) hK' rfl rfl)⟩
    · simp [results, Try.f72, go_sem, k1, k2]
    · rw [List.find?_eq_none]
      intro p hp2
      simpa using hp p hp2
  case stop =>
    rintro D c pre W hD ⟨tl, hpre⟩ ⟨⟨rfl, ini, last, e1, e2, e3⟩, d1, d2, hB⟩ hK
    gi_wp2
    have k1 := (boxed_put d1 (D := D) (by omega) (.deferred none)).cell
    have k2 := (boxed_put d2 (D := D) (by omega) (.deferred none)).cell
    refine ⟨by simp, .inl ⟨_, _, rfl, run_takeDeferred hK, ?_⟩⟩
    refine ⟨.tuple #[.int .i64 i, .int .i64 last.how], ?_, ⟨last, .inl ⟨?_, rfl⟩⟩, hB.trans (belowK_b (w := w) (Nat.le_refl _) W D _ _ (by omega) hK rfl rfl)⟩
    · subst e1
      simp only [List.getLast?_append, List.getLast?_singleton, Option.some_or, Option.getD_some] at k2
      simp [results, Try.f72, go_sem, k1, k2]
    · rw [← hpre, e1, List.append_assoc, List.find?_append]
      have : ini.find? (fun w => w.th == t) = none := by
        rw [List.find?_eq_none]
        intro p hp2
        simpa using e2 p hp2
      rw [this]
      simp [e3]
end Go.Proofs.Ytaniphdbebdhhaa.Ipc
