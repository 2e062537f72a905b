/-
  Contracts of a line of waiters: Push, Pop, Drop. No condition.
-/
import Derived.Test.YtaniphdbebdhhaaIp3
namespace Go.Proofs.Ytaniphdbebdhhaa.Ipc
open Go.Vk Vk.Ipc

theorem lt_of_get {cs : Array Value} {o : Nat} {v : Value} (h : cs[o]? = some v) : o < cs.size := by
  rcases Nat.lt_or_ge o cs.size with h1 | h1
  · exact h1
  · rw [Array.getElem?_eq_none h1] at h; cases h

theorem drop112 {w : World} {b : Nat} {t : Int} {Tb : TypeId} {fr : Nat × Nat} (hb : w.heap[b]? = some (.cells #[.int .i64 t] Tb fr)) {x o : Nat} {cs : Array Value} {T : TypeId} (hx : w.heap[x]? = some (.cells cs T (0, 0)))
    {v : Value} {xs : List Wt} (hv : w.ownsRow 0 135 8 v xs.length (xs.flatMap wtCells)) (ho : cs[o]? = some v) (hvb : v.ownBlock ≠ some b) (hvx : v.ownBlock ≠ some x) :
    Calls Try.prog 112 #[.pointer (some ⟨x, o, none⟩), .func (.func 113) #[] #[.pointer (some ⟨b, 0, none⟩)]] w fun en w' => en = .returned (.tuple #[]) ∧ ∃ v',
      w'.heap[x]? = some (.cells (cs.setIfInBounds o v') T (0, 0)) ∧ w'.ownsRow 0 135 8 v' (others t xs).length ((others t xs).flatMap wtCells) ∧ Upd (fun c => v.ownBlock = some c ∨ c = x) w w' ∧ v'.ownBlock = v.ownBlock := by
  have hos := lt_of_get ho
  apply vk112
  simp [vc112, hx, ho]
  refine callK_of (delete133 hb hv hvb) ?_
  rintro e w2 ⟨v', rfl, h1, h2, h3⟩
  refine ⟨_, rfl, ?_⟩
  have hx2 : w2.heap[x]? = some (.cells cs T (0, 0)) := by rw [h2.old x (blk_lt hx) hvx]; exact hx
  simp [hx2, hos, row_one h1]
  refine ⟨v', putB_same (blk_lt hx2) _, row_keep h1 fun g hg => putB_other (fun e => hvx (by rw [← h3, hg, e])) _, Upd.putB (h2.mono fun c hc => .inl hc) (.inr (.inr rfl)) _, h3⟩

theorem opK_slice2 {P : Program} {T e z : Nat} {i : TypeInfo} (hT : P.underlying T = some (.slice e)) (hi : P.info? e = some i) (hsz : i.size = z) {g n cap : Nat} {k k2 : IntKind} {lo h : Int} (h0 : 0 ≤ lo) (h1 : lo ≤ h) (h2 : h ≤ cap) (hc : cap ≠ lo.toNat) {ty : TypeId} {w : World} {K : Value → World → Prop}
    (hk : K (.slice (some ⟨g, lo.toNat * z, none⟩) (h.toNat - lo.toNat) (cap - lo.toNat)) w) : opK P (.slice T (.const (.slice (some ⟨g, 0, none⟩) n cap)) (some (.const (.int k lo))) (some (.const (.int k2 h))) none) ty w K := by
  subst hsz
  have h3 : 0 ≤ h := by omega
  show runK P K _
  have : (execOp bare { dst := none, op := .slice T (.const (.slice (some ⟨g, 0, none⟩) n cap)) (some (.const (.int k lo))) (some (.const (.int k2 h))) none, type := ty, pos := "", after := #[], guard := none }).run P w = .ok (.value (.slice (some ⟨g, lo.toNat * i.size, none⟩) (h.toNat - lo.toNat) (cap - lo.toNat))) w := by
    simp [execOp, bare, Act.eval, Instr.sliceAt, Instr.slice, underlying, hT, Instr.sliceBounds, Instr.sliceBound, asIntOf, h0, h2, h3, sizeOf, typeInfo, hi, hc, add_off]
    intro hh
    omega
  rw [this]
  exact hk

set_option maxRecDepth 100000 in
/-- slices.Delete of the first one. -/
theorem delete130 {w : World} {v : Value} {a : Wt} {l : List Wt} (hv : w.ownsRow 0 135 8 v (a :: l).length ((a :: l).flatMap wtCells)) :
    Calls Try.prog 130 #[v, .int .i64 0, .int .i64 1] w fun en w' => ∃ v', en = .returned v' ∧ w'.ownsRow 0 135 8 v' l.length (l.flatMap wtCells) ∧ Upd (fun c => v.ownBlock = some c) w w' ∧ v'.ownBlock = v.ownBlock := by
  apply vk130
  unfold vc130
  rcases row_open hv with ⟨_, h0, _⟩ | ⟨g, cap, rest, rfl, hg, hn, hm, hs, hl⟩
  · simp at h0
  obtain ⟨inf, hi1, hi2, hi3, hi4⟩ := wt_info
  have hlen : (a :: l).length = l.length + 1 := rfl
  rw [hlen] at hn
  generalize hcs : (a :: l).flatMap wtCells ++ rest = cs at *
  have hcw : cs.length = cap * 8 := hs
  have hll := flat_len wt_len l
  have hdr : cs = wtCells a ++ (l.flatMap wtCells ++ rest) := by rw [← hcs]; simp
  simp only [opK_len_128]
  refine opK_slice3 Try.underlying128 hi1 (by omega) (by omega) (by omega) (by omega) ?_
  intro v0
  simp
  rw [stK_sl_lo_128 _ _ _ _ _ (by omega) (by omega)]
  simp only [Int.toNat_one]
  refine opK_append_room (z := 8) (w := w.drew) (cs := cs.toArray) Try.underlying128 hi1 hi3 hg (news := l.flatMap wtCells) (by rw [hll]; simp) ?_ (wt_ones l) (by omega) (by simp [hll]; omega) ?_
  · intro j u hu
    have hj : j < l.length * 8 := by
      have := (List.getElem?_eq_some_iff.1 hu).1
      omega
    split
    · rename_i e; omega
    rw [add_off]
    show World.cell? w _ = _
    rw [cell_of_blk hg, List.getElem?_toArray, hdr, List.getElem?_append_right (by rw [wt_len]; omega), wt_len, List.getElem?_append_left (by rw [hll]; omega), ← hu]
    congr 1
    omega
  simp only [Nat.zero_add, Nat.add_sub_cancel, opK_len_128]
  refine opK_slice2 Try.underlying128 hi1 hi3 (by omega) (by omega) (by omega) (by omega) ?_
  have hgl := blk_lt hg
  refine opK_clearN (z := 8) (w := putB w.drew g _) Try.underlying128 hi1 hi2 (by rfl) (by rfl) (putB_same hgl _) (by simp [hll]; omega) ?_
  intro cs' hs' hc'
  rw [putB_putB]
  refine ⟨?_, Upd.putB (F := fun c => (Value.slice (some ⟨g, 0, none⟩) (l.length + 1) cap).ownBlock = some c) (Upd.refl _ w).drew (.inr rfl) _, rfl⟩
  have htk : cs'.toList.take (l.length * 8) = l.flatMap wtCells := by
    apply List.ext_getElem?
    intro q
    rw [List.getElem?_take]
    by_cases hq : q < l.length * 8
    · rw [if_pos hq, Array.getElem?_toList, hc' q (by simpa using hq)]
      simp only [Nat.zero_mul, List.take_zero, List.nil_append, List.getElem?_toArray]
      rw [List.getElem?_append_left (by omega)]
    · rw [if_neg hq, List.getElem?_eq_none (by omega)]
  have hsz : cs'.size = cap * 8 := by rw [hs']; simp [hll]; omega
  refine row_shut (rest := cs'.toList.drop (l.length * 8)) ?_ (by omega) hm ?_ hll
  · rw [← htk, List.take_append_drop]
    exact putB_same hgl _
  · rw [← htk, List.take_append_drop]
    simp [hsz]

theorem bs128 (x : Wt) (ty : TypeId) (w : World) (K : Value → World → Prop) :
    opK Try.prog (.buildSlice 128 1 #[(0, .const (wtV x))]) ty w K = K (.slice (some ⟨w.heap.size, 0, none⟩) 1 1) (w.alloc (.cells (wtCells x).toArray 135)) := opK_of (by kernel_rfl) rfl

set_option maxRecDepth 100000 in
theorem push132 {w : World} {x o : Nat} {cs : Array Value} {T : TypeId} (hx : w.heap[x]? = some (.cells cs T (0, 0)))
    {v : Value} {xs : List Wt} (hv : w.ownsRow 0 135 8 v xs.length (xs.flatMap wtCells)) (ho : cs[o]? = some v) (hvx : v.ownBlock ≠ some x) (hsmall : xs.length < 1000000000) (a : Wt) :
    Calls Try.prog 132 #[.pointer (some ⟨x, o, none⟩), wtV a] w fun en w' => en = .returned (.tuple #[]) ∧ ∃ v',
      w'.heap[x]? = some (.cells (cs.setIfInBounds o v') T (0, 0)) ∧ w'.ownsRow 0 135 8 v' (xs ++ [a]).length ((xs ++ [a]).flatMap wtCells) ∧ Upd (fun c => v.ownBlock = some c ∨ c = x) w w' ∧ (∀ b, v'.ownBlock = some b → v.ownBlock = some b ∨ w.heap.size ≤ b) := by
  have hos := lt_of_get ho
  obtain ⟨inf, hi1, hi2, hi3, hi4⟩ := wt_info
  apply vk132
  unfold vc132
  have hxl := blk_lt hx
  have hx1 : (w.alloc (.cells (wtCells a).toArray 135)).heap[x]? = some (.cells cs T (0, 0)) := (alloc_old hxl _).trans hx
  have hx2 : ((w.alloc (.cells (wtCells a).toArray 135)).drew.alloc (.cells (wtCells a).toArray 135)).heap[x]? = some (.cells cs T (0, 0)) := (alloc_old (by simp; omega) _).trans hx1
  have h0 : (w.alloc (.cells (wtCells a).toArray 135)).heap[w.heap.size]? = some (.cells (wtCells a).toArray 135 (0, 0)) := alloc_new _ _
  have rd := readN_full (wtCells a) (wt_len a)
  simp only [opK_box, wtV_cells]
  simp [hx1, ho, rd]
  rw [show Value.agg (wtCells a).toArray = wtV a from rfl, bs128]
  simp [hx2, ho]
  have hv1 : ((w.alloc (.cells (wtCells a).toArray 135)).drew.alloc (.cells (wtCells a).toArray 135)).ownsRow 0 135 8 v xs.length (xs.flatMap wtCells) := row_keep hv fun g hg => by
    have := row_lt hv hg
    rw [alloc_old (by simp; omega)]
    exact alloc_old this _
  have hnb : ((w.alloc (.cells (wtCells a).toArray 135)).drew.alloc (.cells (wtCells a).toArray 135)).heap[w.heap.size + 1]? = some (.cells (wtCells a).toArray 135 (0, 0)) := by
    rw [show w.heap.size + 1 = (w.alloc (.cells (wtCells a).toArray 135)).drew.heap.size by simp]
    exact alloc_new _ _
  refine opK_append1 (z := 8) Try.underlying128 hi1 hi2 hi3 hi4 (by rfl) (by omega) hv1 hnb (m := 1) (by simp [wt_len]) (fun u hu => (List.all_eq_true.1 (wt_one a)) u (by simpa using hu)) (by simp [maxLen]; omega) (by omega) ?_
  intro v' w2 h1 h2 h3
  have hx3 : w2.heap[x]? = some (.cells cs T (0, 0)) := by
    rw [h2.block x (by simp; omega) (fun e => hvx e.symm)]; exact hx2
  have hne : ∀ g, v'.ownBlock = some g → g ≠ x := fun g hg e => by
    subst e
    rcases h3 g hg with h | h
    · exact hvx h
    · simp at h; omega
  simp [hx3, hos, row_one h1]
  refine ⟨v', putB_same (blk_lt hx3) _, row_keep (by simpa using h1) fun g hg => putB_other (hne g hg) _, ?_, fun b hb => ?_⟩
  · refine Upd.putB ?_ (.inr (.inr rfl)) _
    exact (((Upd.refl _ w).alloc _).drew.alloc _).trans (Upd.grown (F := fun c => v.ownBlock = some c ∨ c = x) h2 (fun k hk => .inl hk)) fun _ _ h => h
  · rcases h3 b hb with h | h
    · exact .inl h
    · simp at h; exact .inr (by omega)

theorem alloc_get1 (w : World) (o o2 : Obj) (h) : ((w.alloc o).alloc o2).heap[w.heap.size + 1]'h = o2 := by
  have := alloc_new (w.alloc o) o2
  rw [show (w.alloc o).heap.size = w.heap.size + 1 by simp, Array.getElem?_eq_getElem h] at this
  exact Option.some.inj this

set_option maxRecDepth 100000 in
theorem pop102 {w : World} {x o : Nat} {cs : Array Value} {T : TypeId} (hx : w.heap[x]? = some (.cells cs T (0, 0)))
    {v : Value} {a : Wt} {l : List Wt} (hv : w.ownsRow 0 135 8 v (a :: l).length ((a :: l).flatMap wtCells)) (ho : cs[o]? = some v) (hvx : v.ownBlock ≠ some x) :
    Calls Try.prog 102 #[.pointer (some ⟨x, o, none⟩)] w fun en w' => en = .returned (wtV a) ∧ ∃ v',
      w'.heap[x]? = some (.cells (cs.setIfInBounds o v') T (0, 0)) ∧ w'.ownsRow 0 135 8 v' l.length (l.flatMap wtCells) ∧ Upd (fun c => v.ownBlock = some c ∨ c = x) w w' ∧ v'.ownBlock = v.ownBlock := by
  have hos := lt_of_get ho
  apply vk102
  unfold vc102
  rcases row_open hv with ⟨_, h0, _⟩ | ⟨g, cap, rest, hve, hg, _⟩
  · simp at h0
  subst hve
  have rd := flat_read wt_len (a :: l) rest 0 (by simp)
  simp only [Nat.zero_mul, List.getElem_cons_zero] at rd
  have hxl := blk_lt hx
  have hgl := blk_lt hg
  -- the world with its two new variables
  generalize hW : (putB ((w.alloc (.cells zero135 135)).alloc (.cells zero135 135)) (w.heap.size + 1) (.cells (wtCells a).toArray 135 (0, 0))) = W
  have hWo : ∀ b, b < w.heap.size → W.heap[b]? = w.heap[b]? := fun b hb => by
    rw [← hW, putB_other (by omega), alloc_old (by simp; omega), alloc_old hb]
  have hWu : Upd (fun c => (Value.slice (some ⟨g, 0, none⟩) (a :: l).length cap).ownBlock = some c ∨ c = x) w W := by
    rw [← hW]
    exact (((Upd.refl _ w).alloc _).alloc _).putB (.inl (by omega)) _
  have hWs : W.heap.size = w.heap.size + 2 := by rw [← hW]; simp
  have hW0 : W.heap[w.heap.size]? = some (.cells zero135 135 (0, 0)) := by
    rw [← hW, putB_other (by omega), alloc_old (by simp)]; exact alloc_new _ _
  have hW1 : W.heap[w.heap.size + 1]? = some (.cells (wtCells a).toArray 135 (0, 0)) := by
    rw [← hW]; exact putB_same (by simp) _
  have hx1 : (w.alloc (.cells zero135 135)).heap[x]? = some (.cells cs T (0, 0)) := (alloc_old hxl _).trans hx
  have hg1 : (w.alloc (.cells zero135 135)).heap[g]? = some (.cells ((a :: l).flatMap wtCells ++ rest).toArray 135 (0, 0)) := (alloc_old hgl _).trans hg
  have hpos : (0 : Int) < ((a :: l).length : Nat) := by simp
  have hxW := (hWo x hxl).trans hx
  generalize ((a :: l).flatMap wtCells ++ rest).toArray = cs2 at hg1 rd
  simp [hx1, ho, -List.length_cons]
  rw [opK_ix_128 _ _ _ _ _ _ (Int.le_refl 0) hpos]
  have hwz := writeN_full zero135 (wtCells a) (by rw [z135]; rfl)
  simp [hg1, rd, alloc_get1, hwz, -List.length_cons]
  refine ⟨wt_len _, by rw [z135]; exact Nat.le_refl _, fun u hu => (List.all_eq_true.1 (wt_one _)) u hu, ?_⟩
  simp only [hW]
  simp [hxW, ho, -List.length_cons]
  have hvW : W.ownsRow 0 135 8 (.slice (some ⟨g, 0, none⟩) (a :: l).length cap) (a :: l).length ((a :: l).flatMap wtCells) := row_keep hv fun k hk => by simp [Value.ownBlock] at hk; subst hk; exact hWo _ hgl
  refine callK_of (delete130 hvW) ?_
  rintro e w3 ⟨v', rfl, h1, h2, h3⟩
  refine ⟨_, rfl, ?_⟩
  have hold : ∀ b, b < W.heap.size → b ≠ g → w3.heap[b]? = W.heap[b]? := fun b hb hbg => h2.old b hb fun h => by simp [Value.ownBlock] at h; exact hbg h.symm
  have hgx : g ≠ x := fun e => hvx (by rw [e]; rfl)
  have hx3 := (hold x (by omega) hgx.symm).trans hxW
  have h03 := (hold w.heap.size (by omega) (by omega)).trans hW0
  have h13 := (hold (w.heap.size + 1) (by omega) (by omega)).trans hW1
  have rda := readN_full (wtCells a) (wt_len a)
  have hs3 := h2.size
  have hA : ∀ o, (putB w3 x o).heap[w.heap.size]? = some (.cells zero135 135 (0, 0)) := fun o => (putB_other (by omega) _).trans h03
  have hB : ∀ o, (putB w3 x o).heap[w.heap.size + 1]? = some (.cells (wtCells a).toArray 135 (0, 0)) := fun o => (putB_other (by omega) _).trans h13
  simp [hx3, hos, row_one h1, hB, rda, hA]
  refine exitO135 (hA _) z135 ⟨rfl, v', ?_, ?_, ?_, h3⟩
  · rw [putB_other (by omega)]; exact putB_same (blk_lt hx3) _
  · refine row_keep h1 fun k hk => ?_
    rw [h3] at hk
    simp [Value.ownBlock] at hk
    subst hk
    rw [putB_other (by omega), putB_other hgx]
  · refine Upd.putB (Upd.putB (hWu.trans h2 fun c _ hc => .inl hc) (.inr (.inr rfl)) _) (.inl (Nat.le_refl _)) _
end Go.Proofs.Ytaniphdbebdhhaa.Ipc
