/-
  Contracts of the lines of waiters (fifo.Line[waiter]) and of slices.Delete, IndexFunc, DeleteFunc over them. No condition.
-/
import Derived.Test.YtaniphdbebdhhaaIp2
namespace Go.Proofs.Ytaniphdbebdhhaa.Ipc
open Go.Vk Vk.Ipc

theorem wt_info : ∃ i, Try.prog.info? 135 = some i ∧ i.zero = some (wtV ⟨0, 0, .zero⟩) ∧ i.size = 8 ∧ i.bytes = 40 := by
  have h : (Try.prog.info? 135).map (fun i => (i.zero, i.size, i.bytes)) = some (some (wtV ⟨0, 0, .zero⟩), 8, 40) := by kernel_rfl
  cases hi : Try.prog.info? 135 with
  | none => rw [hi] at h; cases h
  | some i => rw [hi] at h; simp at h; exact ⟨i, rfl, h.1, h.2.1, h.2.2⟩

theorem wt_ones (L : List Wt) : ∀ u ∈ L.flatMap wtCells, u.oneCell' = true := fun u hu => by
  obtain ⟨e, _, he⟩ := List.mem_flatMap.1 hu
  exact (List.all_eq_true.1 (wt_one e)) u he

theorem wt_get0 (x : Wt) : (wtCells x).toArray[0]? = some (.int .i64 x.th) := rfl

/-! ### Is it this one? -/
theorem same113 {w : World} {b : Nat} {t : Int} {x : Wt} {T : TypeId} {fr : Nat × Nat} (hb : w.heap[b]? = some (.cells #[.int .i64 t] T fr)) :
    Calls Try.prog 113 #[wtV x, .pointer (some ⟨b, 0, none⟩)] w fun en w' => en = .returned (.bool (x.th == t)) ∧ Upd (fun _ => False) w w' := by
  apply vk113
  unfold vc113
  have h1 := alloc_new w (.cells (wtCells x).toArray 135)
  have hb' : (w.alloc (.cells (wtCells x).toArray 135)).heap[b]? = some (.cells #[.int .i64 t] T fr) := (alloc_old (blk_lt hb) _).trans hb
  have hg := wt_get0 x
  simp only [opK_box, wtV_cells]
  generalize (wtCells x).toArray = cs at *
  simp [hb', hg]
  exact (Upd.refl _ w).alloc _

theorem enters113 : enters Try.prog 113 = true := by kernel_rfl
theorem opK_same113 (p x : Value) (ts : Array TypeId) (ty : TypeId) (w : World) (K : Value → World → Prop) :
    opK Try.prog (.call ⟨.value (.const (.func (.func 113) #[] #[p])), #[.const x], ts⟩) ty w K = callK Try.prog 113 #[x, p] w K := by
  rw [opK_callv enters113]
  simp [bare, Act.eval]

def ths (l : List Wt) : List Int := l.map (·.th)

set_option maxRecDepth 100000 in
theorem index137 {w : World} {b : Nat} {t : Int} {Tb : TypeId} {fr : Nat × Nat} (hb : w.heap[b]? = some (.cells #[.int .i64 t] Tb fr)) {g : Nat} {xs : List Wt} {rest : List Value} {n cap : Nat} {fr2 : Nat × Nat}
    (hg : w.heap[g]? = some (.cells (xs.flatMap wtCells ++ rest).toArray 135 fr2)) (hn : xs.length = n) (hsmall : n ≤ 9223372036854775807) :
    Calls Try.prog 137 #[.slice (some ⟨g, 0, none⟩) n cap, .func (.func 113) #[] #[.pointer (some ⟨b, 0, none⟩)]] w fun en w' => en = .returned (.int .i64 (firstAt t (ths xs))) ∧ Upd (fun _ => False) w w' := by
  apply vk137
  simp only [vc137, opK_len_128]
  have hbl := blk_lt hb
  have hgl := blk_lt hg
  refine loopK1 (fun m v w' => Upd (fun _ => False) w w' ∧ ∃ i : Nat, v = .int .i64 i ∧ i ≤ n ∧ m = n - i ∧ t ∉ (ths xs).take i) n ⟨Upd.refl _ _, 0, rfl, by omega, by omega, by simp⟩ ?_
  rintro m v w' ⟨hu, i, rfl, hi, rfl, hno⟩
  by_cases hlt : i < n
  · have hg' := (hu.old g hgl fun f => f).trans hg
    have hb' := (hu.old b hbl fun f => f).trans hb
    have rd := flat_read wt_len xs rest i (by omega)
    generalize (xs.flatMap wtCells ++ rest).toArray = cs at hg' rd
    simp [hlt, hg', rd]
    rw [show Value.agg (wtCells xs[i]).toArray = wtV xs[i] from rfl, opK_same113]
    refine callK_of (same113 hb') ?_
    rintro e w2 ⟨rfl, hu2⟩
    refine ⟨_, rfl, ?_⟩
    have hu3 := hu.trans hu2 fun _ _ f => f
    have hti : (ths xs)[i]? = some xs[i].th := by unfold ths; rw [List.getElem?_map, List.getElem?_eq_getElem (by omega)]; rfl
    by_cases he : xs[i].th = t
    · simp [he]
      exact ⟨(firstAt_eq t (ths xs) i (by rw [hti, he]) hno).symm, hu3⟩
    · have hw : IntKind.i64.wrap ((i : Int) + 1) = ((i + 1 : Nat) : Int) := by rw [wrap_i64 (by omega) (by omega)]; rfl
      simp [he, hw]
      have hil : i < (ths xs).length := by simp [ths]; omega
      refine ⟨n - (i + 1), by omega, hu3, i + 1, rfl, by omega, rfl, not_mem_take_succ hil hno ?_⟩
      simpa [ths] using he
  · simp [hlt]
    have : (ths xs).take i = ths xs := List.take_of_length_le (by simp [ths]; omega)
    rw [this] at hno
    rcases firstAt_spec t (ths xs) with ⟨h, _⟩ | ⟨_, _, h3, _⟩
    · exact ⟨h.symm, hu⟩
    · exact absurd (List.mem_of_getElem? h3) hno

theorem index137_nil {w : World} (f : Value) : Calls Try.prog 137 #[.slice none 0 0, f] w fun en w' => en = .returned (.int .i64 (-1)) ∧ w' = w := by
  apply vk137
  simp only [vc137, opK_len_128]
  refine loopK1 (fun _ v w' => w' = w ∧ v = .int .i64 0) 0 ⟨rfl, rfl⟩ ?_
  rintro m v w' ⟨rfl, rfl⟩
  simp

/-! ### What is left -/
def others (t : Int) (l : List Wt) : List Wt := l.filter fun x => !(x.th == t)
theorem others_self {t : Int} {xs : List Wt} (h : t ∉ ths xs) : others t xs = xs := by
  unfold others
  rw [List.filter_eq_self]
  intro x hx
  simp
  rintro rfl
  exact h (List.mem_map.2 ⟨x, hx, rfl⟩)
theorem others_take {t : Int} {xs : List Wt} {i : Nat} (h : i < xs.length) : others t (xs.take (i + 1)) = others t (xs.take i) ++ (if xs[i].th = t then [] else [xs[i]]) := by
  unfold others
  rw [List.take_succ_eq_append_getElem h, List.filter_append]
  by_cases e : xs[i].th = t <;> simp [e]
theorem flat_take (xs : List Wt) (rest : List Value) {k : Nat} (hk : k ≤ xs.length) : (xs.flatMap wtCells ++ rest).take (k * 8) = (xs.take k).flatMap wtCells := by
  have h := flat_len wt_len xs
  rw [List.take_append_of_le_length (by omega)]
  have : xs.flatMap wtCells = (xs.take k).flatMap wtCells ++ (xs.drop k).flatMap wtCells := by rw [← List.flatMap_append, List.take_append_drop]
  rw [this, List.take_left' (by rw [flat_len wt_len]; simp; omega)]
theorem flat_drop (xs : List Wt) {k : Nat} (hk : k ≤ xs.length) : (xs.drop k).flatMap wtCells = (xs.flatMap wtCells).drop (k * 8) := by
  have : xs.flatMap wtCells = (xs.take k).flatMap wtCells ++ (xs.drop k).flatMap wtCells := by rw [← List.flatMap_append, List.take_append_drop]
  rw [this, List.drop_left' (by rw [flat_len wt_len]; simp; omega)]

/-- How a round of DeleteFunc finds things. -/
def DelW (w2 : World) (g cap : Nat) (t : Int) (xs : List Wt) (rest : List Value) (m : Nat) (v5 v6 : Value) (w' : World) : Prop :=
  ∃ (i j : Nat) (cs : List Value), v5 = .int .i64 i ∧ v6 = .int .i64 j ∧ i < j ∧ j ≤ xs.length ∧ m = xs.length - j ∧ w'.heap[g]? = some (.cells cs.toArray 135 (0, 0)) ∧
    Upd (fun c => c = g) w2 w' ∧ cs.length = cap * 8 ∧ cs.take (i * 8) = (others t (xs.take j)).flatMap wtCells ∧ ∀ q, j * 8 ≤ q → cs[q]? = (xs.flatMap wtCells ++ rest)[q]?

set_option maxRecDepth 100000 in
set_option maxHeartbeats 1000000 in
theorem delete133 {w : World} {b : Nat} {t : Int} {Tb : TypeId} {fr : Nat × Nat} (hb : w.heap[b]? = some (.cells #[.int .i64 t] Tb fr)) {v : Value} {xs : List Wt}
    (hv : w.ownsRow 0 135 8 v xs.length (xs.flatMap wtCells)) (hne : v.ownBlock ≠ some b) :
    Calls Try.prog 133 #[v, .func (.func 113) #[] #[.pointer (some ⟨b, 0, none⟩)]] w fun en w' => ∃ v', en = .returned v' ∧
      w'.ownsRow 0 135 8 v' (others t xs).length ((others t xs).flatMap wtCells) ∧ Upd (fun c => v.ownBlock = some c) w w' ∧ v'.ownBlock = v.ownBlock := by
  apply vk133
  unfold vc133
  rcases row_open hv with ⟨rfl, h0, hx⟩ | ⟨g, cap, rest, rfl, hg, hn, hm, hs, hl⟩
  · have hxs : xs = [] := List.eq_nil_of_length_eq_zero h0
    subst hxs
    refine callK_of (index137_nil _) ?_
    rintro e w2 ⟨rfl, rfl⟩
    refine ⟨_, rfl, ?_⟩
    simp
    exact ⟨World.ownsRow_nil w2 0 135 8, Upd.refl _ _⟩
  have hgb : g ≠ b := fun e => hne (by rw [e]; rfl)
  have hmax : cap ≤ 9223372036854775807 := by simpa [maxLen] using hm
  refine callK_of (index137 hb hg rfl (by omega)) ?_
  rintro e w2 ⟨rfl, hu0⟩
  refine ⟨_, rfl, ?_⟩
  have hg2 := (hu0.old g (blk_lt hg) fun f => f).trans hg
  have hb2 := (hu0.old b (blk_lt hb) fun f => f).trans hb
  rcases firstAt_spec t (ths xs) with ⟨h1, h2⟩ | ⟨h1, h2, h3, h4⟩
  · simp [h1]
    rw [others_self h2]
    exact ⟨row_keep hv fun k hk => by simp [Value.ownBlock] at hk; subst hk; exact hg2.trans hg.symm, hu0.mono fun _ f => f.elim⟩
  have hmapl : (ths xs).length = xs.length := by simp [ths]
  obtain ⟨k, hk⟩ := Int.eq_ofNat_of_zero_le h1
  rw [hk] at h2 h3 h4 ⊢
  simp only [Int.toNat_natCast] at h3 h4
  have hkn : k < xs.length := by omega
  have hxk : xs[k].th = t := by
    unfold ths at h3
    rw [List.getElem?_map, List.getElem?_eq_getElem hkn] at h3
    simpa using h3
  have hw1 : IntKind.i64.wrap ((k : Int) + 1) = ((k + 1 : Nat) : Int) := by rw [wrap_i64 (by omega) (by omega)]; rfl
  have hk1 : ¬ ((k : Int) = -1) := by omega
  simp [hk1, hw1]
  have hb' : b < w2.heap.size := blk_lt hb2
  refine loopK2 (DelW w2 g cap t xs rest) (xs.length - (k + 1))
    ⟨k, k + 1, xs.flatMap wtCells ++ rest, rfl, rfl, by omega, by omega, rfl, hg2, Upd.refl _ _, hs, ?_, fun q _ => rfl⟩ ?_
  · rw [others_take hkn, if_pos hxk, List.append_nil, flat_take xs rest (by omega), others_self]
    unfold ths at h4 ⊢
    rw [← List.map_take] at h4
    exact h4
  rintro m v5 v6 w' ⟨i, j, cs, rfl, rfl, hij, hjn, rfl, hg', hu, hcl, htake, hrest⟩
  by_cases hlt : j < xs.length
  · have rd : readN cs.toArray (j * 8) 8 = some (wtCells xs[j]) := readN_of _ _ _ _ (wt_len _) fun q hq => by
      rw [List.getElem?_toArray, hrest _ (by omega), flat_get wt_len xs rest j q hlt hq]
    have hbw : w'.heap[b]? = some (.cells #[.int .i64 t] Tb fr) := by rw [hu.old b hb' (fun e => hgb e.symm)]; exact hb2
    have hwi : IntKind.i64.wrap ((i : Int) + 1) = ((i + 1 : Nat) : Int) := by rw [wrap_i64 (by omega) (by omega)]; rfl
    have hwj : IntKind.i64.wrap ((j : Int) + 1) = ((j + 1 : Nat) : Int) := by rw [wrap_i64 (by omega) (by omega)]; rfl
    have hi : i < xs.length := by omega
    have hgl' := blk_lt hg'
    simp [hlt]
    apply joinK_now
    have rdx := readN_full (wtCells xs[j]) (wt_len _)
    have hwz := writeN_full zero135 (wtCells xs[j]) (by rw [z135]; rfl)
    simp [hg', rd, hwz, rdx]
    refine ⟨wt_len _, by rw [z135]; exact Nat.le_refl _, fun u hu => (List.all_eq_true.1 (wt_one _)) u hu, ?_⟩
    have hA : ∀ o, (putB (w'.alloc (.cells zero135 135)) w'.heap.size o).heap[g]? = some (.cells cs.toArray 135 (0, 0)) := fun o => by
      rw [putB_other (by omega), alloc_old hgl']; exact hg'
    have hN : ∀ o, (putB (w'.alloc (.cells zero135 135)) w'.heap.size o).heap[w'.heap.size]? = some o := fun o => putB_same (by simp) _
    have hB : ∀ o, (putB (w'.alloc (.cells zero135 135)) w'.heap.size o).heap[b]? = some (.cells #[.int .i64 t] Tb fr) := fun o => by
      have := blk_lt hbw
      rw [putB_other (by omega), alloc_old this]; exact hbw
    have hU : ∀ o, Upd (fun c => c = g) w2 (putB (w'.alloc (.cells zero135 135)) w'.heap.size o) := fun o => (hu.alloc _).putB (.inl (by have := hu.size; omega)) _
    rw [show Value.agg (wtCells xs[j]).toArray = wtV xs[j] from rfl, opK_same113]
    refine callK_of (same113 (hB _)) ?_
    rintro e w3 ⟨rfl, hu3⟩
    refine ⟨_, rfl, ?_⟩
    have hg3 := (hu3.old g (by have := blk_lt (hA (.cells (wtCells xs[j]).toArray 135 (0, 0))); omega) fun f => f).trans (hA _)
    have hN3 := (hu3.old w'.heap.size (by simp) fun f => f).trans (hN _)
    have hU3 := (hU (.cells (wtCells xs[j]).toArray 135 (0, 0))).trans hu3 fun _ _ f => f.elim
    by_cases he : xs[j].th = t
    · simp [he, hwj]
      refine ⟨xs.length - (j + 1), by omega, i, j + 1, cs, rfl, rfl, by omega, by omega, rfl, hg3, hU3, hcl, ?_, fun q hq => hrest q (by omega)⟩
      rw [others_take hlt, if_pos he, List.append_nil]; exact htake
    · have hic : i * 8 + 8 ≤ cs.length := by omega
      have hwr := writeN_list (wtCells xs[j]) cs (i * 8) (by rw [wt_len]; omega)
      rw [wt_len] at hwr
      simp [he, hi, hN3, rdx, hg3, wt_len, hic, hwi, hwj, hwr]
      refine ⟨fun u hu => (List.all_eq_true.1 (wt_one _)) u hu, xs.length - (j + 1), by omega, i + 1, j + 1, _, rfl, rfl, by omega, by omega, rfl, putB_same (blk_lt hg3) _, hU3.putB (.inr rfl) _, ?_, ?_, fun q hq => ?_⟩
      · simp [wt_len]; omega
      · rw [others_take hlt, if_neg he, List.flatMap_append, ← htake, ← List.append_assoc, List.take_left' (by simp [wt_len]; omega)]
        simp
      · rw [← List.append_assoc, List.getElem?_append_right (by simp [wt_len]; omega), List.getElem?_drop, ← hrest q (by omega),
          show i * 8 + 8 + (q - (List.take (i * 8) cs ++ wtCells xs[j]).length) = q by simp [wt_len]; omega]
  · obtain ⟨inf, hi1, hi2, hi3, hi4⟩ := wt_info
    have hj : j = xs.length := by omega
    rw [hj, List.take_length] at htake
    have hFl : (others t xs).length = i := by
      have := congrArg List.length htake
      rw [flat_len wt_len, List.length_take] at this
      omega
    have hci : ¬ (cap = i) := by omega
    have hile : (i : Int) ≤ xs.length := by omega
    have hicap : (i : Int) ≤ cap := by omega
    have hpos : (0 : Int) ≤ i := by omega
    simp only [hlt, opK_int_lss, Int.ofNat_lt, decide_false, boolK_bool, Bool.false_eq_true, if_false]
    rw [opK_sl_lo_128 _ _ _ _ _ hpos hile]
    simp only [Int.toNat_natCast, hci, if_false]
    refine opK_clearN (z := 8) Try.underlying128 hi1 hi2 (by rfl) (by rfl) hg' (by simp; omega) ?_
    intro cs' hs' hc'
    rw [opK_sl_hi_128 _ _ _ _ _ hpos hicap]
    simp only [Int.toNat_natCast]
    have hwn : cs'.toList.take (i * 8) = cs.take (i * 8) := by
      apply List.ext_getElem?
      intro q
      rw [List.getElem?_take, List.getElem?_take]
      by_cases hq : q < i * 8
      · rw [if_pos hq, if_pos hq, Array.getElem?_toList, hc' q hq]
        simp
      · rw [if_neg hq, if_neg hq]
    have hu2 : Upd (fun c => (Value.slice (some ⟨g, 0, none⟩) xs.length cap).ownBlock = some c) w w' := (hu0.mono fun _ f => f.elim).trans hu fun c _ hc => by subst hc; rfl
    refine ⟨?_, hu2.putB (.inr rfl) _, rfl⟩
    subst hFl
    refine row_shut (rest := cs'.toList.drop ((others t xs).length * 8)) ?_ (by omega) hm ?_ (by rw [flat_len wt_len])
    · rw [← htake, ← hwn, List.take_append_drop]
      exact putB_same (blk_lt hg') _
    · rw [← htake, ← hwn, List.take_append_drop]
      simp [hs', hcl]
end Go.Proofs.Ytaniphdbebdhhaa.Ipc
