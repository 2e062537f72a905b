/-
  Contracts of a line's Drop and Push, and of the scheduler's inner functions leave, last, ready. No condition.
-/
import Derived.Test.YtaniphdbebdhhaaSc2
namespace Go.Proofs.Ytaniphdbebdhhaa
open Go.Vk Vk.Sched

@[simp] theorem cells_int' (k : IntKind) (x : Int) : (Value.int k x).cells = #[.int k x] := rfl
theorem row_one {w : World} {e z n : Nat} {v : Value} {xs : List Value} (h : w.ownsRow 0 e z v n xs) : v.oneCell' = true := by
  rcases row_open h with ⟨rfl, _⟩ | ⟨g, cap, rest, rfl, _⟩ <;> rfl
theorem row_slice {w : World} {e z n : Nat} {v : Value} {xs : List Value} (h : w.ownsRow 0 e z v n xs) : ∃ a c, v = .slice a n c := by
  rcases row_open h with ⟨rfl, rfl, _⟩ | ⟨g, cap, rest, rfl, _⟩
  · exact ⟨_, _, rfl⟩
  · exact ⟨_, _, rfl⟩

theorem queue_calls {w : World} {x e : Nat} {en : Ent} (he : w.heap[e]? = some (entryO en)) (hb : 0 ≤ en.dom ∧ en.dom < 8 ∧ 0 ≤ en.prio ∧ en.prio < 8) :
    Calls Try.prog 94 #[.pointer (some ⟨x, 0, none⟩), .pointer (some ⟨e, 0, none⟩)] w fun r w' => r = .returned (.pointer (some ⟨x, 4 + en.dom.toNat * 8 + en.prio.toNat, none⟩)) ∧ w' = w.drew := by
  unfold entryO at he
  apply vk94
  simp [vc94, he, hb]

theorem drop_calls {w : World} {b : Nat} {t : Int} {Tb : TypeId} {fr : Nat × Nat} (hb : w.heap[b]? = some (.cells #[.int .i64 t] Tb fr)) {x o : Nat} {cs : Array Value} {T : TypeId} (hx : w.heap[x]? = some (.cells cs T (0, 0)))
    {v : Value} {xs : List Int} (hv : w.ownsRow 0 3 1 v xs.length (nums xs)) (ho : cs[o]? = some v) (hvb : v.ownBlock ≠ some b) (hvx : v.ownBlock ≠ some x) :
    Calls Try.prog 126 #[.pointer (some ⟨x, o, none⟩), .func (.func 127) #[] #[.pointer (some ⟨b, 0, none⟩)]] w fun en w' => en = .returned (.tuple #[]) ∧ ∃ v',
      w'.heap[x]? = some (.cells (cs.setIfInBounds o v') T (0, 0)) ∧ w'.ownsRow 0 3 1 v' (without t xs).length (nums (without t xs)) ∧ Upd (fun c => v.ownBlock = some c ∨ c = x) w w' ∧ v'.ownBlock = v.ownBlock := by
  have hos : o < cs.size := by
    rcases Nat.lt_or_ge o cs.size with h | h
    · exact h
    · rw [Array.getElem?_eq_none h] at ho; cases ho
  apply vk126
  simp [vc126, hx, ho]
  refine callK_of (delete_calls hb hv hvb) ?_
  rintro e w2 ⟨v', rfl, h1, h2, h3⟩
  refine ⟨_, rfl, ?_⟩
  have hx2 : w2.heap[x]? = some (.cells cs T (0, 0)) := by rw [h2.old x (blk_lt hx) hvx]; exact hx
  simp [hx2, hos, row_one h1]
  refine ⟨v', putB_same (blk_lt hx2) _, row_keep h1 fun g hg => putB_other (fun e => hvx (by rw [← h3, hg, e])) _, Upd.putB (h2.mono fun c hc => .inl hc) (.inr (.inr rfl)) _, h3⟩

theorem bs69 (x : Int) (ty : TypeId) (w : World) (K : Value → World → Prop) :
    opK Try.prog (.buildSlice 69 1 #[(0, .const (.int .i64 x))]) ty w K = K (.slice (some ⟨w.heap.size, 0, none⟩) 1 1) (w.alloc (.cells #[.int .i64 x] 3)) := opK_of (by kernel_rfl) rfl

theorem push_calls {w : World} {x o : Nat} {cs : Array Value} {T : TypeId} (hx : w.heap[x]? = some (.cells cs T (0, 0)))
    {v : Value} {xs : List Int} (hv : w.ownsRow 0 3 1 v xs.length (nums xs)) (ho : cs[o]? = some v) (hvx : v.ownBlock ≠ some x) (hsmall : xs.length < 1000000000) (t : Int) :
    Calls Try.prog 95 #[.pointer (some ⟨x, o, none⟩), .int .i64 t] w fun en w' => en = .returned (.tuple #[]) ∧ ∃ v',
      w'.heap[x]? = some (.cells (cs.setIfInBounds o v') T (0, 0)) ∧ w'.ownsRow 0 3 1 v' (xs ++ [t]).length (nums (xs ++ [t])) ∧ Upd (fun c => v.ownBlock = some c ∨ c = x) w w' ∧ (∀ b, v'.ownBlock = some b → v.ownBlock = some b ∨ w.heap.size ≤ b) := by
  have hos : o < cs.size := by
    rcases Nat.lt_or_ge o cs.size with h | h
    · exact h
    · rw [Array.getElem?_eq_none h] at ho; cases ho
  obtain ⟨inf, hi1, hi2, hi3, hi4⟩ := int_info
  apply vk95
  simp [vc95, hx, ho, bs69]
  have hv1 : (w.alloc (.cells #[.int .i64 t] 3)).ownsRow 0 3 1 v xs.length (nums xs) := row_keep hv fun g hg => alloc_old (row_lt hv hg) _
  refine opK_append1 Try.underlying69 hi1 hi2 hi3 hi4 rfl (by omega) hv1 (alloc_new _ _) (m := 1) rfl (by simp) (by simp [maxLen]; omega) (by omega) ?_
  intro v' w2 h1 h2 h3
  have hx2 : w2.heap[x]? = some (.cells cs T (0, 0)) := by
    rw [h2.block x (by have := blk_lt hx; simp; omega) (fun e => hvx e.symm), alloc_old (blk_lt hx)]; exact hx
  have hne : ∀ g, v'.ownBlock = some g → g ≠ x := fun g hg e => by
    subst e
    rcases h3 g hg with h | h
    · exact hvx h
    · have := blk_lt hx; simp at h; omega
  simp [hx2, hos, row_one h1]
  refine ⟨v', putB_same (blk_lt hx2) _, row_keep (by simpa [nums] using h1) fun g hg => putB_other (hne g hg) _, ?_, fun b hb => ?_⟩
  · refine Upd.putB ?_ (.inr (.inr rfl)) _
    exact ((Upd.refl _ w).alloc _).trans (Upd.grown (F := fun c => v.ownBlock = some c ∨ c = x) h2 (fun k hk => .inl hk)) fun _ _ h => h
  · rcases h3 b hb with h | h
    · exact .inl h
    · simp at h; exact .inr (by omega)

section
variable {own : Nat → Option Tag} {w : World} {x : Nat} {S : PS} {tv : Value} {m : Nat} {lv : Nat → Value} {l : List Ent3} {c : Nat} {eb : Int → Nat}

/-- Where a thread's queue lies. -/
theorem at_line {e : Ent} (hb : 0 ≤ e.dom ∧ e.dom < 8 ∧ 0 ≤ e.prio ∧ e.prio < 8) : ∃ i : Nat, i < 64 ∧ e.at = i ∧ 4 + e.dom.toNat * 8 + e.prio.toNat = 4 + i := by
  refine ⟨e.dom.toNat * 8 + e.prio.toNat, by omega, by unfold Ent.at; omega, by omega⟩

theorem leave_calls (h : SchedAt own w x S tv m lv l c eb) {t : Int} {e : Ent} (he : S.all t = some e) :
    Calls Try.prog 93 #[.pointer (some ⟨x, 0, none⟩), .int .i64 t, .pointer (some ⟨eb t, 0, none⟩)] w fun en w' => en = .returned (.tuple #[]) ∧
      (∃ lv', SchedAt own w' x (S.leave t e) tv m lv' l c eb) ∧ Upd (fun b => own b ≠ none) w w' := by
  obtain ⟨i, hi, hat, haddr⟩ := at_line (h.bd t e he)
  apply vk93
  simp [vc93]
  have heb := h.ent t e he
  have hlt : ∀ b T, own b = some T → b < w.heap.size := fun b T hb => h.lt b (by rw [hb]; simp)
  refine callK_of (queue_calls (x := x) (w := w.alloc (.cells #[.int .i64 t] 3)) (by rw [alloc_old (blk_lt heb)]; exact heb) (h.bd t e he)) ?_
  rintro r w2 ⟨rfl, rfl⟩
  refine ⟨_, rfl, ?_⟩
  have hrow := h.lines i hi
  rw [haddr]
  have g1 : (w.alloc (.cells #[.int .i64 t] 3)).drew.heap[w.heap.size]? = some (.cells #[.int .i64 t] 3 (0, 0)) := alloc_new _ _
  have g2 : ∀ b, b < w.heap.size → (w.alloc (.cells #[.int .i64 t] 3)).drew.heap[b]? = w.heap[b]? := fun b hb => alloc_old hb _
  refine callK_of (drop_calls (x := x) (o := 4 + i) (v := lv i) (xs := S.q i) (cs := schedCells tv S.turn S.left m lv) g1 ((g2 x (blk_lt h.head)).trans h.head)
    (row_keep hrow fun g hg => g2 g (row_lt hrow hg)) (sc_line _ _ _ _ _ hi) ?_ ?_) ?_
  · intro hc; have := row_lt hrow hc; omega
  · intro hc; have := h.o_line i hi x hc; rw [h.o_head] at this; simp at this
  rintro r w3 ⟨rfl, v', h1, h2, h3, h4⟩
  refine ⟨_, rfl, ⟨fun j => if j = i then v' else lv j, ?_⟩, ?_⟩
  · rw [sc_setline _ _ _ _ _ hi] at h1
    unfold PS.leave
    rw [hat]
    refine h.line hi h1 h2 (fun b hb hbx hbl => ?_) (fun _ _ => rfl) (fun b hb => h.o_line i hi b (by rw [← h4]; exact hb)) (fun b hb => ?_)
    · have hb' := h.lt b hb
      rw [h3.old b (by simp; omega) (by
        rintro (hc | hc)
        · exact hbl (h.o_line i hi b hc)
        · exact hbx hc)]
      exact g2 b hb'
    · exact Nat.lt_of_lt_of_le (h.lt b hb) (Nat.le_trans (by simp) h3.size)
  · exact (((Upd.refl (fun b => own b ≠ none) w).alloc _).drew).trans h3 fun b hb hc => by
      rcases hc with hc | hc
      · rw [h.o_line i hi b hc]; simp
      · rw [hc, h.o_head]; simp

theorem entry_cells (e : Ent) : entryO e = .cells #[.int .i64 e.dom, .int .i64 e.prio, .int .i64 e.left, .bool e.ready] 105 (0, 0) := rfl

theorem last_calls (h : SchedAt own w x S tv m lv l c eb) {t : Int} {e : Ent} (he : S.all t = some e) (hq : ∀ i : Nat, i < 64 → (S.q i).length < 1000000000) :
    Calls Try.prog 33 #[.pointer (some ⟨x, 0, none⟩), .int .i64 t, .pointer (some ⟨eb t, 0, none⟩)] w fun en w' => en = .returned (.tuple #[]) ∧
      (∃ own' lv', SchedAt own' w' x (S.last t e) tv m lv' l c eb ∧ (∀ b, own' b ≠ none → own b ≠ none ∨ w.heap.size ≤ b)) ∧ Upd (fun b => own b ≠ none) w w' := by
  obtain ⟨i, hi, hat, haddr⟩ := at_line (h.bd t e he)
  apply vk33
  simp only [vc33]
  refine callK_of (leave_calls h he) ?_
  rintro r w2 ⟨rfl, ⟨lv2, h2⟩, hu2⟩
  refine ⟨_, rfl, ?_⟩
  have he2 : (S.leave t e).all t = some e := he
  refine callK_of (queue_calls (x := x) (h2.ent t e he2) (h.bd t e he)) ?_
  rintro r w3 ⟨rfl, rfl⟩
  refine ⟨_, rfl, ?_⟩
  rw [haddr]
  have hrow := h2.lines i hi
  have hlen : ((S.leave t e).q i).length < 1000000000 := by
    have : ((S.leave t e).q i).length ≤ (S.q i).length := by
      unfold PS.leave
      simp only [hat, up_same]
      unfold without
      exact List.length_filter_le _ _
    have := hq i hi
    omega
  refine callK_of (push_calls (w := w2.drew) (x := x) (o := 4 + i) (v := lv2 i) (xs := (S.leave t e).q i) (cs := schedCells tv (S.leave t e).turn (S.leave t e).left m lv2) h2.head hrow (sc_line _ _ _ _ _ hi)
    (fun hc => by have := h2.o_line i hi x hc; rw [h2.o_head] at this; simp at this) hlen t) ?_
  rintro r w4 ⟨rfl, v', h3, h4, h5, h6⟩
  refine ⟨_, rfl, ?_⟩
  rw [sc_setline _ _ _ _ _ hi] at h3
  have hsz : w2.heap.size ≤ w4.heap.size := h5.size
  -- the line's new block is the line's
  have h7 := h2.line (own' := fun b => if v'.ownBlock = some b then some (.line i) else own b) hi h3 h4 (fun b hb hbx hbl => h5.old b (h2.lt b hb) (by
      rintro (hc | hc)
      · exact hbl (h2.o_line i hi b hc)
      · exact hbx hc)) (fun b hb => by
      by_cases hc : v'.ownBlock = some b
      · rw [if_pos hc]
        rcases h6 b hc with hd | hd
        · exact (h2.o_line i hi b hd).symm
        · have := h2.lt b hb; simp at hd; omega
      · rw [if_neg hc]) (fun b hb => by rw [if_pos hb]) (fun b hb => by
      by_cases hc : v'.ownBlock = some b
      · exact row_lt h4 hc
      · rw [if_neg hc] at hb; exact Nat.lt_of_lt_of_le (h2.lt b hb) hsz)
  have he4 := h7.ent t e he
  rw [entry_cells] at he4
  have hlt4 := blk_lt he4
  simp [he4, putB_same hlt4, putB_putB]
  have hS : ({ S with q := up (S.leave t e).q i ((S.leave t e).q i ++ [t]), all := up S.all t (some { e with left := 5, ready := true }) } : PS) = S.last t e := by
    unfold PS.leave PS.last
    simp only [hat, up_same]
    congr 1
    funext k
    unfold up
    split <;> rfl
  refine ⟨⟨fun b => if v'.ownBlock = some b then some (.line i) else own b, ⟨fun j => if j = i then v' else lv2 j, ?_⟩, ?_⟩, ?_⟩
  · have := h7.setEnt (w' := putB w4 (eb t) (.cells #[.int .i64 e.dom, .int .i64 e.prio, .int .i64 5, .bool true] 105))
      (e' := { e with left := 5, ready := true }) he (putB_same hlt4 _) (h.bd t e he) (fun b hb hbe => by rw [putB_other hbe]) (by simp)
    rw [← hS]
    exact this
  · intro b hb
    by_cases hc : v'.ownBlock = some b
    · rcases h6 b hc with hd | hd
      · left; rw [h2.o_line i hi b hd]; simp
      · right; have := hu2.size; simp at hd; omega
    · simp only [if_neg hc] at hb; exact .inl hb
  · have hent : own (eb t) ≠ none := by rw [h.o_ent t e he]; simp
    refine Upd.putB ?_ (.inr hent) _
    refine hu2.trans (Upd.trans (F := fun b => (lv2 i).ownBlock = some b ∨ b = x) (Upd.refl _ w2).drew h5 fun _ _ hh => hh) fun b hb hc => ?_
    rcases hc with hc | hc
    · rw [h2.o_line i hi b hc]; simp
    · rw [hc, h.o_head]; simp
end
end Go.Proofs.Ytaniphdbebdhhaa
