/-
  Both schedulers and the books in one memory: what a call on one of them leaves of the others; how far the document's grows. No condition.
-/
import Derived.Test.YtaniphdbebdhhaaBk2
import Derived.Test.YtaniphdbebdhhaaSc7
import Derived.Test.YtaniphdbebdhhaaLw3
import Derived.Test.YtaniphdbebdhhaaSm1
namespace Go.Proofs.Ytaniphdbebdhhaa
open Go.Vk Vk.Sched

/-! ### How far it grows -/
def Grow (n : Nat) (R R' : RS) : Prop := R'.L.length ≤ R.L.length + n ∧ R'.clock ≤ R.clock + n
theorem Grow.refl (R : RS) : Grow 0 R R := ⟨Nat.le_refl _, by simp⟩
theorem Grow.more {n m : Nat} {R R' : RS} (h : Grow n R R') (hm : n ≤ m) : Grow m R R' := ⟨by have := h.1; omega, by have := h.2; omega⟩
theorem Grow.trans {n m : Nat} {A B C : RS} (h : Grow n A B) (k : Grow m B C) : Grow (n + m) A C := ⟨by have := h.1; have := k.1; omega, by have := h.2; have := k.2; omega⟩
theorem grow_lastAt (R : RS) (i : Nat) : (R.lastAt i).L.length = R.L.length ∧ (R.lastAt i).clock = R.clock + 1 := ⟨by simp [RS.lastAt], rfl⟩
theorem grow_last (R : RS) (i : Nat) : Grow 1 R (R.lastAt i) := by
  have := grow_lastAt R i
  exact ⟨by omega, by omega⟩
theorem grow_add (R : RS) (t d p : Int) : Grow 1 R (R.add t d p).2 := by
  unfold RS.add
  split
  · exact (Grow.refl R).more (by omega)
  · split
    · exact (Grow.refl R).more (by omega)
    · exact ⟨by simp, by simp; omega⟩
theorem grow_remove (R : RS) (t : Int) : Grow 1 R (R.remove t).2 := by
  unfold RS.remove
  split
  · exact (Grow.refl R).more (by omega)
  · exact ⟨by simp; omega, by simp; omega⟩
theorem grow_ready (R : RS) (t : Int) : Grow 1 R (R.readyOp t).2 := by
  unfold RS.readyOp
  split
  · exact (Grow.refl R).more (by omega)
  · split
    · exact (Grow.refl R).more (by omega)
    · exact grow_last _ _
theorem grow_yield (R : RS) (t : Int) : Grow 1 R (R.yield t).2 := by
  unfold RS.yield
  split
  · exact (Grow.refl R).more (by omega)
  · split
    · exact (Grow.refl R).more (by omega)
    · exact grow_last _ _
theorem grow_block (R : RS) (t : Int) : Grow 1 R (R.block t).2 := by
  unfold RS.block
  split
  · exact (Grow.refl R).more (by omega)
  · split
    · exact (Grow.refl R).more (by omega)
    · exact ⟨by simp, by simp; omega⟩
theorem grow_prio (R : RS) (t p : Int) : Grow 1 R (R.prio t p).2 := by
  unfold RS.prio
  split
  · exact (Grow.refl R).more (by omega)
  · split
    · exact (Grow.refl R).more (by omega)
    · simp only
      split
      · exact ⟨by simp [RS.lastAt], by simp [RS.lastAt]⟩
      · exact ⟨by simp, by simp; omega⟩
theorem tick_same (R : RS) : R.tick.L = R.L ∧ R.tick.clock = R.clock := by
  unfold RS.tick
  split <;> exact ⟨rfl, rfl⟩
theorem grow_next (R : RS) : Grow 1 R R.next.2 := by
  have h0 := tick_same R
  have key : ∀ Q : RS, Q.L.length = R.L.length → Q.clock ≤ R.clock + 1 → ∀ i : Option Nat,
      Grow 1 R (match (Q, i) with
        | (R1, none) => ((-1 : Int), R1)
        | (R1, some i) => ((R1.L.getD i ⟨0, 0, 0, 0, 0⟩).num, { R1 with L := R1.L.modify i fun e => { e with left := dec e.left } })).2 := by
    intro Q h1 h2 i
    cases i with
    | none => exact ⟨by simp; omega, by simp; omega⟩
    | some i => exact ⟨by simp; omega, by simp; omega⟩
  unfold RS.next
  simp only
  cases R.tick.first R.tick.dom with
  | none => exact key R.tick (by rw [h0.1]) (by rw [h0.2]; omega) none
  | some i =>
    simp only
    by_cases hz : (R.tick.L.getD i ⟨0, 0, 0, 0, 0⟩).left = 0
    · simp only [hz, if_true]
      have := grow_lastAt R.tick i
      exact key (R.tick.lastAt i) (by rw [this.1, h0.1]) (by rw [this.2, h0.2]; omega) _
    · simp only [hz, if_false]
      exact key R.tick (by rw [h0.1]) (by rw [h0.2]; omega) (some i)

/-! ### One memory -/
abbrev nilS : Value := .slice none 0 0
def BothAt (G : Nat → Prop) (w : World) (x y B : Nat) (S : PS) (R : RS) (k : Nat) : Prop :=
  ∃ own own2 ob bv es, SchedIn own w x S ∧ RefIn own2 w y R ∧ BooksAt ob w B nilS nilS nilS nilS nilS bv es ∧ es.length = k ∧
    (∀ b, own b ≠ none → own2 b = none ∧ ¬ ob b) ∧ (∀ b, own2 b ≠ none → ¬ ob b) ∧ (∀ b, G b ↔ own b ≠ none ∨ own2 b ≠ none ∨ ob b)

def Step (G G' : Nat → Prop) (w w' : World) : Prop := (∀ b, G' b → G b ∨ w.heap.size ≤ b) ∧ Upd G w w'
theorem Step.refl (G : Nat → Prop) (w : World) : Step G G w w := ⟨fun _ h => .inl h, Upd.refl _ _⟩
theorem Step.trans {G G' G'' : Nat → Prop} {a b c : World} (h : Step G G' a b) (k : Step G' G'' b c) : Step G G'' a c :=
  ⟨fun x hx => by
    rcases k.1 x hx with h1 | h1
    · exact h.1 x h1
    · exact .inr (Nat.le_trans h.2.size h1),
   h.2.trans k.2 fun x hx hg => by
    rcases h.1 x hg with h1 | h1
    · exact h1
    · omega⟩
theorem Step.upd {G G' : Nat → Prop} {a b c : World} (h : Step G G' a b) (k : Upd (fun _ => False) b c) : Step G G' a c := ⟨h.1, h.2.trans k fun _ _ f => f.elim⟩
theorem Step.drew {G G' : Nat → Prop} {a b : World} (h : Step G G' a b) : Step G G' a b.drew := ⟨h.1, h.2.drew⟩
theorem Step.alloc {G G' : Nat → Prop} {a b : World} (h : Step G G' a b) (o : Obj) : Step G G' a (b.alloc o) := ⟨h.1, h.2.alloc o⟩
/-- A block that is nobody's stays so, and as it is. -/
theorem Step.keep {G G' : Nat → Prop} {w w' : World} (h : Step G G' w w') {b : Nat} {o : Obj} (hb : w.heap[b]? = some o) (hn : ¬ G b) : w'.heap[b]? = some o ∧ ¬ G' b :=
  ⟨(h.2.old b (blk_lt hb) hn).trans hb, fun hg => (h.1 b hg).elim hn fun h1 => by have := blk_lt hb; omega⟩

section
variable {G : Nat → Prop} {w w' : World} {x y B : Nat} {S : PS} {R : RS} {k : Nat}

theorem SchedIn.frame {own : Nat → Option Tag} (h : SchedIn own w x S) (hu : ∀ b, own b ≠ none → w'.heap[b]? = w.heap[b]?) (hs : w.heap.size ≤ w'.heap.size) : SchedIn own w' x S := by
  obtain ⟨tv, m, lv, l, c, eb, h⟩ := h
  exact ⟨tv, m, lv, l, c, eb, h.frame hu hs⟩
theorem SchedIn.lt {own : Nat → Option Tag} (h : SchedIn own w x S) {b : Nat} (hb : own b ≠ none) : b < w.heap.size := by
  obtain ⟨tv, m, lv, l, c, eb, h⟩ := h
  exact h.lt b hb
theorem RefIn.frame {own : Nat → Option RTag} (h : RefIn own w y R) (hu : ∀ b, own b ≠ none → w'.heap[b]? = w.heap[b]?) (hs : w.heap.size ≤ w'.heap.size) : RefIn own w' y R := by
  obtain ⟨tv, lv, h⟩ := h
  exact ⟨tv, lv, h.frame hu hs⟩
theorem RefIn.lt {own : Nat → Option RTag} (h : RefIn own w y R) {b : Nat} (hb : own b ≠ none) : b < w.heap.size := by
  obtain ⟨tv, lv, h⟩ := h
  exact h.lt b hb

theorem BothAt.lt (h : BothAt G w x y B S R k) {b : Nat} (hb : G b) : b < w.heap.size := by
  obtain ⟨own, own2, ob, bv, es, h1, h2, h3, _, _, _, hG⟩ := h
  rcases (hG b).1 hb with h | h | h
  · exact h1.lt h
  · exact h2.lt h
  · exact h3.lt b h

theorem BothAt.frame (h : BothAt G w x y B S R k) {F : Nat → Prop} (hu : Upd F w w') (hF : ∀ b, F b → ¬ G b) : BothAt G w' x y B S R k := by
  have hlt := fun b hb => h.lt (b := b) hb
  obtain ⟨own, own2, ob, bv, es, h1, h2, h3, h4, h5, h6, hG⟩ := h
  have keep : ∀ b, G b → w'.heap[b]? = w.heap[b]? := fun b hb => hu.old b (hlt b hb) (fun f => hF b f hb)
  exact ⟨own, own2, ob, bv, es, h1.frame (fun b hb => keep b ((hG b).2 (.inl hb))) hu.size, h2.frame (fun b hb => keep b ((hG b).2 (.inr (.inl hb)))) hu.size,
    h3.frame (fun b hb => keep b ((hG b).2 (.inr (.inr hb)))) hu.size, h4, h5, h6, hG⟩
theorem BothAt.same (h : BothAt G w x y B S R k) (hu : Upd (fun _ => False) w w') : BothAt G w' x y B S R k := h.frame hu fun _ f => f.elim
theorem BothAt.drew (h : BothAt G w x y B S R k) : BothAt G w.drew x y B S R k := h.same (Upd.refl _ _).drew
theorem BothAt.alloc (h : BothAt G w x y B S R k) (o : Obj) : BothAt G (w.alloc o) x y B S R k := h.same ((Upd.refl _ _).alloc o)

/-- A call on the program's scheduler. -/
theorem BothAt.useS (h : BothAt G w x y B S R k) {f : FuncId} {args : Array Value} {Pe : Ending → Prop} {S' : PS}
    (hc : ∀ own tv m lv l c eb, SchedAt own w x S tv m lv l c eb → Calls Try.prog f args w fun en w' => Pe en ∧ SchedNext own w w' x S') :
    Calls Try.prog f args w fun en w' => Pe en ∧ ∃ G', BothAt G' w' x y B S' R k ∧ Step G G' w w' := by
  obtain ⟨own, own2, ob, bv, es, h1, h2, h3, h4, h5, h6, hG⟩ := h
  obtain ⟨tv, m, lv, l, c, eb, h1⟩ := h1
  refine (hc own tv m lv l c eb h1).mono ?_
  rintro en w' ⟨he, own', hs, ho, hu⟩
  refine ⟨he, fun b => own' b ≠ none ∨ own2 b ≠ none ∨ ob b, ⟨own', own2, ob, bv, es, hs, h2.frame (fun b hb => hu.old b (h2.lt hb) (fun f => hb (h5 b f).1)) hu.size,
    h3.frame (fun b hb => hu.old b (h3.lt b hb) (fun f => (h5 b f).2 hb)) hu.size, h4, fun b hb => ?_, h6, fun b => Iff.rfl⟩, fun b hb => ?_, hu.mono fun b hb => (hG b).2 (.inl hb)⟩
  · rcases ho b hb with h | h
    · exact h5 b h
    · refine ⟨?_, fun hb2 => by have := h3.lt b hb2; omega⟩
      cases hh : own2 b with
      | none => rfl
      | some t => have := h2.lt (b := b) (by rw [hh]; simp); omega
  · rcases hb with hb | hb | hb
    · rcases ho b hb with h | h
      · exact .inl ((hG b).2 (.inl h))
      · exact .inr h
    · exact .inl ((hG b).2 (.inr (.inl hb)))
    · exact .inl ((hG b).2 (.inr (.inr hb)))

/-- A call on the document's. -/
theorem BothAt.useR (h : BothAt G w x y B S R k) {f : FuncId} {args : Array Value} {Pe : Ending → Prop} {R' : RS}
    (hc : ∀ own tv lv, RefAt own w y R tv lv → Calls Try.prog f args w fun en w' => Pe en ∧ RefNext own w w' y R') :
    Calls Try.prog f args w fun en w' => Pe en ∧ ∃ G', BothAt G' w' x y B S R' k ∧ Step G G' w w' := by
  obtain ⟨own, own2, ob, bv, es, h1, h2, h3, h4, h5, h6, hG⟩ := h
  obtain ⟨tv, lv, h2⟩ := h2
  refine (hc own2 tv lv h2).mono ?_
  rintro en w' ⟨he, own', hs, ho, hu⟩
  refine ⟨he, fun b => own b ≠ none ∨ own' b ≠ none ∨ ob b, ⟨own, own', ob, bv, es, h1.frame (fun b hb => hu.old b (h1.lt hb) (fun f => f (h5 b hb).1)) hu.size, hs,
    h3.frame (fun b hb => hu.old b (h3.lt b hb) (fun f => h6 b f hb)) hu.size, h4, fun b hb => ?_, fun b hb hb2 => ?_, fun b => Iff.rfl⟩, fun b hb => ?_, hu.mono fun b hb => (hG b).2 (.inr (.inl hb))⟩
  · refine ⟨?_, (h5 b hb).2⟩
    cases hh : own' b with
    | none => rfl
    | some t =>
      rcases ho b (by rw [hh]; simp) with h | h
      · exact absurd (h5 b hb).1 h
      · have := h1.lt hb; omega
  · rcases ho b hb with h | h
    · exact h6 b h hb2
    · have := h3.lt b hb2; omega
  · rcases hb with hb | hb | hb
    · exact .inl ((hG b).2 (.inl hb))
    · rcases ho b hb with h | h
      · exact .inl ((hG b).2 (.inr (.inl h)))
      · exact .inr h
    · exact .inl ((hG b).2 (.inr (.inr hb)))

/-- A list is its owner's from now on. -/
theorem BothAt.own (h : BothAt G w x y B S R k) (hk : k < 1000000000) {l : Value} {n : Nat} {xs : List Value} (hl : w.ownsRow 0 3 1 l n xs) (hn : n < 1000000000) (hlo : ∀ b, l.ownBlock = some b → ¬ G b) :
    Calls Try.prog 51 #[.pointer (some ⟨B, 0, none⟩), l] w fun en w' => en = .returned (.tuple #[]) ∧ ∃ G', BothAt G' w' x y B S R (k + 2) ∧ (∀ b, G' b → G b ∨ l.ownBlock = some b ∨ w.heap.size ≤ b) ∧ Upd (fun b => G b ∨ l.ownBlock = some b) w w' := by
  obtain ⟨own, own2, ob, bv, es, h1, h2, h3, h4, h5, h6, hG⟩ := h
  have hlo' : ∀ b, l.ownBlock = some b → own b = none ∧ own2 b = none ∧ ¬ ob b := fun b hb => by
    have := hlo b hb
    rw [hG] at this
    refine ⟨?_, ?_, fun h => this (.inr (.inr h))⟩
    · cases hh : own b with
      | none => rfl
      | some t => exact absurd (.inl (by rw [hh]; simp)) this
    · cases hh : own2 b with
      | none => rfl
      | some t => exact absurd (.inr (.inl (by rw [hh]; simp))) this
  refine (ownInts_calls h3 (by omega) hl hn fun b hb => (hlo' b hb).2.2).mono ?_
  rintro en w' ⟨he, ob', bv', u, hb', hu, ho⟩
  have hlrow : ∀ b, l.ownBlock = some b → b < w.heap.size := fun b hb => row_lt hl hb
  refine ⟨he, fun b => own b ≠ none ∨ own2 b ≠ none ∨ ob' b, ⟨own, own2, ob', bv', es ++ [l, u], h1.frame (fun b hb => hu.old b (h1.lt hb) ?_) hu.size, h2.frame (fun b hb => hu.old b (h2.lt hb) ?_) hu.size, hb', by simp [h4], fun b hb => ⟨(h5 b hb).1, fun hb2 => ?_⟩, fun b hb hb2 => ?_, fun b => Iff.rfl⟩, fun b hb => ?_, hu.mono fun b hb => ?_⟩
  · rintro (h | h)
    · exact (h5 b hb).2 h
    · exact hb (hlo' b h).1
  · rintro (h | h)
    · exact h6 b hb h
    · exact hb (hlo' b h).2.1
  · rcases ho b hb2 with h | h | h
    · exact (h5 b hb).2 h
    · exact hb (hlo' b h).1
    · have := h1.lt hb; omega
  · rcases ho b hb2 with h | h | h
    · exact h6 b hb h
    · exact hb (hlo' b h).2.1
    · have := h2.lt hb; omega
  · rcases hb with hb | hb | hb
    · exact .inl ((hG b).2 (.inl hb))
    · exact .inl ((hG b).2 (.inr (.inl hb)))
    · rcases ho b hb with h | h | h
      · exact .inl ((hG b).2 (.inr (.inr h)))
      · exact .inr (.inl h)
      · exact .inr (.inr h)
  · rcases hb with hb | hb
    · exact .inl ((hG b).2 (.inr (.inr hb)))
    · exact .inr hb
end
end Go.Proofs.Ytaniphdbebdhhaa
