/-
  The program's bus in memory: where its parts lie, and what changes of one part leave. No condition.
-/
import Derived.Test.YtaniphdbebdhhaaIp1
namespace Go.Proofs.Ytaniphdbebdhhaa.Ipc
open Go.Vk Vk.Ipc

inductive BTag where
  | head | m1 | m2
  | place (i : Int)
  | line (i : Int)
deriving DecidableEq

def placeO (p : Pl) (v : Value) : Obj := .cells #[.bool p.bell, v, .int .u32 p.word] 132 (0, 0)

/-- A bus in memory, its ghosts open. -/
structure BusAt (own : Nat → Option BTag) (w : World) (x : Nat) (S : PB) (m1 m2 : Nat) (l1 : List Ent3) (c1 : Nat) (l2 : List Ent3) (c2 : Nat) (pb : Int → Nat) (lv : Int → Value) : Prop where
  head : w.heap[x]? = some (.cells #[.map (some m1), .map (some m2)] 126 (0, 0))
  map1 : w.heap[m1]? = some (.map (ents l1) c1)
  map2 : w.heap[m2]? = some (.map (ents l2) c2)
  nd1 : (mkeys l1).Nodup
  nd2 : (mkeys l2).Nodup
  k1 : ∀ i, mget l1 i = (S.places i).map fun _ => .pointer (some ⟨pb i, 0, none⟩)
  k2 : ∀ t, mget l2 t = (S.wher t).map fun i => .int .i64 i
  place : ∀ i p, S.places i = some p → w.heap[pb i]? = some (placeO p (lv i))
  line : ∀ i p, S.places i = some p → w.ownsRow 0 135 8 (lv i) p.line.length (p.line.flatMap wtCells)
  o_head : own x = some .head
  o_m1 : own m1 = some .m1
  o_m2 : own m2 = some .m2
  o_place : ∀ i p, S.places i = some p → own (pb i) = some (.place i)
  o_line : ∀ i p, S.places i = some p → ∀ b, (lv i).ownBlock = some b → own b = some (.line i)
  lt : ∀ b, own b ≠ none → b < w.heap.size

def BusIn (own : Nat → Option BTag) (w : World) (x : Nat) (S : PB) : Prop := ∃ m1 m2 l1 c1 l2 c2 pb lv, BusAt own w x S m1 m2 l1 c1 l2 c2 pb lv

/-- What a call leaves. -/
def BusNext (own : Nat → Option BTag) (w w' : World) (x : Nat) (S' : PB) : Prop :=
  ∃ own', BusIn own' w' x S' ∧ (∀ b, own' b ≠ none → own b ≠ none ∨ w.heap.size ≤ b) ∧ Upd (fun b => own b ≠ none) w w'

section
variable {own own' : Nat → Option BTag} {w w' w'' : World} {x : Nat} {S S' S'' : PB} {m1 m2 : Nat} {l1 : List Ent3} {c1 : Nat} {l2 : List Ent3} {c2 : Nat} {pb : Int → Nat} {lv : Int → Value}

theorem BusAt.frame (h : BusAt own w x S m1 m2 l1 c1 l2 c2 pb lv) (hu : ∀ b, own b ≠ none → w'.heap[b]? = w.heap[b]?) (hs : w.heap.size ≤ w'.heap.size) : BusAt own w' x S m1 m2 l1 c1 l2 c2 pb lv := by
  have hh : ∀ b T, own b = some T → w'.heap[b]? = w.heap[b]? := fun b T hb => hu b (by rw [hb]; simp)
  exact ⟨(hh x _ h.o_head).trans h.head, (hh _ _ h.o_m1).trans h.map1, (hh _ _ h.o_m2).trans h.map2, h.nd1, h.nd2, h.k1, h.k2,
    fun i p hp => (hh _ _ (h.o_place i p hp)).trans (h.place i p hp), fun i p hp => row_keep (h.line i p hp) fun g hg => hh g _ (h.o_line i p hp g hg),
    h.o_head, h.o_m1, h.o_m2, h.o_place, h.o_line, fun b hb => Nat.lt_of_lt_of_le (h.lt b hb) hs⟩
theorem BusIn.frame (h : BusIn own w x S) (hu : ∀ b, own b ≠ none → w'.heap[b]? = w.heap[b]?) (hs : w.heap.size ≤ w'.heap.size) : BusIn own w' x S := by
  obtain ⟨m1, m2, l1, c1, l2, c2, pb, lv, h⟩ := h
  exact ⟨m1, m2, l1, c1, l2, c2, pb, lv, h.frame hu hs⟩
theorem BusIn.lt (h : BusIn own w x S) {b : Nat} (hb : own b ≠ none) : b < w.heap.size := by
  obtain ⟨m1, m2, l1, c1, l2, c2, pb, lv, h⟩ := h
  exact h.lt b hb
theorem BusAt.upd (h : BusAt own w x S m1 m2 l1 c1 l2 c2 pb lv) (hu : Upd (fun _ => False) w w') : BusAt own w' x S m1 m2 l1 c1 l2 c2 pb lv :=
  h.frame (fun b hb => hu.old b (h.lt b hb) fun f => f) hu.size

theorem BusNext.refl (h : BusIn own w x S) : BusNext own w w x S := ⟨own, h, fun _ hb => .inl hb, Upd.refl _ _⟩
theorem BusAt.next (h : BusAt own w x S m1 m2 l1 c1 l2 c2 pb lv) : BusNext own w w x S := .refl ⟨_, _, _, _, _, _, _, _, h⟩
/-- Into a world where nothing that was has changed. -/
theorem BusNext.upd (h : BusNext own w w' x S) (hu : Upd (fun _ => False) w' w'') : BusNext own w w'' x S := by
  obtain ⟨own', h1, h2, h3⟩ := h
  exact ⟨own', h1.frame (fun b hb => hu.old b (h1.lt hb) fun f => f) hu.size, h2, h3.trans hu fun _ _ f => f.elim⟩
theorem BusNext.trans (h : BusNext own w w' x S') (k : ∀ own', BusIn own' w' x S' → BusNext own' w' w'' x S'') : BusNext own w w'' x S'' := by
  obtain ⟨own1, h1, h2, h3⟩ := h
  obtain ⟨own2, k1, k2, k3⟩ := k own1 h1
  refine ⟨own2, k1, fun b hb => ?_, h3.trans k3 fun b hb hc => ?_⟩
  · rcases k2 b hb with e | e
    · exact h2 b e
    · exact .inr (Nat.le_trans h3.size e)
  · rcases h2 b hc with e | e
    · exact e
    · omega
/-- From a world where nothing that was has changed. -/
theorem BusNext.before (hu : Upd (fun _ => False) w w') (h : BusNext own w' w'' x S) : BusNext own w w'' x S := by
  obtain ⟨own', h1, h2, h3⟩ := h
  refine ⟨own', h1, fun b hb => (h2 b hb).imp id fun e => Nat.le_trans hu.size e, (hu.mono fun _ f => f.elim).trans h3 fun _ _ h => h⟩

/-- A place is put: a new one, or one that says something else. -/
theorem BusAt.put (h : BusAt own w x S m1 m2 l1 c1 l2 c2 pb lv) {i : Int} {p' : Pl} {v' : Value} {nb : Nat} {l1' : List Ent3} {c1' : Nat}
    (hm : w'.heap[m1]? = some (.map (ents l1') c1')) (hnd : (mkeys l1').Nodup) (hk : ∀ j, mget l1' j = if j = i then some (.pointer (some ⟨nb, 0, none⟩)) else mget l1 j)
    (hx : w'.heap[nb]? = some (placeO p' v')) (hrow : w'.ownsRow 0 135 8 v' p'.line.length (p'.line.flatMap wtCells))
    (hold : ∀ b T, own b = some T → T ≠ .m1 → T ≠ .place i → T ≠ .line i → w'.heap[b]? = w.heap[b]?)
    (ho : ∀ b T, own b = some T → own' b = some T) (hnb : own' nb = some (.place i)) (hv : ∀ b, v'.ownBlock = some b → own' b = some (.line i)) (hlt : ∀ b, own' b ≠ none → b < w'.heap.size) :
    BusAt own' w' x { S with places := up S.places i (some p') } m1 m2 l1' c1' l2 c2 (up pb i nb) (up lv i v') := by
  have hcase : ∀ {j : Int} {q : Pl}, up S.places i (some p') j = some q → (j = i ∧ q = p') ∨ (j ≠ i ∧ S.places j = some q) := fun {j q} hq => by
    by_cases e : j = i
    · subst e; rw [up_same] at hq; exact .inl ⟨rfl, (Option.some.inj hq).symm⟩
    · rw [up_other _ _ _ _ e] at hq; exact .inr ⟨e, hq⟩
  refine ⟨(hold x _ h.o_head (by simp) (by simp) (by simp)).trans h.head, hm, (hold _ _ h.o_m2 (by simp) (by simp) (by simp)).trans h.map2, hnd, h.nd2, fun j => ?_, h.k2, fun j q hq => ?_, fun j q hq => ?_,
    ho _ _ h.o_head, ho _ _ h.o_m1, ho _ _ h.o_m2, fun j q hq => ?_, fun j q hq b hb => ?_, hlt⟩
  · rw [hk]
    show _ = (up S.places i (some p') j).map _
    by_cases e : j = i
    · subst e; simp
    · rw [if_neg e, up_other _ _ _ _ e, up_other _ _ _ _ e, h.k1]
  · rcases hcase hq with ⟨rfl, rfl⟩ | ⟨e, hq⟩
    · rw [up_same, up_same]; exact hx
    · rw [up_other _ _ _ _ e, up_other _ _ _ _ e]
      exact (hold _ _ (h.o_place j q hq) (by simp) (by simpa using e) (by simp)).trans (h.place j q hq)
  · rcases hcase hq with ⟨rfl, rfl⟩ | ⟨e, hq⟩
    · rw [up_same]; exact hrow
    · rw [up_other _ _ _ _ e]
      exact row_keep (h.line j q hq) fun g hg => hold g _ (h.o_line j q hq g hg) (by simp) (by simp) (by simpa using e)
  · rcases hcase hq with ⟨rfl, rfl⟩ | ⟨e, hq⟩
    · rw [up_same]; exact hnb
    · rw [up_other _ _ _ _ e]; exact ho _ _ (h.o_place j q hq)
  · rcases hcase hq with ⟨rfl, rfl⟩ | ⟨e, hq⟩
    · rw [up_same] at hb; exact hv b hb
    · rw [up_other _ _ _ _ e] at hb; exact ho _ _ (h.o_line j q hq b hb)

/-- A place says something else. -/
theorem BusAt.setPlace (h : BusAt own w x S m1 m2 l1 c1 l2 c2 pb lv) {i : Int} {p p' : Pl} {v' : Value} (hp : S.places i = some p)
    (hx : w'.heap[pb i]? = some (placeO p' v')) (hrow : w'.ownsRow 0 135 8 v' p'.line.length (p'.line.flatMap wtCells))
    (hold : ∀ b T, own b = some T → T ≠ .place i → T ≠ .line i → w'.heap[b]? = w.heap[b]?)
    (ho : ∀ b T, own b = some T → own' b = some T) (hv : ∀ b, v'.ownBlock = some b → own' b = some (.line i)) (hlt : ∀ b, own' b ≠ none → b < w'.heap.size) :
    BusAt own' w' x { S with places := up S.places i (some p') } m1 m2 l1 c1 l2 c2 (up pb i (pb i)) (up lv i v') :=
  h.put ((hold _ _ h.o_m1 (by simp) (by simp)).trans h.map1) h.nd1 (fun j => by
    by_cases e : j = i
    · subst e; rw [if_pos rfl, h.k1, hp]; rfl
    · rw [if_neg e]) hx hrow (fun b T h0 _ h2 h3 => hold b T h0 h2 h3) ho (ho _ _ (h.o_place i p hp)) hv hlt

/-- Where threads wait changes. -/
theorem BusAt.setWhere (h : BusAt own w x S m1 m2 l1 c1 l2 c2 pb lv) {f : Int → Option Int} {l2' : List Ent3} {c2' : Nat} (hm : w'.heap[m2]? = some (.map (ents l2') c2')) (hnd : (mkeys l2').Nodup) (hk : ∀ t, mget l2' t = (f t).map fun i => .int .i64 i)
    (hold : ∀ b T, own b = some T → T ≠ .m2 → w'.heap[b]? = w.heap[b]?) (hs : w.heap.size ≤ w'.heap.size) : BusAt own w' x { S with wher := f } m1 m2 l1 c1 l2' c2' pb lv :=
  ⟨(hold x _ h.o_head (by simp)).trans h.head, (hold _ _ h.o_m1 (by simp)).trans h.map1, hm, h.nd1, hnd, h.k1, hk, fun i p hp => (hold _ _ (h.o_place i p hp) (by simp)).trans (h.place i p hp),
    fun i p hp => row_keep (h.line i p hp) fun g hg => hold g _ (h.o_line i p hp g hg) (by simp), h.o_head, h.o_m1, h.o_m2, h.o_place, h.o_line, fun b hb => Nat.lt_of_lt_of_le (h.lt b hb) hs⟩

/-- A place is gone. -/
theorem BusAt.delPlace (h : BusAt own w x S m1 m2 l1 c1 l2 c2 pb lv) (i : Int) (hm : w'.heap[m1]? = some (.map (ents (mdel i l1)) c1))
    (hold : ∀ b T, own b = some T → T ≠ .m1 → w'.heap[b]? = w.heap[b]?) (hs : w.heap.size ≤ w'.heap.size) : BusAt own w' x { S with places := up S.places i none } m1 m2 (mdel i l1) c1 l2 c2 pb lv := by
  have hf : ∀ {j : Int} {q : Pl}, up S.places i none j = some q → S.places j = some q := fun {j q} hq => by
    by_cases e : j = i
    · subst e; rw [up_same] at hq; cases hq
    · rw [up_other _ _ _ _ e] at hq; exact hq
  refine ⟨(hold x _ h.o_head (by simp)).trans h.head, hm, (hold _ _ h.o_m2 (by simp)).trans h.map2, mdel_nodup h.nd1 _, h.nd2, fun j => ?_, h.k2, fun j q hq => (hold _ _ (h.o_place j q (hf hq)) (by simp)).trans (h.place j q (hf hq)),
    fun j q hq => row_keep (h.line j q (hf hq)) fun g hg => hold g _ (h.o_line j q (hf hq) g hg) (by simp), h.o_head, h.o_m1, h.o_m2, fun j q hq => h.o_place j q (hf hq), fun j q hq => h.o_line j q (hf hq), fun b hb => Nat.lt_of_lt_of_le (h.lt b hb) hs⟩
  rw [mget_mdel h.nd1]
  show _ = (up S.places i none j).map _
  by_cases e : j = i
  · subst e; rw [if_pos rfl, up_same]; rfl
  · rw [if_neg e, up_other _ _ _ _ e, h.k1]

theorem BusAt.look1 (h : BusAt own w x S m1 m2 l1 c1 l2 c2 pb lv) (i : Int) : (mget l1 i).getD (.pointer none) = match S.places i with | none => .pointer none | some _ => .pointer (some ⟨pb i, 0, none⟩) := by
  rw [h.k1]; cases S.places i <;> rfl
end
end Go.Proofs.Ytaniphdbebdhhaa.Ipc
