/-
  Contracts of the scheduler's calls, without Next, Queue and New. No condition.
-/
import Derived.Test.YtaniphdbebdhhaaSc3
namespace Go.Proofs.Ytaniphdbebdhhaa
open Go.Vk Vk.Sched

theorem under92 : Try.prog.underlying 92 = some (.map 3 103) := by kernel_rfl
theorem under3 : Try.prog.underlying 3 = some (.int .i64) := by kernel_rfl
theorem zero103 (w : World) : (zeroValue 103).run Try.prog w = .ok (.pointer none) w := by kernel_rfl

theorem look92 {w : World} {m : Nat} {l : List Ent3} {c : Nat} (h : w.heap[m]? = some (.map (ents l) c)) (t : Int) (ty : TypeId) (K : Value → World → Prop) :
    opK Try.prog (.lookup 92 (.const (.map (some m))) (.const (.int .i64 t)) false) ty w K = K ((mget l t).getD (.pointer none)) w := opK_of (run_lookup under92 under3 zero103 h t ty) rfl
theorem upd92 {w : World} {m : Nat} {l : List Ent3} {c : Nat} (h : w.heap[m]? = some (.map (ents l) c)) (t : Int) (v : Value) (ty : TypeId) (K : Value → World → Prop) :
    opK Try.prog (.mapUpdate 92 (.const (.map (some m))) (.const (.int .i64 t)) (.const v)) ty w K = K undef (putB w m (.map (ents (mput l c t v)) (mclk l c t))) := by
  exact opK_skip (run_mapUpdate under92 under3 h t v ty) rfl
theorem del92 {w : World} {m : Nat} {l : List Ent3} {c : Nat} (h : w.heap[m]? = some (.map (ents l) c)) (t : Int) (T2 ty : TypeId) (K : Value → World → Prop) :
    opK Try.prog (.call ⟨.builtin .delete, #[.const (.map (some m)), .const (.int .i64 t)], #[92, T2]⟩) ty w K = K (.tuple #[]) (putB w m (.map (ents (mdel t l)) c)) := opK_of (run_delete under92 under3 h t T2 ty) rfl

section
variable {own : Nat → Option Tag} {w : World} {x : Nat} {S : PS} {tv : Value} {m : Nat} {lv : Nat → Value} {l : List Ent3} {c : Nat} {eb : Int → Nat}

theorem sc_g {tv : Value} {turn left : Int} {m : Nat} {lv : Nat → Value} {i : Nat} {v : Value} (h : (schedCells tv turn left m lv)[i]? = .some v) (hi : i < (schedCells tv turn left m lv).size) : (schedCells tv turn left m lv)[i] = v := by
  rw [Array.getElem?_eq_getElem hi] at h
  exact Option.some.inj h
@[simp] theorem sc_g0 (tv : Value) (turn left : Int) (m : Nat) (lv : Nat → Value) (h) : (schedCells tv turn left m lv)[0]'h = tv := sc_g (sc_0 ..) h
@[simp] theorem sc_g1 (tv : Value) (turn left : Int) (m : Nat) (lv : Nat → Value) (h) : (schedCells tv turn left m lv)[1]'h = .int .i64 turn := sc_g (sc_1 ..) h
@[simp] theorem sc_g2 (tv : Value) (turn left : Int) (m : Nat) (lv : Nat → Value) (h) : (schedCells tv turn left m lv)[2]'h = .int .i64 left := sc_g (sc_2 ..) h
@[simp] theorem sc_g3 (tv : Value) (turn left : Int) (m : Nat) (lv : Nat → Value) (h) : (schedCells tv turn left m lv)[3]'h = .map (.some m) := sc_g (sc_3 ..) h

/-- What a call leaves: a scheduler that is S' now, of its own blocks and of new ones. -/
def SchedNext (own : Nat → Option Tag) (w w' : World) (x : Nat) (S' : PS) : Prop :=
  ∃ own', SchedIn own' w' x S' ∧ (∀ b, own' b ≠ none → own b ≠ none ∨ w.heap.size ≤ b) ∧ Upd (fun b => own b ≠ none) w w'

theorem SchedNext.same (h : SchedAt own w x S tv m lv l c eb) : SchedNext own w w x S := ⟨own, ⟨_, _, _, _, _, _, h⟩, fun _ hb => .inl hb, Upd.refl _ _⟩

theorem SchedAt.gone (h : SchedAt own w x S tv m lv l c eb) {t : Int} (he : S.all t = none) : (mget l t).getD (.pointer none) = .pointer none := by rw [h.keys, he]; rfl
theorem SchedAt.here (h : SchedAt own w x S tv m lv l c eb) {t : Int} {e : Ent} (he : S.all t = some e) : (mget l t).getD (.pointer none) = .pointer (some ⟨eb t, 0, none⟩) := by rw [h.keys, he]; rfl
theorem SchedAt.cells (h : SchedAt own w x S tv m lv l c eb) {t : Int} {e : Ent} (he : S.all t = some e) : w.heap[eb t]? = some (.cells #[.int .i64 e.dom, .int .i64 e.prio, .int .i64 e.left, .bool e.ready] 105 (0, 0)) := h.ent t e he

def readyRes (S : PS) (eb : Int → Nat) (t : Int) : Value :=
  match S.all t with
  | none => .tuple #[.pointer none, .int .i64 6]
  | some e => if e.ready then .tuple #[.pointer (some ⟨eb t, 0, none⟩), .int .i64 0] else .tuple #[.pointer none, .int .i64 16]

theorem ready_calls (h : SchedAt own w x S tv m lv l c eb) (t : Int) :
    Calls Try.prog 98 #[.pointer (some ⟨x, 0, none⟩), .int .i64 t] w fun en w' => en = .returned (readyRes S eb t) ∧ w' = w := by
  apply vk98
  simp only [readyRes]
  cases he : S.all t with
  | none => simp [vc98, h.head, look92 h.map, h.gone he]
  | some e => cases hr : e.ready <;> simp [vc98, h.head, look92 h.map, h.here he, h.cells he, hr]

theorem Ready_calls (h : SchedAt own w x S tv m lv l c eb) (hq : ∀ i : Nat, i < 64 → (S.q i).length < 1000000000) (t : Int) :
    Calls Try.prog 14 #[.pointer (some ⟨x, 0, none⟩), .int .i64 t] w fun en w' => en = .returned (.int .i64 (S.readyOp t).1) ∧ SchedNext own w w' x (S.readyOp t).2 := by
  apply vk14
  unfold PS.readyOp
  cases he : S.all t with
  | none =>
    simp [vc14, h.head, look92 h.map, h.gone he]
    exact .same h
  | some e => cases hr : e.ready with
    | true =>
      simp [vc14, h.head, look92 h.map, h.here he, h.cells he, hr]
      exact .same h
    | false =>
      simp [vc14, h.head, look92 h.map, h.here he, h.cells he, hr]
      refine callK_of (last_calls h he hq) ?_
      rintro r w2 ⟨rfl, ⟨own', lv', h1, h2⟩, h3⟩
      exact ⟨_, rfl, own', ⟨_, _, _, _, _, _, h1⟩, h2, h3⟩

theorem Yield_calls (h : SchedAt own w x S tv m lv l c eb) (hq : ∀ i : Nat, i < 64 → (S.q i).length < 1000000000) (t : Int) :
    Calls Try.prog 40 #[.pointer (some ⟨x, 0, none⟩), .int .i64 t] w fun en w' => en = .returned (.int .i64 (S.yield t).1) ∧ SchedNext own w w' x (S.yield t).2 := by
  apply vk40
  unfold vc40
  refine callK_of (ready_calls h t) ?_
  rintro r w2 ⟨rfl, rfl⟩
  refine ⟨_, rfl, ?_⟩
  unfold PS.yield readyRes
  cases he : S.all t with
  | none =>
    simp
    exact .same h
  | some e => cases hr : e.ready with
    | false =>
      simp [hr]
      exact .same h
    | true =>
      simp [hr]
      refine callK_of (last_calls h he hq) ?_
      rintro r w2 ⟨rfl, ⟨own', lv', h1, h2⟩, h3⟩
      exact ⟨_, rfl, own', ⟨_, _, _, _, _, _, h1⟩, h2, h3⟩

theorem Block_calls (h : SchedAt own w x S tv m lv l c eb) (t : Int) :
    Calls Try.prog 38 #[.pointer (some ⟨x, 0, none⟩), .int .i64 t] w fun en w' => en = .returned (.int .i64 (S.block t).1) ∧ SchedNext own w w' x (S.block t).2 := by
  apply vk38
  unfold vc38
  refine callK_of (ready_calls h t) ?_
  rintro r w2 ⟨rfl, rfl⟩
  refine ⟨_, rfl, ?_⟩
  unfold PS.block readyRes
  cases he : S.all t with
  | none =>
    simp
    exact .same h
  | some e => cases hr : e.ready with
    | false =>
      simp [hr]
      exact .same h
    | true =>
      simp [hr]
      refine callK_of (leave_calls h he) ?_
      rintro r w2 ⟨rfl, ⟨lv', h1⟩, h3⟩
      have h4 := h1.cells (e := e) (t := t) he
      refine ⟨_, rfl, ?_⟩
      simp [h4, putB_same (blk_lt h4), putB_putB]
      refine ⟨own, ⟨_, _, _, _, _, _, h1.setEnt (e' := { e with left := 0, ready := false }) he (putB_same (blk_lt h4) _) (h.bd t e he) (fun b hb hbe => by rw [putB_other hbe]) (by simp)⟩, fun _ hb => .inl hb, h3.putB (.inr ?_) _⟩
      rw [h.o_ent t e he]; simp

theorem Look_calls (h : SchedAt own w x S tv m lv l c eb) (t : Int) :
    Calls Try.prog 52 #[.pointer (some ⟨x, 0, none⟩), .int .i64 t] w fun en w' => en = .returned (.tuple #[.int .i64 (S.look t).1, .int .i64 (S.look t).2.1, .int .i64 (S.look t).2.2.1, .int .i64 (S.look t).2.2.2]) ∧ (w' = w ∨ w' = w.drew) := by
  apply vk52
  unfold PS.look
  cases he : S.all t with
  | none => simp [vc52, h.head, look92 h.map, h.gone he]
  | some e => simp [vc52, h.head, look92 h.map, h.here he, h.cells he]

theorem Turn_calls (h : SchedAt own w x S tv m lv l c eb) :
    Calls Try.prog 46 #[.pointer (some ⟨x, 0, none⟩)] w fun en w' => en = .returned (.tuple #[.int .i64 S.turn, .int .i64 S.left]) ∧ w' = w.drew := by
  apply vk46
  simp [vc46, h.head]

theorem Remove_calls (h : SchedAt own w x S tv m lv l c eb) (t : Int) :
    Calls Try.prog 35 #[.pointer (some ⟨x, 0, none⟩), .int .i64 t] w fun en w' => en = .returned (.int .i64 (S.remove t).1) ∧ SchedNext own w w' x (S.remove t).2 := by
  apply vk35
  unfold PS.remove
  cases he : S.all t with
  | none =>
    simp [vc35, h.head, look92 h.map, h.gone he]
    exact .same h
  | some e =>
    simp [vc35, h.head, look92 h.map, h.here he]
    refine callK_of (leave_calls h he) ?_
    rintro r w2 ⟨rfl, ⟨lv', h1⟩, h3⟩
    refine ⟨_, rfl, ?_⟩
    simp [h1.head, del92 h1.map]
    refine ⟨own, ⟨_, _, _, _, _, _, h1.delEnt (putB_same (blk_lt h1.map) _) (fun b hb hbm => by rw [putB_other hbm]) (by simp)⟩, fun _ hb => .inl hb, h3.putB (.inr ?_) _⟩
    rw [h.o_map]; simp

theorem Prio_calls (h : SchedAt own w x S tv m lv l c eb) (hq : ∀ i : Nat, i < 64 → (S.q i).length < 1000000000) (t p : Int) :
    Calls Try.prog 42 #[.pointer (some ⟨x, 0, none⟩), .int .i64 t, .int .i64 p] w fun en w' => en = .returned (.int .i64 (S.prio t p).1) ∧ SchedNext own w w' x (S.prio t p).2 := by
  apply vk42
  unfold PS.prio
  cases he : S.all t with
  | none =>
    simp [vc42, h.head, look92 h.map, h.gone he]
    exact .same h
  | some e =>
    cases hpd : decide (p < 0 ∨ 8 ≤ p) with
    | true =>
      have hp := of_decide_eq_true hpd
      simp only [hp, if_true]
      simp [vc42, h.head, look92 h.map, h.here he, hp]
      exact .same h
    | false =>
      have hp := of_decide_eq_false hpd
      simp only [hp, if_false]
      simp [vc42, h.head, look92 h.map, h.here he, hp]
      refine callK_of (leave_calls h he) ?_
      rintro r w2 ⟨rfl, ⟨lv', h1⟩, h3⟩
      refine ⟨_, rfl, ?_⟩
      have h4 := h1.cells (e := e) (t := t) he
      have h5 := h1.setEnt (w' := putB w2 (eb t) (.cells #[.int .i64 e.dom, .int .i64 p, .int .i64 e.left, .bool e.ready] 105 (0, 0))) (e' := { e with prio := p }) he (putB_same (blk_lt h4) _)
        (by have := h.bd t e he; exact ⟨this.1, this.2.1, by simp only; omega, by simp only; omega⟩) (fun b hb hbe => by rw [putB_other hbe]) (by simp)
      have hu5 := h3.putB (b := eb t) (.inr (by rw [h.o_ent t e he]; simp)) (.cells #[.int .i64 e.dom, .int .i64 p, .int .i64 e.left, .bool e.ready] 105 (0, 0))
      cases hr : e.ready with
      | false =>
        rw [hr] at h5 hu5
        simp [h4, putB_same (blk_lt h4), hr]
        exact ⟨own, ⟨_, _, _, _, _, _, h5⟩, fun _ hb => .inl hb, hu5⟩
      | true =>
        rw [hr] at h5 hu5
        simp [h4, putB_same (blk_lt h4), hr]
        refine callK_of (last_calls h5 (up_same _ _ _) fun i hi => ?_) ?_
        · refine Nat.lt_of_le_of_lt ?_ (hq i hi)
          show (up S.q e.at (without t (S.q e.at)) i).length ≤ _
          by_cases e2 : (i : Int) = e.at
          · rw [e2, up_same]; exact List.length_filter_le _ _
          · rw [up_other _ _ _ _ e2]; exact Nat.le_refl _
        rintro r w3 ⟨rfl, ⟨own', lv2, h6, h7⟩, h8⟩
        refine ⟨_, rfl, own', ⟨_, _, _, _, _, _, h6⟩, fun b hb => ?_, hu5.trans h8 fun b _ hb => hb⟩
        rcases h7 b hb with h | h
        · exact .inl h
        · right; have := hu5.size; omega

theorem bld105 (d p : Int) (ty : TypeId) (w : World) (K : Value → World → Prop) :
    opK Try.prog (.build 105 #[(0, .const (.int .i64 d)), (1, .const (.int .i64 p))]) ty w K = K (.agg #[.int .i64 d, .int .i64 p, .int .i64 0, .bool false]) w := opK_of (by kernel_rfl) rfl
@[simp] theorem agg_cells (cs : Array Value) : (Value.agg cs).cells = cs := rfl

theorem Add_calls (h : SchedAt own w x S tv m lv l c eb) (t d p : Int) :
    Calls Try.prog 13 #[.pointer (some ⟨x, 0, none⟩), .int .i64 t, .int .i64 d, .int .i64 p] w fun en w' => en = .returned (.int .i64 (S.add t d p).1) ∧ SchedNext own w w' x (S.add t d p).2 := by
  apply vk13
  unfold PS.add
  cases hpd : decide (t < 0 ∨ d < 0 ∨ 8 ≤ d ∨ p < 0 ∨ 8 ≤ p) with
  | true =>
    have hp := of_decide_eq_true hpd
    have hp' : (((t < 0 ∨ d < 0) ∨ 8 ≤ d) ∨ p < 0) ∨ 8 ≤ p := by omega
    simp only [hp, if_true]
    simp [vc13, hp']
    exact .same h
  | false =>
    have hp := of_decide_eq_false hpd
    have hp' : ¬ ((((t < 0 ∨ d < 0) ∨ 8 ≤ d) ∨ p < 0) ∨ 8 ≤ p) := by omega
    simp only [hp, if_false]
    cases he : S.all t with
    | some e =>
      simp [vc13, hp', h.head, look92 h.map, h.here he]
      exact .same h
    | none =>
      have hlt : ∀ b, own b ≠ none → b < w.heap.size := h.lt
      have hm1 : (w.alloc (.cells #[.int .i64 d, .int .i64 p, .int .i64 0, .bool false] 105)).heap[m]? = some (.map (ents l) c) := by rw [alloc_old (blk_lt h.map)]; exact h.map
      simp [vc13, hp', h.head, look92 h.map, h.gone he, bld105, upd92 hm1]
      have hmn : m ≠ w.heap.size := fun e => by have := blk_lt h.map; omega
      refine ⟨fun b => if b = w.heap.size then some (.ent t) else own b, ⟨_, _, _, _, _, _, h.addEnt (e := ⟨d, p, 0, false⟩) (nb := w.heap.size) he ?_ (putB_same (blk_lt hm1) _) ?_ ?_ ?_ ?_⟩, fun b hb => ?_, Upd.putB ((Upd.refl _ w).alloc _) (.inr ?_) _⟩
      · rw [putB_other hmn.symm]; exact alloc_new _ _
      · simp only; omega
      · intro b hb hbm
        rw [putB_other hbm]; exact alloc_old (h.lt b hb) _
      · cases ho : own w.heap.size with
        | none => rfl
        | some T => have := h.lt w.heap.size (by rw [ho]; simp); omega
      · simp
      · by_cases e : b = w.heap.size
        · right; omega
        · simp only [if_neg e] at hb; exact .inl hb
      · rw [h.o_map]; simp
end
end Go.Proofs.Ytaniphdbebdhhaa
