/-
  The document's scheduler: Next, Add, Remove. No condition.
-/
import Derived.Test.YtaniphdbebdhhaaRf2
namespace Go.Proofs.Ytaniphdbebdhhaa
open Go.Vk Vk.Sched

structure ROk (R : RS) : Prop where
  len : 1 ≤ R.turns.length ∧ R.turns.length ≤ 16
  each : ∀ t ∈ R.turns, 0 ≤ t.1 ∧ t.1 < 8 ∧ 1 ≤ t.2 ∧ t.2 ≤ 1000
  turn : 0 ≤ R.turn ∧ R.turn < R.turns.length
  left : 0 ≤ R.left ∧ R.left ≤ 1000
  clock : 0 ≤ R.clock ∧ R.clock < 1000000000
  big : R.L.length < 1000000000

section
variable {own : Nat → Option RTag} {w w' : World} {x : Nat} {R : RS} {tv lv : Value}

theorem rtgetD {i : Int} (h0 : 0 ≤ i) (h1 : i < R.turns.length) : ∃ hi : i.toNat < R.turns.length, R.turns.getD i.toNat (0, 0) = R.turns[i.toNat] := ⟨by omega, by rw [List.getD_eq_getElem?_getD, List.getElem?_eq_getElem (by omega)]; rfl⟩

theorem ROk.tick (h : ROk R) : ROk R.tick := by
  have ⟨l1, l2⟩ := h.len
  have ⟨t1, t2⟩ := h.turn
  have ⟨f1, f2⟩ := h.left
  unfold RS.tick
  by_cases e : R.left = 0
  · rw [if_pos e]
    have hm0 : 0 ≤ (R.turn + 1) % (R.turns.length : Int) := Int.emod_nonneg _ (by omega)
    have hm1 : (R.turn + 1) % (R.turns.length : Int) < R.turns.length := Int.emod_lt_of_pos _ (by omega)
    obtain ⟨hi, hg⟩ := rtgetD hm0 hm1
    have := h.each _ (List.getElem_mem hi)
    refine ⟨h.len, h.each, ⟨hm0, hm1⟩, ?_, h.clock, h.big⟩
    simp only [hg]
    omega
  · rw [if_neg e]
    exact ⟨h.len, h.each, h.turn, by simp only; omega, h.clock, h.big⟩

theorem lastAt_len (i : Nat) : (R.lastAt i).L.length = R.L.length := by simp [RS.lastAt]

set_option maxRecDepth 100000 in
theorem RNext_calls (h : RefAt own w x R tv lv) (hok : ROk R) :
    Calls Try.prog 45 #[.pointer (some ⟨x, 0, none⟩)] w fun en w' => en = .returned (.int .i64 R.next.1) ∧ RefNext own w w' x R.next.2 := by
  have ⟨l1, l2⟩ := hok.len
  have ⟨t1, t2⟩ := hok.turn
  have ⟨f1, f2⟩ := hok.left
  rcases row_open h.turns with ⟨_, h0, _⟩ | ⟨g, cap, rest, rfl, hg, hn, hm, hs, hl⟩
  · omega
  have hgx : g ≠ x := fun e => by have := h.o_turns g rfl; rw [e, h.o_head] at this; simp at this
  have hmo : ((R.turn + 1).tmod (R.turns.length : Int)) = (R.turn + 1) % R.turns.length := Int.tmod_eq_emod_of_nonneg (by omega)
  have hw1 : IntKind.i64.wrap (R.turn + 1) = R.turn + 1 := wrap_i64 (by omega) (by omega)
  have hhead := h.head
  unfold refCells at hhead
  apply vk45
  unfold vc45
  refine joinK0 (fun w' => ∃ turn' left', w'.heap[x]? = some (.cells #[.slice (some ⟨g, 0, none⟩) R.turns.length cap, .int .i64 turn', .int .i64 left', lv, .int .i64 R.clock] 102 (0, 0)) ∧ Upd (fun b => b = x) w w' ∧ R.tick = { R with turn := turn', left := left' - 1 } ∧ 1 ≤ left' ∧ left' ≤ 1000) ?_ ?_
  · by_cases e : R.left = 0
    · have hn0 : (R.turns.length : Int) ≠ 0 := by omega
      have hm0 : 0 ≤ (R.turn + 1) % (R.turns.length : Int) := Int.emod_nonneg _ (by omega)
      have hm1 : (R.turn + 1) % (R.turns.length : Int) < R.turns.length := Int.emod_lt_of_pos _ (by omega)
      obtain ⟨hi, hgd⟩ := rtgetD (R := R) hm0 hm1
      have htc := (turn_cell hi rest).2
      have he := hok.each _ (List.getElem_mem hi)
      have hgx1 := blk_lt h.head
      have hgg : ∀ o, (putB w.drew x o).heap[g]? = some (.cells (turnCells R.turns ++ rest).toArray 36 (0, 0)) := fun o => by rw [putB_other hgx]; exact hg
      simp [hhead, e, hw1, stK_int_rem _ _ _ _ _ hn0, hmo, putB_same (w := w.drew) hgx1, hm0, hm1, hgg, htc]
      refine ⟨_, _, putB_same (by simpa using hgx1) _, (((Upd.refl (fun b => b = x) w).drew.putB (.inr rfl) _).drew.putB (.inr rfl) _), ?_, he.2.2.1, he.2.2.2⟩
      unfold RS.tick
      rw [if_pos e]
      simp only [hgd]
    · simp [hhead, e]
      refine ⟨_, _, ⟨rfl, rfl⟩, Upd.refl _ _, ?_, ?_, f2⟩
      · unfold RS.tick; rw [if_neg e]
      · omega
  rintro w1 ⟨turn', left', hx1, hu1, htick, b1, b2⟩
  have hokT := hok.tick
  rw [htick] at hokT
  have ⟨u1, u2⟩ := hokT.turn
  simp only at u1 u2
  obtain ⟨hi, hgd⟩ := rtgetD (R := R) u1 u2
  have hdm := hok.each _ (List.getElem_mem hi)
  have htc := (turn_cell hi rest).1
  have hx1l := blk_lt hx1
  have hws : IntKind.i64.wrap (left' - 1) = left' - 1 := wrap_i64 (by omega) (by omega)
  have hgg : ∀ o, (putB w1 x o).heap[g]? = some (.cells (turnCells R.turns ++ rest).toArray 36 (0, 0)) := fun o => by rw [putB_other hgx, hu1.old g (blk_lt hg) hgx]; exact hg
  simp [hx1, hws, putB_same hx1l, u1, u2, hgg, htc]
  have hT := h.setHead (R' := { R with turn := turn', left := left' - 1 }) (w' := (putB w1 x (.cells #[.slice (some ⟨g, 0, none⟩) R.turns.length cap, .int .i64 turn', .int .i64 (left' - 1), lv, .int .i64 R.clock] 102 (0, 0))).drew) rfl rfl (putB_same hx1l _)
    (fun b hb hbx => by show (putB _ _ _).heap[b]? = _; rw [putB_other hbx, hu1.old b (h.lt b hb) hbx]) (by have := hu1.size; simpa using this)
  have hu2 : Upd (fun b => own b ≠ none) w (putB w1 x (.cells #[.slice (some ⟨g, 0, none⟩) R.turns.length cap, .int .i64 turn', .int .i64 (left' - 1), lv, .int .i64 R.clock] 102 (0, 0))).drew :=
    ((hu1.mono (G := fun b => own b ≠ none) fun b hb => by rw [hb, h.o_head]; simp).putB (.inr (by rw [h.o_head]; simp)) _).drew
  have hdom : R.tick.dom = R.turns[turn'.toNat].1 := by rw [htick]; unfold RS.dom; rw [hgd]
  have hnext : R.next = (match (match R.tick.first R.tick.dom with
      | some i => if (R.tick.L.getD i ⟨0, 0, 0, 0, 0⟩).left = 0 then (R.tick.lastAt i, (R.tick.lastAt i).first R.tick.dom) else (R.tick, some i)
      | none => (R.tick, none)) with
    | (R1, none) => (-1, R1)
    | (R1, some i) => ((R1.L.getD i ⟨0, 0, 0, 0, 0⟩).num, { R1 with L := R1.L.modify i fun e => { e with left := dec e.left } })) := rfl
  rw [hdom] at hnext
  rw [← htick] at hT hokT
  generalize (putB w1 x (.cells #[.slice (some ⟨g, 0, none⟩) R.turns.length cap, .int .i64 turn', .int .i64 (left' - 1), lv, .int .i64 R.clock] 102 (0, 0))).drew = w2 at hT hu2 ⊢
  generalize R.tick = T at hT hokT hnext
  generalize R.turns[turn'.toNat].1 = d at hnext ⊢
  generalize R.next = res at hnext
  generalize (Value.slice (some ⟨g, 0, none⟩) R.turns.length cap) = tv at hT
  have hlt2 : ∀ b, own b ≠ none → b < w2.heap.size := hT.lt
  clear hdm hdom htick hx1 hgg hgd htc h hok hhead
  refine callK_of (rfirst_calls hT hokT.big d) ?_
  rintro r w3 ⟨rfl, hu3⟩
  refine ⟨_, rfl, ?_⟩
  have hT3 : RefAt own w3 x T tv lv := hT.frame (fun b hb => hu3.old b (hT.lt b hb) (fun f => f)) hu3.size
  have hu4 := hu2.trans hu3 fun b _ hb => hb.elim
  refine joinK1 (fun v w4 => ∃ (T1 : RS) (o : Option Nat), v = .int .i64 (optI o) ∧ RefAt own w4 x T1 tv lv ∧ Upd (fun b => own b ≠ none) w w4 ∧ (∀ i, o = some i → i < T1.L.length) ∧
    res = (match o with
      | none => (-1, T1)
      | some i => ((T1.L.getD i ⟨0, 0, 0, 0, 0⟩).num, { T1 with L := T1.L.modify i fun e => { e with left := dec e.left } }))) ?_ ?_
  · cases hf : T.first d with
    | none =>
      rw [hf] at hnext
      have hm1 : optI none = -1 := rfl
      simp [hm1]
      exact ⟨T, none, hm1.symm, hT3, hu4, fun i h => (by cases h), hnext⟩
    | some i =>
      have hi : i < T.L.length := firstTo_lt _ _ _ _ hf
      rw [hf] at hnext
      simp only [LgetD hi] at hnext
      have hm1 : optI (some i) = (i : Int) := rfl
      obtain ⟨g4, cap4, rest4, rfl, hg4, hgx4, hgo4, _⟩ := hT3.open hi
      have hhead4 := hT3.head
      unfold refCells at hhead4
      have r4 := re_get T.L rest4 hi
      by_cases e : T.L[i].left = 0
      · rw [if_pos e] at hnext
        simp [hm1, hhead4, hg4, hi, r4.2.2.2.1, e]
        refine callK_of (rlast_calls hT3 hi hokT.clock) ?_
        rintro r w5 ⟨rfl, h5, h6⟩
        refine ⟨_, rfl, ?_⟩
        have hu6 := hu4.trans h6 fun _ _ hb => hb
        refine callK_of (rfirst_calls h5 (by rw [lastAt_len]; exact hokT.big) d) ?_
        rintro r w6 ⟨rfl, hu7⟩
        refine ⟨_, rfl, ?_⟩
        refine ⟨T.lastAt i, (T.lastAt i).first d, rfl, h5.frame (fun b hb => hu7.old b (h5.lt b hb) (fun f => f)) hu7.size, hu6.trans hu7 fun b _ hb => hb.elim, fun j hj => firstTo_lt _ _ _ _ hj, ?_⟩
        rw [hnext]
        cases (T.lastAt i).first d <;> rfl
      · rw [if_neg e] at hnext
        simp [hm1, hhead4, hg4, hi, r4.2.2.2.1, e]
        exact ⟨T, some i, hm1.symm, hT3, hu4, fun j hj => by cases hj; exact hi, by simpa [LgetD hi] using hnext⟩
  rintro v w4 ⟨T1, o, rfl, hR, hu, ho, rfl⟩
  cases o with
  | none =>
    have hm1 : optI none = -1 := rfl
    simp [hm1]
    exact ⟨own, ⟨_, _, hR⟩, fun _ hb => .inl hb, hu⟩
  | some i =>
    have hi := ho i rfl
    have hm1 : optI (some i) = (i : Int) := rfl
    have hi0 : ¬ ((i : Int) < 0) := by omega
    obtain ⟨g4, cap4, rest4, rfl, hg4, hgx4, hgo4, _⟩ := hR.open hi
    have hhead4 := hR.head
    unfold refCells at hhead4
    have r4 := re_get T1.L rest4 hi
    have hmm : (T1.L.modify i fun e => { e with left := dec T1.L[i].left }) = T1.L.modify i fun e => { e with left := dec e.left } := by
      apply List.ext_getElem?
      intro j
      simp only [List.getElem?_modify]
      by_cases e : i = j
      · subst e; simp [hi]
      · simp [e]
    have hgt := (re_get (T1.L.modify i fun e => { e with left := dec T1.L[i].left }) rest4 (i := i) (by simpa using hi)).1
    have hxg : ∀ (w : World) (o : Obj), (putB w g4 o).heap[x]? = w.heap[x]? := fun w o => putB_other hgx4.symm o
    have hgl := blk_lt hg4
    simp [hm1, hi0, hhead4, hg4, hi, r4.2.2.2.1, wrap_dec, (re_set T1.L rest4 hi _).2.1, hxg, putB_same hgl, hgt]
    refine ⟨re_lt _ _ hi (by omega), own, ⟨_, _, hR.setEnts (g := g4) (cap := cap4) (rest := rest4) rfl hg4 rfl rfl rfl rfl (by simp) ?_ (fun b hb hbg => by rw [putB_other hbg]) (by simp)⟩, fun _ hb => .inl hb, hu.putB (.inr (by rw [hgo4]; simp)) _⟩
    rw [hmm]
    exact putB_same hgl _
end
end Go.Proofs.Ytaniphdbebdhhaa
