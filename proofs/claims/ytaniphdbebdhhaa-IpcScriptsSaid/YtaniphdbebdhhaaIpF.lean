/-
  The law's step on ends and bells. No condition.
-/
import Derived.Test.YtaniphdbebdhhaaIpE
namespace Go.Proofs.Ytaniphdbebdhhaa.Ipc
open Go.Vk Vk.Ipc

theorem grow_opn (R : RB) (i : Int) (b : Bool) : (R.opn i b).2.P.length ≤ R.P.length + 1 ∧ (R.opn i b).2.W.length ≤ R.W.length + 1 := by
  unfold RB.opn; split
  · exact ⟨by simp, by simp⟩
  · split
    · exact ⟨by simp, by simp⟩
    · exact ⟨by simp, by simp⟩
theorem grow_drop (R : RB) (i : Nat) : (R.drop i).P.length ≤ R.P.length + 1 ∧ (R.drop i).W.length ≤ R.W.length + 1 := by
  unfold RB.drop; exact ⟨by simp, by simp; omega⟩
theorem grow_addw (R : RB) (x : RW) : (R.add x).P.length ≤ R.P.length + 1 ∧ (R.add x).W.length ≤ R.W.length + 1 := by
  unfold RB.add; exact ⟨by simp, by simp⟩
theorem grow_word (R : RB) (i : Nat) (x : Int) : (R.setWord i x).P.length ≤ R.P.length + 1 ∧ (R.setWord i x).W.length ≤ R.W.length + 1 := by
  unfold RB.setWord; exact ⟨by simp, by simp⟩
theorem grow_none (R : RB) : R.P.length ≤ R.P.length + 1 ∧ R.W.length ≤ R.W.length + 1 := ⟨by omega, by omega⟩
theorem grow_send (R : RB) (i t how : Int) (m : Msg) : (R.send i t how m).2.P.length ≤ R.P.length + 1 ∧ (R.send i t how m).2.W.length ≤ R.W.length + 1 := by
  unfold RB.send
  repeat' split
  all_goals first | exact grow_none R | exact grow_drop R _ | exact grow_addw R _
theorem grow_get (R : RB) (i t : Int) (b : Bool) : (R.get i t b).2.P.length ≤ R.P.length + 1 ∧ (R.get i t b).2.W.length ≤ R.W.length + 1 := by
  unfold RB.get
  repeat' split
  all_goals first | exact grow_none R | exact grow_drop R _ | exact grow_addw R _
theorem grow_ring (R : RB) (bor : Int → Int → Int) (i b : Int) : (R.ring bor i b).2.P.length ≤ R.P.length + 1 ∧ (R.ring bor i b).2.W.length ≤ R.W.length + 1 := by
  unfold RB.ring
  repeat' split
  all_goals first | exact grow_none R | exact grow_drop R _ | exact grow_word R _ _
theorem grow_hear (R : RB) (i t : Int) (b : Bool) : (R.hear i t b).2.P.length ≤ R.P.length + 1 ∧ (R.hear i t b).2.W.length ≤ R.W.length + 1 := by
  unfold RB.hear
  repeat' split
  all_goals first | exact grow_none R | exact grow_addw R _ | exact grow_word R _ _
theorem grow_cancel (R : RB) (t : Int) : (R.cancel t).2.P.length ≤ R.P.length + 1 ∧ (R.cancel t).2.W.length ≤ R.W.length + 1 := by
  unfold RB.cancel
  split
  · exact grow_none R
  · exact grow_drop R _

theorem BB.store {G G' : Nat → Prop} {w W : World} {x y B : Nat} {S : PB} {R : RB} {k : Nat} (h : BB G' W x y B S R k) (st : Step G G' w W) {p : Nat} (hp : w.heap.size ≤ p) (hn : ¬ G' p) (o : Obj) : BB G' (putB W p o) x y B S R k ∧ Step G G' w (putB W p o) :=
  ⟨h.frame (F := fun c => c = p) (Upd.putB (F := fun c => c = p) (Upd.refl _ W) (.inr rfl) _) fun b e => by rw [e]; exact hn, ⟨st.1, st.2.putB (.inl hp) _⟩⟩

theorem SentJ.go {G G' : Nat → Prop} {w W : World} {x y B b0 : Nat} {cs : Array Value} {S' : PB} {R : RB} {k : Nat} {o : Out} (h : BB G' W x y B S' R k) (st : Step G G' w W) {p : Nat} {z : Array Value} (hp : W.heap[p]? = some (.cells z 66 (0, 0))) (hz : z.size = 11) (hpw : w.heap.size ≤ p) (hn : ¬ G' p) (hb : W.heap[b0]? = some (.cells cs 50 (0, 0))) (hpb : p ≠ b0)
    {K : World → Prop} (hK : ∀ w', BB G' w' x y B S' R k → Step G G' w w' → w'.heap[p]? = some (.cells (outCells o).toArray 66 (0, 0)) → w'.heap[b0]? = some (.cells cs 50 (0, 0)) → K w') : stn 11 (.pointer (some ⟨p, 0, none⟩)) (outV o) W fun _ w' => K w' := by
  refine full66 hp hz ?_
  obtain ⟨h5, st5⟩ := h.store st hpw hn (.cells (outCells o).toArray 66 (0, 0))
  exact hK _ h5 st5 (putB_same (blk_lt hp) _) (by rw [putB_other (fun e => hpb e.symm)]; exact hb)

/-- How things stand where an outcome has been stored. -/
def SentJ (G : Nat → Prop) (w : World) (x y B b0 : Nat) (cs : Array Value) (S' : PB) (R : RB) (k : Nat) (o : Out) (v : Value) (w' : World) : Prop :=
  ∃ p G', v = .pointer (some ⟨p, 0, none⟩) ∧ BB G' w' x y B S' R k ∧ Step G G' w w' ∧ w'.heap[p]? = some (.cells (outCells o).toArray 66 (0, 0)) ∧ ¬ G' p ∧ w'.heap[b0]? = some (.cells cs 50 (0, 0)) ∧ ¬ G' b0
theorem SentJ.now {G G' : Nat → Prop} {w W : World} {x y B b0 : Nat} {cs : Array Value} {S' : PB} {R : RB} {k : Nat} {o : Out} (h : BB G' W x y B S' R k) (st : Step G G' w W) {p : Nat} {z : Array Value} (hp : W.heap[p]? = some (.cells z 66 (0, 0))) (hz : z.size = 11) (hpw : w.heap.size ≤ p) (hn : ¬ G' p) (hb : W.heap[b0]? = some (.cells cs 50 (0, 0))) (hnb : ¬ G' b0) (hpb : p ≠ b0)
    {M : Value → World → Prop} (hM : ∀ v w', SentJ G w x y B b0 cs S' R k o v w' → M v w') : stn 11 (.pointer (some ⟨p, 0, none⟩)) (outV o) W fun _ w' => M (.pointer (some ⟨p, 0, none⟩)) w' := by
  refine full66 hp hz (hM _ _ ?_)
  obtain ⟨h5, st5⟩ := h.store st hpw hn (.cells (outCells o).toArray 66 (0, 0))
  exact ⟨p, G', rfl, h5, st5, putB_same (blk_lt hp) _, hn, by rw [putB_other (fun e => hpb e.symm)]; exact hb, hnb⟩

theorem SentJ.both {G G' : Nat → Prop} {w W : World} {x y B b0 p1 : Nat} {cs : Array Value} {S' : PB} {R : RB} {k : Nat} {o o1 : Out} (h : BB G' W x y B S' R k) (st : Step G G' w W) {p : Nat} {z : Array Value} (hp : W.heap[p]? = some (.cells z 66 (0, 0))) (hz : z.size = 11) (hpw : w.heap.size ≤ p) (hn : ¬ G' p) (hb : W.heap[b0]? = some (.cells cs 50 (0, 0))) (hnb : ¬ G' b0) (hpb : p ≠ b0)
    (h1 : W.heap[p1]? = some (.cells (outCells o1).toArray 66 (0, 0))) (hp1 : p ≠ p1) : stn 11 (.pointer (some ⟨p, 0, none⟩)) (outV o) W fun _ w' => SentJ G w x y B b0 cs S' R k o (.pointer (some ⟨p, 0, none⟩)) w' ∧ w'.heap[p1]? = some (.cells (outCells o1).toArray 66 (0, 0)) := by
  refine full66 hp hz ?_
  obtain ⟨h5, st5⟩ := h.store st hpw hn (.cells (outCells o).toArray 66 (0, 0))
  exact ⟨⟨p, G', rfl, h5, st5, putB_same (blk_lt hp) _, hn, by rw [putB_other (fun e => hpb e.symm)]; exact hb, hnb⟩, (putB_other (fun e => hp1 e.symm) _).trans h1⟩

section
variable {G : Nat → Prop} {w w' : World} {x y B : Nat} {S : PB} {R : RB} {k : Nat}

set_option maxRecDepth 100000 in
set_option maxHeartbeats 2000000 in
theorem passes_calls (h : BB G w x y B S R k) (sim : Sim S R) (hP : R.P.length < 900000000) (hW : R.W.length < 900000000) (hk : k < 900000000) {cs : Array Value} {kd a b c d : Int}
    (c0 : cs[0]? = some (.int .i64 kd)) (c1 : cs[1]? = some (.int .i64 a)) (c2 : cs[2]? = some (.int .i64 b)) (c3 : cs[3]? = some (.int .i64 c)) (c4 : cs[4]? = some (.int .i64 d)) :
    Calls Try.prog 21 #[.pointer (some ⟨x, 0, none⟩), .pointer (some ⟨y, 0, none⟩), .pointer (some ⟨B, 0, none⟩), .agg cs] w (PassPost G w x y B R k) := by
  apply vk21
  unfold vc21
  rw [opK_box]
  have hb0 : (w.alloc (.cells (Value.agg cs).cells 50)).heap[w.heap.size]? = some (.cells cs 50 (0, 0)) := alloc_new _ _
  have hnG : ¬ G w.heap.size := fun hg => by have := h.lt hg; omega
  have h1 := h.alloc (.cells (Value.agg cs).cells 50)
  have st1 := (Step.refl G w).alloc (.cells (Value.agg cs).cells 50)
  obtain ⟨w1, hw1⟩ : ∃ w1, w.alloc (.cells (Value.agg cs).cells 50) = w1 := ⟨_, rfl⟩
  obtain ⟨b0, hb0'⟩ : ∃ b0, w.heap.size = b0 := ⟨_, rfl⟩
  rw [hw1, hb0'] at hb0
  rw [hb0'] at hnG
  rw [hw1] at h1 st1
  rw [hw1, hb0']
  simp [hb0, c1]
  refine callK_of (near_calls a 5 (by decide)) ?_
  rintro r w2 ⟨rfl, rfl⟩
  refine ⟨_, rfl, ?_⟩
  simp [hb0, c2]
  refine callK_of (pick_calls b 6 (by decide)) ?_
  rintro r w2 ⟨rfl, rfl⟩
  refine ⟨_, rfl, ?_⟩
  simp [hb0, c0]
  have hq := sim_hq sim (show R.W.length < 1000000000 by omega)
  have hwp := sim_hwp sim
  have hP' : R.P.length < 1000000000 := by omega
  have hW' : R.W.length < 1000000000 := by omega
  have near9 : ∀ (v : Int) (w : World) (K : Value → Prop), K (.int .i64 (nearV v 9)) → stcK Try.prog 24 #[.int .i64 v, .int .i64 9] w K := fun v w K hK => stcK_of (near_calls v 9 (by decide)) hK
  generalize hA : nearV a 5 = A
  generalize pickV b 6 = T
  by_cases hkd : kd = 1
  · simp [hkd, c2]
    refine callK_of (h1.useS1 (Pe := fun en => en = .returned (.int .i64 (S.opn A (b.tmod 2 != 0)).1)) (S' := (S.opn A (b.tmod 2 != 0)).2) fun own m1 m2 l1 c1 l2 c2 pb lv hs => Open_calls hs _ _) ?_
    rintro r w3 ⟨rfl, G3, h3, s3⟩
    refine ⟨_, rfl, ?_⟩
    obtain ⟨hb3, _⟩ := s3.keep hb0 hnG
    simp [hb3, c2]
    refine callK_of (h3.useR1 (Pe := fun en => en = .returned (.int .i64 (R.opn A (b.tmod 2 != 0)).1)) (R' := (R.opn A (b.tmod 2 != 0)).2) fun own pv wv hr => DOpen hr hP' _ _) ?_
    rintro r w4 ⟨rfl, G4, h4, s4⟩
    refine ⟨_, rfl, ?_⟩
    obtain ⟨e, sim'⟩ := sim.opn A (b.tmod 2 != 0)
    obtain ⟨g1, g2⟩ := grow_opn R A (b.tmod 2 != 0)
    simp [e]
    exact ⟨rfl, G4, _, _, _, h4, sim', g1, g2, by omega, (st1.trans s3).trans s4, keeps_opn R hA _⟩
  have n1 := hkd
  clear hkd
  simp only [n1, if_false]
  by_cases hkd : kd = 2
  · simp [hkd, c3, c4]
    have hs1 : w.heap.size ≤ w2.heap.size := st1.2.size
    have hbl := blk_lt hb0
    refine joinK1 (SentJ G w x y B b0 cs (S.send A T (nearV c 9) (msgOf d)).2 R k (S.send A T (nearV c 9) (msgOf d)).1) ?_ ?_
    · refine near9 _ _ _ ?_
      refine ⟨?_, ?_, ?_, ?_, ?_⟩
      · refine callK_of (messageOf_calls d _) ?_
        rintro r w3 ⟨rfl, hu3⟩
        refine ⟨_, rfl, ?_⟩
        have h3 := h1.drew.same hu3
        have st3 := st1.drew.upd hu3
        have hb3 := (hu3.old b0 hbl fun f => f).trans hb0
        refine ⟨?_, ?_⟩
        · refine callK_of (h3.useS1 (Pe := fun en => en = .returned (outV (S.send A T (nearV c 9) (msgOf d)).1)) (S' := (S.send A T (nearV c 9) (msgOf d)).2) fun own m1 m2 l1 c1 l2 c2 pb lv hs => Send_calls hs hq _ _ _ _) ?_
          rintro r w4 ⟨rfl, G4, h4, s4⟩
          refine ⟨_, rfl, ?_⟩
          obtain ⟨hb4, hnb4⟩ := s4.keep hb3 hnG
          obtain ⟨W5, hW5, hu5, p5, hs5⟩ := one w4 (.cells zero66 66)
          rw [hW5]
          have st4 := st3.trans s4
          have := blk_lt hb4
          exact SentJ.now (h4.same hu5) (st4.upd hu5) p5 z66 st4.2.size (fun hg => by have := h4.lt hg; omega) ((hu5.old b0 (blk_lt hb4) fun f => f).trans hb4) hnb4 (by omega) fun _ _ hj => hj
        · obtain ⟨W5, hW5, hu5, p5, hs5⟩ := one w3 (.cells zero66 66)
          rw [hW5]
          have h5 := h3.same hu5
          have st5 := st3.upd hu5
          have hb5 := (hu5.old b0 (blk_lt hb3) fun f => f).trans hb3
          have hnp : ¬ G w3.heap.size := fun hg => by have := h3.lt hg; omega
          have := blk_lt hb3
          refine callK_of (h5.useS1 (Pe := fun en => en = .returned (outV (S.send A T (nearV c 9) (msgOf d)).1)) (S' := (S.send A T (nearV c 9) (msgOf d)).2) fun own m1 m2 l1 c1 l2 c2 pb lv hs => Send_calls hs hq _ _ _ _) ?_
          rintro r w4 ⟨rfl, G4, h4, s4⟩
          refine ⟨_, rfl, ?_⟩
          obtain ⟨hb4, hnb4⟩ := s4.keep hb5 hnG
          obtain ⟨p4, hnp4⟩ := s4.keep p5 hnp
          exact SentJ.now h4 (st5.trans s4) p4 z66 st3.2.size hnp4 hb4 hnb4 (by omega) fun _ _ hj => hj
      · rw [alloc_old (w := w2.drew) hbl]; simp [hb0, c4]
      · exact near9 _ _ _ rfl
      · rw [alloc_old (w := w2.drew) hbl]; simp [hb0, c3]
      · obtain ⟨W3, hW3, hu3, p3, hs3⟩ := one w2.drew (.cells zero66 66)
        rw [hW3]
        have hs3' : W3.heap.size = w2.heap.size + 1 := hs3
        have h3 := h1.drew.same hu3
        have st3 := st1.drew.upd hu3
        have hb3 := (hu3.old b0 hbl fun f => f).trans hb0
        have hnp : ¬ G w2.heap.size := fun hg => by have := h1.lt hg; omega
        refine callK_of (messageOf_calls d _) ?_
        rintro r w4 ⟨rfl, hu4⟩
        refine ⟨_, rfl, ?_⟩
        have h4 := h3.same hu4
        have st4 := st3.upd hu4
        have hb4 := (hu4.old b0 (blk_lt hb3) fun f => f).trans hb3
        have p4 := (hu4.old w2.heap.size (by omega) fun f => f).trans p3
        refine callK_of (h4.useS1 (Pe := fun en => en = .returned (outV (S.send A T (nearV c 9) (msgOf d)).1)) (S' := (S.send A T (nearV c 9) (msgOf d)).2) fun own m1 m2 l1 c1 l2 c2 pb lv hs => Send_calls hs hq _ _ _ _) ?_
        rintro r w5 ⟨rfl, G5, h5, s5⟩
        refine ⟨_, rfl, ?_⟩
        obtain ⟨hb5, hnb5⟩ := s5.keep hb4 hnG
        obtain ⟨p5, hnp5⟩ := s5.keep p4 hnp
        exact SentJ.now h5 (st4.trans s5) p5 z66 hs1 hnp5 hb5 hnb5 (by omega) fun _ _ hj => hj
    rintro v13 v2 ⟨p1, G2, rfl, h2, st2, hp1, hnp1, hb2, hnb2⟩
    have hs2 : w.heap.size ≤ v2.heap.size := st2.2.size
    have hbl2 := blk_lt hb2
    refine joinK1 (fun v w' => SentJ G w x y B b0 cs (S.send A T (nearV c 9) (msgOf d)).2 (R.send A T (nearV c 9) (msgOf d)).2 k (R.send A T (nearV c 9) (msgOf d)).1 v w' ∧ w'.heap[p1]? = some (.cells (outCells (S.send A T (nearV c 9) (msgOf d)).1).toArray 66 (0, 0))) ?_ ?_
    · simp [hb2, c3, c4]
      refine near9 _ _ _ ?_
      refine ⟨?_, ?_, ?_, ?_, ?_⟩
      · refine callK_of (messageOf_calls d _) ?_
        rintro r w3 ⟨rfl, hu3⟩
        refine ⟨_, rfl, ?_⟩
        have h3 := h2.drew.same hu3
        have st3 := st2.drew.upd hu3
        have hb3 := (hu3.old b0 hbl2 fun f => f).trans hb2
        have hp3 := (hu3.old p1 (blk_lt hp1) fun f => f).trans hp1
        refine ⟨?_, ?_⟩
        · refine callK_of (h3.useR1 (Pe := fun en => en = .returned (outV (R.send A T (nearV c 9) (msgOf d)).1)) (R' := (R.send A T (nearV c 9) (msgOf d)).2) fun own pv wv hr => DSend hr hP' hW' _ _ _ _) ?_
          rintro r w4 ⟨rfl, G4, h4, s4⟩
          refine ⟨_, rfl, ?_⟩
          obtain ⟨hb4, hnb4⟩ := s4.keep hb3 hnb2
          obtain ⟨hp4, _⟩ := s4.keep hp3 hnp1
          obtain ⟨W5, hW5, hu5, p5, hs5⟩ := one w4 (.cells zero66 66)
          rw [hW5]
          have st4 := st3.trans s4
          have := blk_lt hb4
          have := blk_lt hp4
          exact SentJ.both (h4.same hu5) (st4.upd hu5) p5 z66 st4.2.size (fun hg => by have := h4.lt hg; omega) ((hu5.old b0 (blk_lt hb4) fun f => f).trans hb4) hnb4 (by omega) ((hu5.old p1 (blk_lt hp4) fun f => f).trans hp4) (by omega)
        · obtain ⟨W5, hW5, hu5, p5, hs5⟩ := one w3 (.cells zero66 66)
          rw [hW5]
          have h5 := h3.same hu5
          have st5 := st3.upd hu5
          have hb5 := (hu5.old b0 (blk_lt hb3) fun f => f).trans hb3
          have hp5 := (hu5.old p1 (blk_lt hp3) fun f => f).trans hp3
          have hnp : ¬ G2 w3.heap.size := fun hg => by have := h3.lt hg; omega
          have := blk_lt hb3
          have := blk_lt hp3
          refine callK_of (h5.useR1 (Pe := fun en => en = .returned (outV (R.send A T (nearV c 9) (msgOf d)).1)) (R' := (R.send A T (nearV c 9) (msgOf d)).2) fun own pv wv hr => DSend hr hP' hW' _ _ _ _) ?_
          rintro r w4 ⟨rfl, G4, h4, s4⟩
          refine ⟨_, rfl, ?_⟩
          obtain ⟨hb4, hnb4⟩ := s4.keep hb5 hnb2
          obtain ⟨hp4, _⟩ := s4.keep hp5 hnp1
          obtain ⟨p4, hnp4⟩ := s4.keep p5 hnp
          exact SentJ.both h4 (st5.trans s4) p4 z66 st3.2.size hnp4 hb4 hnb4 (by omega) hp4 (by omega)
      · rw [alloc_old (w := v2.drew) hbl2]; simp [hb2, c4]
      · exact near9 _ _ _ rfl
      · rw [alloc_old (w := v2.drew) hbl2]; simp [hb2, c3]
      · obtain ⟨W3, hW3, hu3, p3, hs3⟩ := one v2.drew (.cells zero66 66)
        rw [hW3]
        have hs3' : W3.heap.size = v2.heap.size + 1 := hs3
        have h3 := h2.drew.same hu3
        have st3 := st2.drew.upd hu3
        have hb3 := (hu3.old b0 hbl2 fun f => f).trans hb2
        have hp3 := (hu3.old p1 (blk_lt hp1) fun f => f).trans hp1
        have hnp : ¬ G2 v2.heap.size := fun hg => by have := h2.lt hg; omega
        refine callK_of (messageOf_calls d _) ?_
        rintro r w4 ⟨rfl, hu4⟩
        refine ⟨_, rfl, ?_⟩
        have h4 := h3.same hu4
        have st4 := st3.upd hu4
        have hb4 := (hu4.old b0 (blk_lt hb3) fun f => f).trans hb3
        have hp4 := (hu4.old p1 (blk_lt hp3) fun f => f).trans hp3
        have p4 := (hu4.old v2.heap.size (by omega) fun f => f).trans p3
        have := blk_lt hp1
        refine callK_of (h4.useR1 (Pe := fun en => en = .returned (outV (R.send A T (nearV c 9) (msgOf d)).1)) (R' := (R.send A T (nearV c 9) (msgOf d)).2) fun own pv wv hr => DSend hr hP' hW' _ _ _ _) ?_
        rintro r w5 ⟨rfl, G5, h5, s5⟩
        refine ⟨_, rfl, ?_⟩
        obtain ⟨hb5, hnb5⟩ := s5.keep hb4 hnb2
        obtain ⟨hp5, _⟩ := s5.keep hp4 hnp1
        obtain ⟨p5, hnp5⟩ := s5.keep p4 hnp
        exact SentJ.both h5 (st4.trans s5) p5 z66 hs2 hnp5 hb5 hnb5 (by omega) hp5 (by omega)
    rintro v14 v3 ⟨⟨p2, G3, rfl, h3, st3, hp2, _, _, _⟩, hp13⟩
    obtain ⟨e, sim'⟩ := sim.send A T (nearV c 9) (msgOf d)
    obtain ⟨g1, g2⟩ := grow_send R A T (nearV c 9) (msgOf d)
    rw [← e] at hp2
    have rdo := readN_full (outCells (S.send A T (nearV c 9) (msgOf d)).1) (out_len _)
    simp [hp13, hp2, rdo]
    rw [show Value.agg (outCells (S.send A T (nearV c 9) (msgOf d)).1).toArray = outV (S.send A T (nearV c 9) (msgOf d)).1 from rfl, opK_eq66]
    exact ⟨rfl, G3, _, _, k, h3, sim', g1, g2, by omega, st3, keeps_send R _ _ _ _⟩
  have n2 := hkd
  clear hkd
  simp only [n2, if_false]
  by_cases hkd : kd = 3
  · simp [hkd, c3]
    refine callK_of (h1.useS1 (Pe := fun en => en = .returned (outV (S.get A T (c.tmod 2 != 0)).1)) (S' := (S.get A T (c.tmod 2 != 0)).2) fun own m1 m2 l1 c1 l2 c2 pb lv hs => Get_calls hs hq _ _ _) ?_
    rintro r w3 ⟨rfl, G3, h3, s3⟩
    refine ⟨_, rfl, ?_⟩
    obtain ⟨hb3, hnb3⟩ := s3.keep hb0 hnG
    obtain ⟨W4, hW4, hu4, p4, hs4⟩ := one w3 (.cells zero66 66)
    simp [hW4]
    have st3 := st1.trans s3
    have hbl3 := blk_lt hb3
    have hnp1 : ¬ G3 w3.heap.size := fun hg => by have := h3.lt hg; omega
    refine SentJ.go (b0 := b0) (cs := cs) (o := (S.get A T (c.tmod 2 != 0)).1) (h3.same hu4) (st3.upd hu4) p4 z66 st3.2.size hnp1 ((hu4.old b0 hbl3 fun f => f).trans hb3) (by omega) ?_
    intro v2 h2 st2 hp1 hb2
    have hnb2 := hnb3
    generalize w3.heap.size = p1 at *
    simp [hb2, c3]
    refine callK_of (h2.useR1 (Pe := fun en => en = .returned (outV (R.get A T (c.tmod 2 != 0)).1)) (R' := (R.get A T (c.tmod 2 != 0)).2) fun own pv wv hr => DGet hr hP' hW' _ _ _) ?_
    rintro r w6 ⟨rfl, G6, h6, s6⟩
    refine ⟨_, rfl, ?_⟩
    obtain ⟨hp6, hnp6⟩ := s6.keep hp1 hnp1
    obtain ⟨hb6, hnb6⟩ := s6.keep hb2 hnb2
    obtain ⟨W7, hW7, hu7, p7, hs7⟩ := one w6 (.cells zero66 66)
    simp [hW7]
    have st6 := st2.trans s6
    have hbl6 := blk_lt hb6
    have hpl6 := blk_lt hp6
    have hp7 := (hu7.old p1 hpl6 fun f => f).trans hp6
    refine full66 p7 z66 ?_
    obtain ⟨h8, st8⟩ := (h6.same hu7).store (st6.upd hu7) (p := w6.heap.size) st6.2.size (fun hg => by have := h6.lt hg; omega) (.cells (outCells (R.get A T (c.tmod 2 != 0)).1).toArray 66 (0, 0))
    have q8 : (putB W7 w6.heap.size (.cells (outCells (R.get A T (c.tmod 2 != 0)).1).toArray 66 (0, 0))).heap[w6.heap.size]? = some (.cells (outCells (R.get A T (c.tmod 2 != 0)).1).toArray 66 (0, 0)) := putB_same (by omega) _
    have q1 : (putB W7 w6.heap.size (.cells (outCells (R.get A T (c.tmod 2 != 0)).1).toArray 66 (0, 0))).heap[p1]? = some (.cells (outCells (S.get A T (c.tmod 2 != 0)).1).toArray 66 (0, 0)) := (putB_other (by omega) _).trans hp7
    generalize putB W7 w6.heap.size (.cells (outCells (R.get A T (c.tmod 2 != 0)).1).toArray 66 (0, 0)) = w9 at *
    obtain ⟨e, sim'⟩ := sim.get A T (c.tmod 2 != 0)
    obtain ⟨g1, g2⟩ := grow_get R A T (c.tmod 2 != 0)
    rw [← e] at q8
    have rdo := readN_full (outCells (S.get A T (c.tmod 2 != 0)).1) (out_len _)
    simp [q1, q8, rdo]
    rw [show Value.agg (outCells (S.get A T (c.tmod 2 != 0)).1).toArray = outV (S.get A T (c.tmod 2 != 0)).1 from rfl, opK_eq66]
    exact ⟨rfl, G6, _, _, k, h8, sim', g1, g2, by omega, st8, keeps_get R _ _ _⟩
  have n3 := hkd
  clear hkd
  simp only [n3, if_false]
  by_cases hkd : kd = 4
  · simp [hkd, c4]
    refine callK_of (h1.useS1 (Pe := fun en => en = .returned (outV (S.ring bor32 A (IntKind.u32.wrap d)).1)) (S' := (S.ring bor32 A (IntKind.u32.wrap d)).2) fun own m1 m2 l1 c1 l2 c2 pb lv hs => Ring_calls hs _ _) ?_
    rintro r w3 ⟨rfl, G3, h3, s3⟩
    refine ⟨_, rfl, ?_⟩
    obtain ⟨hb3, hnb3⟩ := s3.keep hb0 hnG
    obtain ⟨W4, hW4, hu4, p4, hs4⟩ := one w3 (.cells zero66 66)
    simp [hW4]
    have st3 := st1.trans s3
    have hbl3 := blk_lt hb3
    have hnp1 : ¬ G3 w3.heap.size := fun hg => by have := h3.lt hg; omega
    refine SentJ.go (b0 := b0) (cs := cs) (o := (S.ring bor32 A (IntKind.u32.wrap d)).1) (h3.same hu4) (st3.upd hu4) p4 z66 st3.2.size hnp1 ((hu4.old b0 hbl3 fun f => f).trans hb3) (by omega) ?_
    intro v2 h2 st2 hp1 hb2
    have hnb2 := hnb3
    generalize w3.heap.size = p1 at *
    simp [hb2, c4]
    refine callK_of (h2.useR1 (Pe := fun en => en = .returned (outV (R.ring bor32 A (IntKind.u32.wrap d)).1)) (R' := (R.ring bor32 A (IntKind.u32.wrap d)).2) fun own pv wv hr => DRing hr hP' hW' _ _) ?_
    rintro r w6 ⟨rfl, G6, h6, s6⟩
    refine ⟨_, rfl, ?_⟩
    obtain ⟨hp6, hnp6⟩ := s6.keep hp1 hnp1
    obtain ⟨hb6, hnb6⟩ := s6.keep hb2 hnb2
    obtain ⟨W7, hW7, hu7, p7, hs7⟩ := one w6 (.cells zero66 66)
    simp [hW7]
    have st6 := st2.trans s6
    have hbl6 := blk_lt hb6
    have hpl6 := blk_lt hp6
    have hp7 := (hu7.old p1 hpl6 fun f => f).trans hp6
    refine full66 p7 z66 ?_
    obtain ⟨h8, st8⟩ := (h6.same hu7).store (st6.upd hu7) (p := w6.heap.size) st6.2.size (fun hg => by have := h6.lt hg; omega) (.cells (outCells (R.ring bor32 A (IntKind.u32.wrap d)).1).toArray 66 (0, 0))
    have q8 : (putB W7 w6.heap.size (.cells (outCells (R.ring bor32 A (IntKind.u32.wrap d)).1).toArray 66 (0, 0))).heap[w6.heap.size]? = some (.cells (outCells (R.ring bor32 A (IntKind.u32.wrap d)).1).toArray 66 (0, 0)) := putB_same (by omega) _
    have q1 : (putB W7 w6.heap.size (.cells (outCells (R.ring bor32 A (IntKind.u32.wrap d)).1).toArray 66 (0, 0))).heap[p1]? = some (.cells (outCells (S.ring bor32 A (IntKind.u32.wrap d)).1).toArray 66 (0, 0)) := (putB_other (by omega) _).trans hp7
    generalize putB W7 w6.heap.size (.cells (outCells (R.ring bor32 A (IntKind.u32.wrap d)).1).toArray 66 (0, 0)) = w9 at *
    obtain ⟨e, sim'⟩ := sim.ring bor32 A (IntKind.u32.wrap d)
    obtain ⟨g1, g2⟩ := grow_ring R bor32 A (IntKind.u32.wrap d)
    rw [← e] at q8
    have rdo := readN_full (outCells (S.ring bor32 A (IntKind.u32.wrap d)).1) (out_len _)
    simp [q1, q8, rdo]
    rw [show Value.agg (outCells (S.ring bor32 A (IntKind.u32.wrap d)).1).toArray = outV (S.ring bor32 A (IntKind.u32.wrap d)).1 from rfl, opK_eq66]
    exact ⟨rfl, G6, _, _, k, h8, sim', g1, g2, by omega, st8, keeps_ring R _ _ _⟩
  have n4 := hkd
  clear hkd
  simp only [n4, if_false]
  by_cases hkd : kd = 5
  · simp [hkd, c3]
    refine callK_of (h1.useS1 (Pe := fun en => en = .returned (outV (S.hear A T (c.tmod 2 != 0)).1)) (S' := (S.hear A T (c.tmod 2 != 0)).2) fun own m1 m2 l1 c1 l2 c2 pb lv hs => Hear_calls hs hq _ _ _) ?_
    rintro r w3 ⟨rfl, G3, h3, s3⟩
    refine ⟨_, rfl, ?_⟩
    obtain ⟨hb3, hnb3⟩ := s3.keep hb0 hnG
    obtain ⟨W4, hW4, hu4, p4, hs4⟩ := one w3 (.cells zero66 66)
    simp [hW4]
    have st3 := st1.trans s3
    have hbl3 := blk_lt hb3
    have hnp1 : ¬ G3 w3.heap.size := fun hg => by have := h3.lt hg; omega
    refine SentJ.go (b0 := b0) (cs := cs) (o := (S.hear A T (c.tmod 2 != 0)).1) (h3.same hu4) (st3.upd hu4) p4 z66 st3.2.size hnp1 ((hu4.old b0 hbl3 fun f => f).trans hb3) (by omega) ?_
    intro v2 h2 st2 hp1 hb2
    have hnb2 := hnb3
    generalize w3.heap.size = p1 at *
    simp [hb2, c3]
    refine callK_of (h2.useR1 (Pe := fun en => en = .returned (outV (R.hear A T (c.tmod 2 != 0)).1)) (R' := (R.hear A T (c.tmod 2 != 0)).2) fun own pv wv hr => DHear hr hP' hW' _ _ _) ?_
    rintro r w6 ⟨rfl, G6, h6, s6⟩
    refine ⟨_, rfl, ?_⟩
    obtain ⟨hp6, hnp6⟩ := s6.keep hp1 hnp1
    obtain ⟨hb6, hnb6⟩ := s6.keep hb2 hnb2
    obtain ⟨W7, hW7, hu7, p7, hs7⟩ := one w6 (.cells zero66 66)
    simp [hW7]
    have st6 := st2.trans s6
    have hbl6 := blk_lt hb6
    have hpl6 := blk_lt hp6
    have hp7 := (hu7.old p1 hpl6 fun f => f).trans hp6
    refine full66 p7 z66 ?_
    obtain ⟨h8, st8⟩ := (h6.same hu7).store (st6.upd hu7) (p := w6.heap.size) st6.2.size (fun hg => by have := h6.lt hg; omega) (.cells (outCells (R.hear A T (c.tmod 2 != 0)).1).toArray 66 (0, 0))
    have q8 : (putB W7 w6.heap.size (.cells (outCells (R.hear A T (c.tmod 2 != 0)).1).toArray 66 (0, 0))).heap[w6.heap.size]? = some (.cells (outCells (R.hear A T (c.tmod 2 != 0)).1).toArray 66 (0, 0)) := putB_same (by omega) _
    have q1 : (putB W7 w6.heap.size (.cells (outCells (R.hear A T (c.tmod 2 != 0)).1).toArray 66 (0, 0))).heap[p1]? = some (.cells (outCells (S.hear A T (c.tmod 2 != 0)).1).toArray 66 (0, 0)) := (putB_other (by omega) _).trans hp7
    generalize putB W7 w6.heap.size (.cells (outCells (R.hear A T (c.tmod 2 != 0)).1).toArray 66 (0, 0)) = w9 at *
    obtain ⟨e, sim'⟩ := sim.hear A T (c.tmod 2 != 0)
    obtain ⟨g1, g2⟩ := grow_hear R A T (c.tmod 2 != 0)
    rw [← e] at q8
    have rdo := readN_full (outCells (S.hear A T (c.tmod 2 != 0)).1) (out_len _)
    simp [q1, q8, rdo]
    rw [show Value.agg (outCells (S.hear A T (c.tmod 2 != 0)).1).toArray = outV (S.hear A T (c.tmod 2 != 0)).1 from rfl, opK_eq66]
    exact ⟨rfl, G6, _, _, k, h8, sim', g1, g2, by omega, st8, keeps_hear R _ _ _⟩
  have n5 := hkd
  clear hkd
  simp only [n5, if_false]
  by_cases hkd : kd = 6
  · simp [hkd]
    refine callK_of (h1.useS1 (Pe := fun en => en = .returned (.int .i64 (S.cancel T).1)) (S' := (S.cancel T).2) fun own m1 m2 l1 c1 l2 c2 pb lv hs => Cancel_calls hs hwp _) ?_
    rintro r w3 ⟨rfl, G3, h3, s3⟩
    refine ⟨_, rfl, ?_⟩
    refine callK_of (h3.useR1 (Pe := fun en => en = .returned (.int .i64 (R.cancel T).1)) (R' := (R.cancel T).2) fun own pv wv hr => DCancel hr hW' _) ?_
    rintro r w4 ⟨rfl, G4, h4, s4⟩
    refine ⟨_, rfl, ?_⟩
    obtain ⟨e, sim'⟩ := sim.cancel T
    obtain ⟨g1, g2⟩ := grow_cancel R T
    simp [e]
    exact ⟨rfl, G4, _, _, _, h4, sim', g1, g2, by omega, (st1.trans s3).trans s4, keeps_cancel R T⟩
  have n6 := hkd
  clear hkd
  simp only [n6, if_false]
  have fromLines : ∀ {en : Ending} {w' : World}, PassPost G w2 x y B R k en w' → PassPost G w x y B R k en w' := fun {en w'} ⟨e1, G', S', R', k', e2, e3, e4, e5, e6, e7, e8⟩ => ⟨e1, G', S', R', k', e2, e3, e4, e5, e6, st1.trans e7, e8⟩
  by_cases hkd : kd = 7 ∨ kd = 8
  · refine joinK1 (fun v w' => v = .bool true ∧ w' = w2) ?_ ?_
    · rcases hkd with hkd | hkd <;> simp [hkd]
    rintro v w' ⟨rfl, rfl⟩
    simp [hb0, c0]
    refine callK_of (lines_calls h1 sim hP hW hk kd A) ?_
    rintro r w3 hp
    have hr := hp.1
    subst hr
    exact ⟨_, rfl, fromLines hp⟩
  have n7 : ¬ kd = 7 := fun e => hkd (.inl e)
  have n8 : ¬ kd = 8 := fun e => hkd (.inr e)
  clear hkd
  refine joinK1 (fun v w' => v = .bool false ∧ w' = w2) ?_ ?_
  · simp [n7, n8]
  rintro v w' ⟨rfl, rfl⟩
  simp only [boolK_bool, Bool.false_eq_true, if_false]
  by_cases hkd : kd = 9
  · simp [hkd]
    refine callK_of (h1.onS fun own m1 m2 l1 c1 l2 c2 pb lv hs => Where_calls hs hq hwp _) ?_
    rintro r w3 ⟨rfl, hu3⟩
    refine ⟨_, rfl, ?_⟩
    have h3 := h1.same hu3
    simp
    refine callK_of (h3.onR fun own pv wv hr => DWhere hr hW' _) ?_
    rintro r w4 ⟨rfl, hu4⟩
    refine ⟨_, rfl, ?_⟩
    have e := sim.where_ T
    simp [e]
    exact ⟨rfl, G, S, R, k, h3.same hu4, sim, by omega, by omega, by omega, (st1.upd hu3).upd hu4, .same rfl⟩
  simp only [hkd, if_false]
  have n9 := hkd
  clear hkd
  by_cases hkd : kd = 10
  · simp [hkd]
    refine callK_of (h1.onS fun own m1 m2 l1 c1 l2 c2 pb lv hs => Word_calls hs _) ?_
    rintro r w3 ⟨rfl, rfl⟩
    refine ⟨_, rfl, ?_⟩
    simp
    refine callK_of (h1.onR fun own pv wv hr => DWord hr hP' _) ?_
    rintro r w4 ⟨rfl, rfl⟩
    refine ⟨_, rfl, ?_⟩
    have e := sim.wordOf A
    simp [e]
    exact ⟨rfl, G, S, R, k, h1, sim, by omega, by omega, by omega, st1, .same rfl⟩
  simp [hkd]
  exact ⟨rfl, G, S, R, k, h1, sim, by omega, by omega, by omega, st1, .same rfl⟩
end
end Go.Proofs.Ytaniphdbebdhhaa.Ipc
