/-
  The law's step on queues: both schedulers answer alike, and agree behind it. No condition beyond what each theorem names.
-/
import Derived.Test.YtaniphdbebdhhaaTn1
namespace Go.Proofs.Ytaniphdbebdhhaa
open Go.Vk Vk.Sched

/-- What a step leaves. -/
def TurnedPost (G : Nat → Prop) (w : World) (x y B : Nat) (R : RS) (k : Nat) (en : Ending) (w' : World) : Prop :=
  en = .returned (.bool true) ∧ ∃ G' S' R' k', BothAt G' w' x y B S' R' k' ∧ Sim S' R' ∧ Grow 12 R R' ∧ k' ≤ k + 2 ∧ Step G G' w w'

section
variable {G : Nat → Prop} {w : World} {x y B : Nat} {S : PS} {R : RS} {k : Nat}

theorem simq (h : Sim S R) (hL : R.L.length < 1000000000) : ∀ i : Nat, i < 64 → (S.q i).length < 1000000000 := fun i hi => by
  rw [sim_q h hi, List.length_map]
  exact Nat.lt_of_le_of_lt (sortTo_len _ _ _ _) hL

theorem BothAt.onS (h : BothAt G w x y B S R k) {f : FuncId} {args : Array Value} {Q : Ending → World → Prop} (hc : ∀ own tv m lv l c eb, SchedAt own w x S tv m lv l c eb → Calls Try.prog f args w Q) : Calls Try.prog f args w Q := by
  obtain ⟨own, own2, ob, bv, es, ⟨tv, m, lv, l, c, eb, h1⟩, _⟩ := h
  exact hc _ _ _ _ _ _ _ h1
theorem BothAt.onR (h : BothAt G w x y B S R k) {f : FuncId} {args : Array Value} {Q : Ending → World → Prop} (hc : ∀ own tv lv, RefAt own w y R tv lv → Calls Try.prog f args w Q) : Calls Try.prog f args w Q := by
  obtain ⟨own, own2, ob, bv, es, _, ⟨tv, lv, h2⟩, _⟩ := h
  exact hc _ _ _ h2
theorem upd_or {a b : World} (h : b = a ∨ b = a.drew) : Upd (fun _ => False) a b := by
  rcases h with rfl | rfl
  · exact Upd.refl _ _
  · exact (Upd.refl _ _).drew
theorem pick_lt (n : Int) : pickV n 12 < 12 ∧ -12 < pickV n 12 := by
  unfold pickV
  generalize (if n < 0 then IntKind.i64.wrap (-(IntKind.i64.wrap (n + 1))) else n) = q
  have h1 := Int.tmod_lt_of_pos q (show (0 : Int) < 12 by omega)
  have h2 := Int.lt_tmod_of_pos q (show (0 : Int) < 12 by omega)
  exact ⟨h1, h2⟩

set_option maxRecDepth 100000 in
theorem turned_calls (h : BothAt G w x y B S R k) (sim : Sim S R) (hL : R.L.length < 900000000) (hc : R.clock < 900000000) (hk : k < 900000000) {cs : Array Value} {kd a b c : Int}
    (c0 : cs[0]? = some (.int .i64 kd)) (c1 : cs[1]? = some (.int .i64 a)) (c2 : cs[2]? = some (.int .i64 b)) (c3 : cs[3]? = some (.int .i64 c)) :
    Calls Try.prog 15 #[.pointer (some ⟨x, 0, none⟩), .pointer (some ⟨y, 0, none⟩), .pointer (some ⟨B, 0, none⟩), .agg cs] w (TurnedPost G w x y B R k) := by
  apply vk15
  unfold vc15
  rw [opK_box]
  have hb0 : (w.alloc (.cells (Value.agg cs).cells 50)).heap[w.heap.size]? = some (.cells cs 50 (0, 0)) := alloc_new _ _
  have hnG : ¬ G w.heap.size := fun hg => by have := h.lt hg; omega
  have h1 := h.alloc (.cells (Value.agg cs).cells 50)
  have st1 := (Step.refl G w).alloc (.cells (Value.agg cs).cells 50)
  obtain ⟨w1, hw1⟩ : ∃ w1, w.alloc (.cells (Value.agg cs).cells 50) = w1 := ⟨_, rfl⟩
  obtain ⟨b0, hb0'⟩ : ∃ b0, w.heap.size = b0 := ⟨_, rfl⟩
  rw [hw1, hb0'] at hb0
  rw [hb0'] at hnG
  rw [hw1] at h1 st1
  rw [hw1, hb0']
  simp [hb0, c1]
  refine callK_of (near_calls a 7 (by decide)) ?_
  rintro r w2 ⟨rfl, rfl⟩
  refine ⟨_, rfl, ?_⟩
  simp [hb0, c0]
  have hq := simq sim (show R.L.length < 1000000000 by omega)
  have hL' : R.L.length < 1000000000 := by omega
  have hc' : 0 ≤ R.clock ∧ R.clock < 1000000000 := ⟨sim.wf.clock, by omega⟩
  have near9 : ∀ (v : Int) (w : World) (K : Value → Prop), K (.int .i64 (nearV v 9)) → stcK Try.prog 24 #[.int .i64 v, .int .i64 9] w K := fun v w K hK => stcK_of (near_calls v 9 (by decide)) hK
  by_cases hkd : kd = 1
  · simp [hkd, c2, c3]
    refine near9 _ _ _ ?_
    refine near9 _ _ _ ?_
    refine callK_of (h1.drew.useS (Pe := fun en => en = .returned (.int .i64 (S.add (nearV a 7) (nearV b 9) (nearV c 9)).1)) fun own tv m lv l c eb hs => Add_calls hs _ _ _) ?_
    rintro r w3 ⟨rfl, G3, h3, s3⟩
    refine ⟨_, rfl, ?_⟩
    obtain ⟨hb3, _⟩ := s3.keep hb0 hnG
    simp [hb3, c2, c3]
    refine near9 _ _ _ ?_
    refine near9 _ _ _ ?_
    refine callK_of (h3.drew.useR (Pe := fun en => en = .returned (.int .i64 (R.add (nearV a 7) (nearV b 9) (nearV c 9)).1)) fun own tv lv hr => RAdd_calls hr hL' _ _ _) ?_
    rintro r w4 ⟨rfl, G4, h4, s4⟩
    refine ⟨_, rfl, ?_⟩
    obtain ⟨e, sim'⟩ := sim.add (nearV a 7) (nearV b 9) (nearV c 9)
    simp [e]
    exact ⟨rfl, G4, _, _, _, h4, sim', (grow_add R _ _ _).more (by omega), by omega, (st1.drew.trans s3).drew.trans s4⟩
  have n1 := hkd
  clear hkd
  by_cases hkd : kd = 2
  · simp [hkd]
    refine callK_of (h1.useS (Pe := fun en => en = .returned (.int .i64 (S.remove (nearV a 7)).1)) fun own tv m lv l c eb hs => Remove_calls hs _) ?_
    rintro r w3 ⟨rfl, G3, h3, s3⟩
    refine ⟨_, rfl, ?_⟩
    refine callK_of (h3.useR (Pe := fun en => en = .returned (.int .i64 (R.remove (nearV a 7)).1)) fun own tv lv hr => RRemove_calls hr hL' _) ?_
    rintro r w4 ⟨rfl, G4, h4, s4⟩
    refine ⟨_, rfl, ?_⟩
    obtain ⟨e, sim'⟩ := sim.remove (nearV a 7)
    simp [e]
    exact ⟨rfl, G4, _, _, _, h4, sim', (grow_remove R (nearV a 7)).more (by omega), by omega, (st1.trans s3).trans s4⟩
  have n2 := hkd
  clear hkd
  by_cases hkd : kd = 3
  · simp [hkd]
    refine callK_of (h1.useS (Pe := fun en => en = .returned (.int .i64 (S.readyOp (nearV a 7)).1)) fun own tv m lv l c eb hs => Ready_calls hs hq _) ?_
    rintro r w3 ⟨rfl, G3, h3, s3⟩
    refine ⟨_, rfl, ?_⟩
    refine callK_of (h3.useR (Pe := fun en => en = .returned (.int .i64 (R.readyOp (nearV a 7)).1)) fun own tv lv hr => RReady_calls hc' hL' hr _) ?_
    rintro r w4 ⟨rfl, G4, h4, s4⟩
    refine ⟨_, rfl, ?_⟩
    obtain ⟨e, sim'⟩ := sim.readyOp (nearV a 7)
    simp [e]
    exact ⟨rfl, G4, _, _, _, h4, sim', (grow_ready R (nearV a 7)).more (by omega), by omega, (st1.trans s3).trans s4⟩
  have n3 := hkd
  clear hkd
  by_cases hkd : kd = 4
  · simp [hkd]
    refine callK_of (h1.useS (Pe := fun en => en = .returned (.int .i64 (S.block (nearV a 7)).1)) fun own tv m lv l c eb hs => Block_calls hs _) ?_
    rintro r w3 ⟨rfl, G3, h3, s3⟩
    refine ⟨_, rfl, ?_⟩
    refine callK_of (h3.useR (Pe := fun en => en = .returned (.int .i64 (R.block (nearV a 7)).1)) fun own tv lv hr => RBlock_calls hL' hr _) ?_
    rintro r w4 ⟨rfl, G4, h4, s4⟩
    refine ⟨_, rfl, ?_⟩
    obtain ⟨e, sim'⟩ := sim.block (nearV a 7)
    simp [e]
    exact ⟨rfl, G4, _, _, _, h4, sim', (grow_block R (nearV a 7)).more (by omega), by omega, (st1.trans s3).trans s4⟩
  have n4 := hkd
  clear hkd
  by_cases hkd : kd = 5
  · simp [hkd]
    refine callK_of (h1.useS (Pe := fun en => en = .returned (.int .i64 (S.yield (nearV a 7)).1)) fun own tv m lv l c eb hs => Yield_calls hs hq _) ?_
    rintro r w3 ⟨rfl, G3, h3, s3⟩
    refine ⟨_, rfl, ?_⟩
    refine callK_of (h3.useR (Pe := fun en => en = .returned (.int .i64 (R.yield (nearV a 7)).1)) fun own tv lv hr => RYield_calls hc' hL' hr _) ?_
    rintro r w4 ⟨rfl, G4, h4, s4⟩
    refine ⟨_, rfl, ?_⟩
    obtain ⟨e, sim'⟩ := sim.yield (nearV a 7)
    simp [e]
    exact ⟨rfl, G4, _, _, _, h4, sim', (grow_yield R (nearV a 7)).more (by omega), by omega, (st1.trans s3).trans s4⟩
  have n5 := hkd
  clear hkd
  simp only [n1, n2, n3, n4, n5, if_false]
  by_cases hkd : kd = 6
  · simp [hkd, c2]
    refine callK_of (near_calls b 9 (by decide)) ?_
    rintro r w3 ⟨rfl, rfl⟩
    refine ⟨_, rfl, ?_⟩
    refine callK_of (h1.useS (Pe := fun en => en = .returned (.int .i64 (S.prio (nearV a 7) (nearV b 9)).1)) fun own tv m lv l c eb hs => Prio_calls hs hq _ _) ?_
    rintro r w4 ⟨rfl, G3, h3, s3⟩
    refine ⟨_, rfl, ?_⟩
    obtain ⟨hb3, _⟩ := s3.keep hb0 hnG
    simp [hb3, c2]
    refine callK_of (near_calls b 9 (by decide)) ?_
    rintro r w5 ⟨rfl, rfl⟩
    refine ⟨_, rfl, ?_⟩
    refine callK_of (h3.useR (Pe := fun en => en = .returned (.int .i64 (R.prio (nearV a 7) (nearV b 9)).1)) fun own tv lv hr => RPrio_calls hc' hL' hr _ _) ?_
    rintro r w6 ⟨rfl, G4, h4, s4⟩
    refine ⟨_, rfl, ?_⟩
    obtain ⟨e, sim'⟩ := sim.prio (nearV a 7) (nearV b 9)
    simp [e]
    exact ⟨rfl, G4, _, _, _, h4, sim', (grow_prio R _ _).more (by omega), by omega, (st1.trans s3).trans s4⟩
  simp only [hkd, if_false]
  have n6 := hkd
  clear hkd
  by_cases hkd : kd = 7
  · simp only [hkd, if_true]
    refine loopK1 (fun m v' wi => ∃ (i : Nat) (Gi : Nat → Prop) (Si : PS) (Ri : RS), i ≤ 12 ∧ v' = .int .i64 i ∧ m = 12 - i ∧ BothAt Gi wi x y B Si Ri k ∧ Sim Si Ri ∧ Grow i R Ri ∧ Step G Gi w wi ∧ wi.heap[b0]? = some (.cells cs 50 (0, 0)) ∧ ¬ Gi b0) 12
      ⟨0, G, S, R, by omega, rfl, rfl, h1, sim, Grow.refl R, st1, hb0, hnG⟩ ?_
    rintro m v' wi ⟨i, Gi, Si, Ri, hi, rfl, rfl, hB, simi, hgr, sti, hbi, hni⟩
    simp [hbi, c3]
    refine callK_of (pick_calls c 12 (by decide)) ?_
    rintro r w3 ⟨rfl, rfl⟩
    refine ⟨_, rfl, ?_⟩
    obtain ⟨p1, p2⟩ := pick_lt c
    have hwr : IntKind.i64.wrap (1 + pickV c 12) = 1 + pickV c 12 := wrap_i64 (by omega) (by omega)
    by_cases hlt : (i : Int) < 1 + pickV c 12
    · have hw2 : IntKind.i64.wrap ((i : Int) + 1) = ((i + 1 : Nat) : Int) := by rw [wrap_i64 (by omega) (by omega)]; rfl
      simp [hwr, hlt, hw2, -Int.natCast_add]
      have g1 := hgr.1
      have g2 := hgr.2
      refine callK_of (hB.useS (Pe := fun en => en = .returned (.int .i64 Si.next.1)) fun own tv m lv l c eb hs => Next_calls hs (sim_pok simi (by omega))) ?_
      rintro r w4 ⟨rfl, G3, h3, s3⟩
      refine ⟨_, rfl, ?_⟩
      refine callK_of (h3.useR (Pe := fun en => en = .returned (.int .i64 Ri.next.1)) fun own tv lv hr => RNext_calls hr (sim_rok simi (by omega) (by omega))) ?_
      rintro r w5 ⟨rfl, G4, h4, s4⟩
      refine ⟨_, rfl, ?_⟩
      obtain ⟨e, sim'⟩ := simi.next
      have hst := s3.trans s4
      obtain ⟨hb5, hn5⟩ := hst.keep hbi hni
      simp [e]
      exact ⟨12 - (i + 1), by omega, i + 1, by omega, rfl, rfl, G4, _, _, h4, sim', hgr.trans (grow_next Ri), sti.trans hst, hb5, hn5⟩
    · simp [hwr, hlt]
      exact ⟨rfl, Gi, Si, Ri, k, hB, simi, hgr.more hi, by omega, sti⟩
  simp only [hkd, if_false]
  have n7 := hkd
  clear hkd
  by_cases hkd : kd = 8
  · simp only [hkd, if_true]
    refine callK_of (h1.onS fun own tv m lv l c eb hs => Turn_calls hs) ?_
    rintro r w3 ⟨rfl, rfl⟩
    refine ⟨_, rfl, ?_⟩
    simp
    refine callK_of (h1.drew.onR fun own tv lv hr => RTurn_calls hr) ?_
    rintro r w4 ⟨rfl, rfl⟩
    refine ⟨_, rfl, ?_⟩
    simp [sim.turn, sim.left]
    exact ⟨rfl, G, S, R, k, h1.drew.drew, sim, (Grow.refl R).more (by omega), by omega, st1.drew.drew⟩
  simp only [hkd, if_false]
  have n8 := hkd
  clear hkd
  by_cases hkd : kd = 9
  · simp only [hkd, if_true]
    simp [c1, c2]
    refine near9 _ _ _ ?_
    refine near9 _ _ _ ?_
    refine callK_of (h1.drew.onS fun own tv m lv l c eb hs => Queue_calls hs hq _ _) ?_
    rintro r w3 ⟨v, rfl, hu3, hr3, hv3⟩
    refine ⟨_, rfl, ?_⟩
    have hb3 : w3.heap[b0]? = some (.cells cs 50 (0, 0)) := (hu3.old b0 (blk_lt (w := w2.drew) hb0) (fun f => f)).trans hb0
    have h3 := h1.drew.same hu3
    have st3 := st1.drew.upd hu3
    simp [hb3, c1, c2]
    refine near9 _ _ _ ?_
    refine near9 _ _ _ ?_
    refine callK_of (h3.drew.onR fun own tv lv hr => RQueue_calls hr hL' sim.wf _ _) ?_
    rintro r w4 ⟨u, rfl, hu4, hr4, hv4⟩
    refine ⟨_, rfl, ?_⟩
    have h4 := h3.drew.same hu4
    have st4 := st3.drew.upd hu4
    have hr3' : w4.ownsRow 0 3 1 v (S.queue (nearV a 9) (nearV b 9)).1.length (nums (S.queue (nearV a 9) (nearV b 9)).1) :=
      row_keep hr3 fun g hg => hu4.old g (row_lt (w := w3) hr3 hg) (fun f => f)
    simp
    have hlen : (S.queue (nearV a 9) (nearV b 9)).1.length < 1000000000 := by
      rw [sim.queue]
      unfold RS.queue
      split
      · simp
      · simp only [List.length_map]
        exact Nat.lt_of_le_of_lt (sortTo_len _ _ _ _) hL'
    refine callK_of (sameInts_calls hr3' hr4 (by omega)) ?_
    rintro r w5 ⟨rfl, hu5⟩
    refine ⟨_, rfl, ?_⟩
    have h5 := h4.same hu5
    have st5 := st4.upd hu5
    have hr5 : w5.ownsRow 0 3 1 v (S.queue (nearV a 9) (nearV b 9)).1.length (nums (S.queue (nearV a 9) (nearV b 9)).1) :=
      row_keep hr3' fun g hg => hu5.old g (row_lt (w := w4) hr3' hg) (fun f => f)
    have hvG : ∀ b, v.ownBlock = some b → ¬ G b ∧ w.heap.size ≤ b := fun b hb => by
      have h6 := hv3 b hb
      have h7 := st1.2.size
      have h8 : w2.drew.heap.size = w2.heap.size := rfl
      exact ⟨fun hg => by have := h1.lt hg; omega, by omega⟩
    refine callK_of (h5.own (by omega) hr5 hlen fun b hb => (hvG b hb).1) ?_
    rintro r w6 ⟨rfl, G6, h6, ho6, hu6⟩
    refine ⟨_, rfl, ?_⟩
    have e := sim.queue (nearV a 9) (nearV b 9)
    simp [e]
    refine ⟨rfl, G6, S, R, k + 2, h6, sim, (Grow.refl R).more (by omega), by omega, fun b hb => ?_, st5.2.trans hu6 fun b hbw hb => ?_⟩
    · rcases ho6 b hb with h7 | h7 | h7
      · exact st5.1 b h7
      · exact .inr (hvG b h7).2
      · exact .inr (Nat.le_trans st5.2.size h7)
    · rcases hb with hb | hb
      · exact hb
      · have := (hvG b hb).2; omega
  simp only [hkd, if_false]
  have n9 := hkd
  clear hkd
  by_cases hkd : kd = 10
  · simp only [hkd, if_true]
    refine callK_of (h1.onS fun own tv m lv l c eb hs => Look_calls hs _) ?_
    rintro r w3 ⟨rfl, hw3⟩
    refine ⟨_, rfl, ?_⟩
    have hu3 := upd_or hw3
    have h3 := h1.same hu3
    simp
    refine callK_of (h3.onR fun own tv lv hr => RLook_calls hL' hr _) ?_
    rintro r w4 ⟨rfl, hw4⟩
    refine ⟨_, rfl, ?_⟩
    have hu4 := upd_or hw4
    have e := sim.look (nearV a 7)
    simp [e]
    exact ⟨rfl, G, S, R, k, h3.same hu4, sim, (Grow.refl R).more (by omega), by omega, (st1.upd hu3).upd hu4⟩
  simp only [hkd, if_false]
  exact ⟨rfl, G, S, R, k, h1, sim, (Grow.refl R).more (by omega), by omega, st1⟩
end
end Go.Proofs.Ytaniphdbebdhhaa
