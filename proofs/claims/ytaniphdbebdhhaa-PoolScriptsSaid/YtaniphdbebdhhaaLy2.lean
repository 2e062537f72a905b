/-
  The law's step on pages: both pools answer alike, whatever the step; the books are kept. Condition: raw numbers are Go's ints, the books are not full.
-/
import Derived.Test.YtaniphdbebdhhaaLy1
namespace Go.Proofs.Ytaniphdbebdhhaa.Pool
open Go.Vk Vk.Pool

theorem Sep.last {A B C D : HP} {G : Nat → Prop} {w : World} (h : Sep A (Sep B (Sep C D)) G w) : Sep (Sep B (Sep C A)) D G w :=
  have h1 : Sep B (Sep (Sep C D) A) G w := Sep.assoc (Sep.comm h)
  Sep.assoc' (h1.mono (fun _ h => h) fun _ h2 => Sep.assoc' ((Sep.assoc h2).mono (fun _ h => h) fun _ h3 => h3.comm))
/-- Both pools and the books. -/
def All (x r B : Nat) (R : RP) (k : Nat) : HP := Sep (PoolH x R) (Sep (RefH r R) (BooksH B k))
instance {x r B : Nat} {R : RP} {k : Nat} : Solid (All x r B R k) := by unfold All; infer_instance

theorem give_len (R : RP) (num kind order many : Int) : (R.give num kind order many).1.1.length ≤ 64 := by
  unfold RP.give
  repeat' split
  all_goals first | (simp [news]; omega) | simp
theorem sorted_len {R : RP} {ys : List Ob} (h : Sorted R ys) (hI : Inv R) : ys.length ≤ 2560 := by
  have := O_len hI
  have := G_len hI
  rw [h.1.length_eq]
  simp [RP.all]
  omega
theorem pool_inv {x : Nat} {R : RP} {G : Nat → Prop} {w : World} (h : PoolH x R G w) : Inv R := let ⟨_, _, _, _, _, h⟩ := h; h.inv

set_option maxRecDepth 100000 in
theorem objectsL_tri (x r B k : Nat) (R : RP) (hk : k < 1000000000) :
    TriE Try.prog (All x r B R k) 30 #[.pointer (some ⟨x, 0, none⟩), .pointer (some ⟨r, 0, none⟩), .pointer (some ⟨B, 0, none⟩)] (fun _ : Unit => .bool true) fun _ => All x r B R (k + 2) := by
  refine At.tri fun G w H => ?_
  have hI : Inv R := by obtain ⟨_, _, h, _⟩ := H; exact pool_inv h
  apply vk30
  unfold vc30
  refine (At.start H).call (objects_tri x R).frame ?_
  rintro ⟨v, ys⟩ w1 h1 _
  refine h1.call (rall_tri r R).frame.frameL ?_
  rintro ⟨u, zs⟩ w2 h2 _
  have hs : Sorted R ys ∧ Sorted R zs := by
    obtain ⟨_, ⟨_, _, ⟨hs1, _⟩, ⟨_, _, ⟨hs2, _⟩, _⟩, _⟩, _⟩ := h2
    exact ⟨hs1, hs2⟩
  obtain rfl : ys = zs := sorted_one hs.1.2 hs.2.2 (hs.1.1.trans hs.2.1.symm)
  have hl := sorted_len hs.1 hI
  have h3 := h2.mono (A' := Sep (Sep (PoolH x R) (Row 84 2 v ys.length (ys.flatMap obCells))) (Sep (Sep (RefH r R) (Row 84 2 u ys.length (ys.flatMap obCells))) (BooksH B k))) fun G h => h.mono (fun _ h => h.2) fun _ h => h.mono (fun _ h => h.2) fun _ h => h
  refine h3.callU (r := .bool true) ?_ ?_
  · obtain ⟨_, ⟨_, _, ⟨_, _, _, hr1, _⟩, ⟨_, _, ⟨_, _, _, hr2, _⟩, _⟩, _⟩, _⟩ := h3
    exact (sameObjects_calls hr1.1 hr2.1 (by omega)).mono fun _ _ ⟨a, b⟩ => ⟨by rw [a]; simp, b⟩
  intro w3 h4
  refine (h4.mono fun _ h => Sep.four h).call (ownObjects_tri B k v ys hk (by omega)).frame ?_
  rintro _ w4 h5 _
  exact ⟨(), rfl, (h5.mono fun _ h => Sep.last h).drop⟩

section
variable {G0 : Nat → Prop} {w0 w : World} {A : HP} {b : Nat} {cs : Array Value}

set_option maxHeartbeats 2000000 in
set_option maxRecDepth 100000 in
theorem lay_tri (x r B k : Nat) (R : RP) (hk : k < 1000000000) {cs : Array Value} {kd a b c d : Int}
    (c0 : cs[0]? = some (.int .i64 kd)) (c1 : cs[1]? = some (.int .i64 a)) (c2 : cs[2]? = some (.int .i64 b)) (c3 : cs[3]? = some (.int .i64 c)) (c4 : cs[4]? = some (.int .i64 d)) (ra : R64 a) (rb : R64 b) :
    TriE Try.prog (All x r B R k) 29 #[.pointer (some ⟨x, 0, none⟩), .pointer (some ⟨r, 0, none⟩), .pointer (some ⟨B, 0, none⟩), .agg cs] (fun _ : RP => .bool true) fun R' => Ex fun k' => Pr (k' ≤ k + 2) (All x r B R' k') := by
  refine At.tri fun G w H => ?_
  apply vk29
  unfold vc29
  rw [opK_box]
  have h0 : At G w (Sep (All x r B R k) (Cell w.heap.size (.cells cs 50 (0, 0)))) (w.alloc (.cells (Value.agg cs).cells 50)) :=
    (At.start H).new ((Upd.refl _ w).alloc _) (Nat.le_refl _) (alloc_new _ _)
  generalize w.alloc (.cells (Value.agg cs).cells 50) = w1 at h0 ⊢
  generalize w.heap.size = p at h0 ⊢
  have q0 := h0.cell
  simp [q0, c0]
  by_cases hkd : kd = 1
  · simp [hkd, q0, c1, c2]
    refine h0.callU (objectOf_calls a rb _) ?_
    intro w2 h2
    refine h2.call (add_tri x R _ (r64_obj a rb)).frame.frame ?_
    intro _ w3 h3 _
    have q3 := h3.cell
    simp [q3, c1, c2]
    refine h3.callU (objectOf_calls a rb _) ?_
    intro w4 h4
    refine h4.call (radd_tri r R _ (r64_obj a rb)).frame.frameL.frame ?_
    intro _ w5 h5 _
    simp
    exact ⟨_, h5.drop.mono fun _ h => ⟨k, by omega, h⟩⟩
  have n1 := hkd
  clear hkd
  simp only [n1, if_false]
  by_cases hkd : kd = 2
  · simp [hkd, q0, c1, c2]
    refine h0.callU (objectOf_calls a rb _) ?_
    intro w2 h2
    refine h2.call (remove_tri x R _).frame.frame ?_
    intro _ w3 h3 _
    have q3 := h3.cell
    simp [q3, c1, c2]
    refine h3.callU (objectOf_calls a rb _) ?_
    intro w4 h4
    refine h4.call (rremove_tri r R _).frame.frameL.frame ?_
    intro _ w5 h5 _
    simp
    exact ⟨_, h5.drop.mono fun _ h => ⟨k, by omega, h⟩⟩
  have n2 := hkd
  clear hkd
  simp only [n2, if_false]
  by_cases hkd : kd = 3
  · simp [hkd, q0, c1, c2]
    refine h0.callU (region_c ra _) ?_
    intro w2 h2
    refine h2.call (empty_tri x R _).frame.frame ?_
    intro _ w3 h3 _
    have q3 := h3.cell
    simp [q3, c1, c2]
    refine h3.callU (region_c ra _) ?_
    intro w4 h4
    refine h4.call (rempty_tri r R _).frame.frameL.frame ?_
    intro _ w5 h5 _
    simp
    exact ⟨_, h5.drop.mono fun _ h => ⟨k, by omega, h⟩⟩
  have n3 := hkd
  clear hkd
  simp only [n3, if_false]
  by_cases hkd : kd = 4
  · simp [hkd, q0, c1, c2]
    refine h0.callU (region_c ra _) ?_
    intro w2 h2
    refine h2.call (mark_tri x R _).frame.frame ?_
    intro _ w3 h3 _
    have q3 := h3.cell
    simp [q3, c1, c2]
    refine h3.callU (region_c ra _) ?_
    intro w4 h4
    refine h4.call (rmark_tri r R _).frame.frameL.frame ?_
    intro _ w5 h5 _
    simp
    exact ⟨_, h5.drop.mono fun _ h => ⟨k, by omega, h⟩⟩
  have n4 := hkd
  clear hkd
  simp only [n4, if_false]
  by_cases hkd : kd = 5
  · simp [hkd, q0, c1, c2]
    refine callK_of (near_calls a 64 (by decide)) ?_
    rintro _ w2 ⟨rfl, rfl⟩
    refine ⟨_, rfl, ?_⟩
    refine h0.call (at_tri x R _).frame.frame ?_
    intro _ w3 h3 _
    simp [obV]
    refine var84 _ ?_
    intro W hu f0 s0
    have h4 := h3.new hu (Nat.le_refl _) f0
    generalize w3.heap.size = v1 at h4 ⊢
    have q4 := h4.drop.cell
    simp [q4, c1, c2]
    refine callK_of (near_calls a 64 (by decide)) ?_
    rintro _ w5 ⟨rfl, rfl⟩
    refine ⟨_, rfl, ?_⟩
    refine h4.call (rat_tri r R _).frame.frameL.frame.frame ?_
    intro _ w6 h6 _
    simp [obV]
    refine var84 _ ?_
    intro W2 hu2 f2 s2
    have h7 := h6.upd hu2
    have q7 := h7.cell
    generalize w6.heap.size = v2 at f2 ⊢
    simp [f2, q7, opK_eql84]
    exact ⟨_, h7.drop.drop.mono fun _ h => ⟨k, by omega, h⟩⟩
  have n5 := hkd
  clear hkd
  simp only [n5, if_false]
  by_cases hkd : kd = 6
  · simp [hkd, q0, c1, c2, c3, c4]
    refine h0.drew.callU (region_c ra _) ?_
    intro w2 h2
    have q2 := h2.cell
    simp [q2, c2, c3, c4]
    refine stcK_of (near_calls b 10 (by decide)) ?_
    refine stcK_of (near_calls c 9 (by decide)) ?_
    refine stcK_of (near_calls d 6 (by decide)) ?_
    refine h2.call (give_tri x R _ _ _ _).frame.frame ?_
    intro v w3 h3 _
    have q3 := h3.cell
    simp [q3, c1, c2, c3, c4]
    refine h3.drew.callU (region_c ra _) ?_
    intro w4 h4
    have q4 := h4.cell
    simp [q4, c2, c3, c4]
    refine stcK_of (near_calls b 10 (by decide)) ?_
    refine stcK_of (near_calls c 9 (by decide)) ?_
    refine stcK_of (near_calls d 6 (by decide)) ?_
    refine h4.call (rgive_tri r R _ _ _ _).frame.frameL.frame ?_
    intro u w5 h5 _
    have hlen := give_len R (regV a) (nearV b 10) (nearV c 9) (nearV d 6)
    simp
    have h6 := h5.drop
    refine h6.callU (r := .bool true) ?_ ?_
    · obtain ⟨_, ⟨_, _, ⟨_, _, _, hr1, _⟩, ⟨_, _, ⟨_, _, _, hr2, _⟩, _⟩, _⟩, _⟩ := h6
      exact (sameInts_calls hr1.1 hr2.1 (by omega)).mono fun _ _ ⟨a, b⟩ => ⟨by rw [a]; simp, b⟩
    intro w6 h7
    refine (h7.mono fun _ h => Sep.four h).call (ownInts_tri B k v _ hk (by omega)).frame ?_
    intro _ w7 h8 _
    simp
    exact ⟨_, (h8.mono fun _ h => Sep.last h).drop.mono fun _ h => ⟨k + 2, by omega, h⟩⟩
  have n6 := hkd
  clear hkd
  simp only [n6, if_false]
  by_cases hkd : kd = 7
  · simp [hkd]
    refine h0.call (objectsL_tri x r B k R hk).frame ?_
    intro _ w2 h2 _
    exact ⟨rfl, _, h2.drop.mono fun _ h => ⟨k + 2, by omega, h⟩⟩
  · simp [hkd]
    exact ⟨_, h0.drop.mono fun _ h => ⟨k, by omega, h⟩⟩
end
end Go.Proofs.Ytaniphdbebdhhaa.Pool
